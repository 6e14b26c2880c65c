/- Contracts: kept over receives; the receives' own representation; New, of, place, Waiting, At. -/
import Derived.Test.YtgdpapcgghiljaaPostA
set_option linter.unusedSimpArgs false
set_option linter.unusedVariables false
namespace Go.Proofs.Ytgdpapcgghiljaa
open Go.RowKit

theorem take_snoc_filterR (p : Rcv → Bool) (ms : List Rcv) (k : Nat) (x : Rcv) (hx : ms[k]? = some x) : (ms.take (k + 1)).filter p = (ms.take k).filter p ++ (if p x then [x] else []) := by
  rw [List.take_add_one, hx, List.filter_append]
  congr 1
  cases h : p x <;> simp [h]

set_option maxRecDepth 100000 in
set_option maxHeartbeats 1000000 in
theorem kept_any (F : FuncId) (hent : ∀ (args : Array Value) (W : World), (callFunc F args).run Try.prog W = .ok (.enter F args) W) (cap : Array Value) (p : Rcv → Bool) (A : Option Addr) (c : Nat) (ms : List Rcv) (w : World) (hr : RdR w A ms) (hl : ms.length ≤ 1000)
    (hF : ∀ m ∈ ms, ∀ w', Chg Non w w' → Calls Try.prog F (#[.agg m.cs] ++ cap) w' fun e w'' => e = .returned (.bool (p m)) ∧ Chg Non w' w'') :
    Calls Try.prog 69 #[.slice A ms.length c, .func (.func F) #[] cap] w fun e w' => ∃ v', e = .returned v' ∧ RowR w' v' (ms.filter p) ∧ Fresh w v' ∧ Chg Non w w' := by
  have HF := Lib.hid hF
  clear hF
  go_enter Try.func69, Try.ntmps69
  go_wp2_with fail
  go_loopw [5, 10] (fun out j wr => ∃ k : Nat, j = .int .i64 k ∧ k ≤ ms.length ∧ RowR wr out ((ms.take k).filter p) ∧ Fresh w out ∧ Chg Non w wr) (fun _ j _ => ms.length - (intOf j).toNat)
  case atStart => exact ⟨0, rfl, by omega, by simpa using RowR.nil w, Fresh.nil w, Chg.refl _ _⟩
  case round =>
    obtain ⟨k, rfl, hk, hrow, hfr, hc⟩ := hrel
    have HR := Lib.hid hrow
    have HFR := Lib.hid hfr
    have HC := Lib.hid hc
    clear hrow hfr
    have hlen : ((ms.take k).filter p).length ≤ 1000000 := by
      have := List.length_filter_le p (ms.take k)
      simp only [List.length_take] at this
      omega
    by_cases hlt : k < ms.length
    · obtain ⟨x, hx1⟩ : ∃ x, ms[k]? = some x := ⟨ms[k], List.getElem?_eq_getElem hlt⟩
      obtain ⟨g, o, rfl, hg, e1, e2⟩ := (hr.non hc).at_ hx1
      have HX := Lib.hid hx1
      clear hx1 hc
      go_wp2_with fail
      have hbx := fun i => box_cell wr x.cs 54 (S := Non) (fun e => e) i
      have hC0 : Chg Non wr (wr.alloc (Obj.cells x.cs 54)) := (Chg.refl _ _).alloc _
      refine (HF.out x (List.mem_of_getElem? HX.out) (wr.alloc (Obj.cells x.cs 54)) (HC.out.non hC0)).mono ?_
      rintro e w1 ⟨rfl, hc1⟩
      have b0 : w1.cell? ⟨wr.heap.size, 0, none⟩ = some (.string x.key) := hbx 0 w1 hc1
      have b1 : ∀ j, j < 8 → w1.cell? ⟨wr.heap.size, j + 1, none⟩ = x.cs[j + 1]? := fun j _ => hbx (j + 1) w1 hc1
      have HC1 := Lib.hid (hC0.non hc1)
      clear hc1 e1 e2 hg hbx hC0
      cases hpx : p x
      · have HP := Lib.hid hpx
        clear hpx
        go_wp2_with fail
        go_roundw
        case rel => exact ⟨k + 1, by go_num, by omega, by rw [take_snoc_filterR p ms k x HX.out, HP.out]; simpa using HR.out.kept HC1.out (fun _ _ e => e), HFR.out, HC.out.non HC1.out⟩
        case measure => simp [intOf]; omega
      · have HP := Lib.hid hpx
        clear hpx
        go_wp2_with (at_builtin; refine wpList_appendR rfl _ _ rfl u5 _ rfl (HR.out.kept (HC1.out.non ((Chg.refl Non _).alloc _)) (fun _ _ e => e)) w1.heap.size x 1 rfl _ (heap_alloc_new _ _) rfl hlen ?_; intro gg cc w3 q1 q2 q3 q4)
        have hgt := gathered (n := ((ms.take k).filter p).length + 1) (c := cc) HFR.out HC.out (HC1.out.non ((Chg.refl _ _).alloc _)) q2 q3
        go_roundw
        case rel => exact ⟨k + 1, by go_num, by omega, by rw [take_snoc_filterR p ms k x HX.out, HP.out]; exact q1, hgt.1, hgt.2⟩
        case measure => simp [intOf]; omega
    · obtain rfl : k = ms.length := by omega
      go_wp2
      go_ret
      exact ⟨u5, rfl, by simpa using HR.out, HFR.out, HC.out⟩
end Go.Proofs.Ytgdpapcgghiljaa
