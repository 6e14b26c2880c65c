/- Contract of the law's own made: messages and receives behind acts. -/
import Derived.Test.YtgdpapcgghiljaaPostS
set_option linter.unusedSimpArgs false
set_option linter.unusedVariables false
namespace Go.Proofs.Ytgdpapcgghiljaa
open Go.RowKit

/-- queue.New in one form. -/
theorem qnew_any (w : World) : Calls Try.prog 12 #[] w fun e w' => ∃ q r a, e = .returned (.pointer (some ⟨q, 0, none⟩)) ∧ QR w' q r a [] [] [] ∧ (∀ b ∈ blocksOf q r a [], w.heap.size ≤ b) ∧ Chg Non w w' := by
  refine (new_any w).mono ?_
  rintro e w' ⟨rfl, rfl⟩
  exact ⟨_, _, _, rfl, QR.made w, by simp [blocksOf], (((Chg.refl _ _).alloc _).alloc _).alloc _⟩

theorem Duo.start {w0 w1 w2 : World} {q r a p : Nat} {vs : List Value} (h1 : QR w1 q r a [] [] []) (n1 : ∀ b ∈ blocksOf q r a [], w0.heap.size ≤ b) (c1 : Chg Non w0 w1) (h2 : PR w2 p vs (fun _ => [])) (hp : w1.heap.size = p) (hv : vs.filterMap (·.ownBlock) = []) (c2 : Chg Non w1 w2) : Duo w0 w2 q r a [] [] p vs [] (fun _ => []) := by
  have hb : ∀ b ∈ blocksP p vs, b = p := fun b hb => by simpa [blocksP, hv] using hb
  refine ⟨h1.non c2, h2, n1, fun b hb' => ?_, fun b hb' e => ?_, c1.non c2⟩
  · rw [hb b hb', ← hp]; exact c1.size
  · rw [hb b hb'] at e
    have := h1.lt p e
    omega

set_option maxRecDepth 100000 in
set_option maxHeartbeats 1000000 in
theorem made_any (A : Option Addr) (c : Nat) (l : List Deed2) (w : World) (h : RdP w A l) (hl : l.length ≤ 120) :
    Calls Try.prog 34 #[.slice A l.length c] w fun e w' => ∃ q r a rs ats p vs, e = .returned (.tuple #[.pointer (some ⟨q, 0, none⟩), .pointer (some ⟨p, 0, none⟩)]) ∧ Duo w w' q r a rs ats p vs (playS l).ms (playS l).L := by
  have HA := Lib.hid h
  clear h
  go_enter Try.func34, Try.ntmps34
  go_wp2_with fail
  refine (qnew_any w).mono ?_
  rintro e w1 ⟨q, r, a, rfl, h1, n1, c1⟩
  have H1 := Lib.hid h1
  have N1 := Lib.hid n1
  have C1 := Lib.hid c1
  clear h1 n1 c1
  go_wp2_with fail
  refine (pnew_any w1).mono ?_
  rintro e w2 ⟨p, vs, rfl, h2, hp, hv, c2⟩
  have HB := Lib.hid (Duo.start H1.out N1.out C1.out h2 hp hv c2)
  clear h2 hp hv c2 H1 N1 C1
  go_wp2_with fail
  go_loopw [6] (fun i wr => ∃ k : Nat, i = .int .i64 k ∧ k ≤ l.length ∧ ∃ rs ats vs, Duo w wr q r a rs ats p vs (playS (l.take k)).ms (playS (l.take k)).L) (fun i _ => l.length - (intOf i).toNat)
  case atStart => exact ⟨0, rfl, by omega, [], [], vs, HB.out⟩
  case round =>
    obtain ⟨k, rfl, hk, rs, ats, vs', hb⟩ := hrel
    have HB1 := Lib.hid hb
    clear hb
    by_cases hlt : k < l.length
    · obtain ⟨d, hd⟩ : ∃ d, l[k]? = some d := ⟨l[k], List.getElem?_eq_getElem hlt⟩
      obtain ⟨g, o, rfl, hg, e1, ⟨e2, e3⟩, e4, e5⟩ := (HA.out.non HB1.out.chg).at_ hd
      have HD := Lib.hid hd
      clear hd
      have HW := Lib.hid (WF.fold (s := St.zero) WF.zero (l.take k))
      have hcs := deed_cells e1 ⟨e2, e3⟩ ⟨e4, e5⟩
      have HCS := Lib.hid hcs
      clear e1 e2 e3 e4 e5 hcs
      go_wp2_with (refine wpList_loadD rfl _ rfl g _ rfl d HCS.out ?_)
      have hD := HB1.out
      refine (act_any hD HW.out (by rw [List.length_take]; omega) d).mono ?_
      rintro e w3 ⟨⟨n, rfl⟩, rs', ats', vs'', g1⟩
      have G1 := Lib.hid g1
      clear g1 hD
      go_wp2_with fail
      go_roundw
      case rel => exact ⟨k + 1, by go_num, by omega, rs', ats', vs'', by unfold playS; rw [fold_snoc _ HD.out]; exact G1.out⟩
      case measure => simp [intOf]; omega
    · obtain rfl : k = l.length := by omega
      go_wp2
      exact bodyPost_ret (v := .tuple #[.pointer (some ⟨q, 0, none⟩), .pointer (some ⟨p, 0, none⟩)]) (by simp [results, Try.results34, go_sem]) rfl ⟨q, r, a, rs, ats, p, vs', rfl, by simpa using HB1.out⟩
end Go.Proofs.Ytgdpapcgghiljaa
