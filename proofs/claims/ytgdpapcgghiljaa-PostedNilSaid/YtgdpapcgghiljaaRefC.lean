/- Contracts of the reference queue (dispatcherref13): is, First. -/
import Derived.Test.YtgdpapcgghiljaaRefB
set_option linter.unusedSimpArgs false
set_option linter.unusedVariables false
namespace Go.Proofs.Ytgdpapcgghiljaa
open Go.RowKit

/-- Is a message one of a channel, that wasn't taken? -/
def isB (m : Msg) (c : Chan) : Bool := !m.taken && decide (m.chan = c)
/-- .. that fits a tag? -/
def fstB (c : Chan) (tag : Int) (m : Msg) : Bool := isB m c && (tag == -1 || tag == m.tag)

set_option maxHeartbeats 400000 in
theorem is_any (m : Msg) (k : ByteArray) (a b : Int) (w : World) :
    Calls Try.prog 60 #[.agg m.cs, .string k, .int .i64 a, .int .i64 b] w fun e w' => e = .returned (.bool (isB m ⟨k, a, b⟩)) ∧ Chg Non w w' := by
  have fin : ∀ x : Bool, x = isB m ⟨k, a, b⟩ → Ending.returned (.bool x) = .returned (.bool (isB m ⟨k, a, b⟩)) := fun x h => by rw [h]
  have HF := Lib.hid fin
  clear fin
  go_enter Try.func60, Try.ntmps60
  go_wp2_with fail
  all_goals
    go_ret
    refine ⟨HF.out _ ?_, (Chg.refl _ _).alloc _⟩
    have e1 := bytes_toList_inj m.key k
    clear HF
    cases hT : m.taken <;> by_cases h1 : m.key = k <;> by_cases h2 : m.frm = a <;> by_cases h3 : m.dst = b <;> simp_all [isB, Msg.chan]

theorem find_first {p : Msg → Bool} {ms : List Msg} {k : Nat} {x : Msg} (h : ∀ y ∈ ms.take k, p y = false) (hx : ms[k]? = some x) (hp : p x = true) : ms.find? p = some x := by
  obtain ⟨hk, rfl⟩ := List.getElem?_eq_some_iff.1 hx
  rw [List.find?_eq_some_iff_getElem]
  refine ⟨hp, k, hk, rfl, fun j hj => ?_⟩
  have := h ms[j] (List.mem_take_iff_getElem.2 ⟨j, by omega, rfl⟩)
  simp [this]

set_option maxRecDepth 100000 in
set_option maxHeartbeats 1000000 in
theorem rfirst_any (p : Nat) (v : Value) (ms : List Msg) (key : ByteArray) (a b_ tag : Int) (w : World) (h : RR w p v ms) (hl : ms.length ≤ 1000) :
    Calls Try.prog 26 #[.pointer (some ⟨p, 0, none⟩), .string key, .int .i64 a, .int .i64 b_, .int .i64 tag] w fun e w' => e = .returned (.tuple #[.agg ((ms.find? (fstB ⟨key, a, b_⟩ tag)).getD Msg.zero).cs, .bool (ms.find? (fstB ⟨key, a, b_⟩ tag)).isSome]) ∧ Chg Non w w' := by
  obtain ⟨A, cp, rfl, hr, hA⟩ := h.row.form
  have c0 := fun W hc => (h.non (w' := W) hc).cell
  clear h
  go_enter Try.func26, Try.ntmps26
  go_wp2_with fail
  have hN : (w.alloc (Obj.cells Msg.zero.cs 31)).heap[w.heap.size]? = some (.cells Msg.zero.cs 31 (0, 0)) := heap_alloc_new w _
  have hC : Chg Non w (w.alloc (Obj.cells Msg.zero.cs 31)) := (Chg.refl _ _).alloc _
  have hz : w.heap.size < (w.alloc (Obj.cells Msg.zero.cs 31)).heap.size := by simp
  change Code.wp _ _ _ _ (w.alloc (Obj.cells Msg.zero.cs 31))
  generalize w.alloc (Obj.cells Msg.zero.cs 31) = W0 at hN hC hz ⊢
  have HC := Lib.hid hC
  have HN := Lib.hid hN
  clear hC hN
  go_loopw [12] (fun i wr => ∃ k : Nat, i = .int .i64 k ∧ k ≤ ms.length ∧ (∀ x ∈ ms.take k, fstB ⟨key, a, b_⟩ tag x = false) ∧ Chg Non W0 wr) (fun i _ => ms.length - (intOf i).toNat)
  case atStart => exact ⟨0, rfl, by omega, by simp, Chg.refl _ _⟩
  case round =>
    obtain ⟨k, rfl, hk, hno, hc⟩ := hrel
    have HNO := Lib.hid hno
    have HC1 := Lib.hid hc
    have HC2 := Lib.hid (HC.out.non hc)
    have hN1 : wr.heap[w.heap.size]? = some (.cells Msg.zero.cs 31 (0, 0)) := (hc.block _ hz (fun e => e)).trans HN.out
    have hz1 : w.heap.size < wr.heap.size := Nat.lt_of_lt_of_le hz hc.size
    have HN1 := Lib.hid hN1
    clear hno hN1
    have k0 := fun W hW => c0 W (HC2.out.non hW)
    by_cases hlt : k < ms.length
    · obtain ⟨x, hx1⟩ : ∃ x, ms[k]? = some x := ⟨ms[k], List.getElem?_eq_getElem hlt⟩
      obtain ⟨g, o, rfl, hg, _⟩ := hr.at_ hx1
      have e1 : ∀ W, Chg Non wr W → W.cell? ⟨g, o + k * 8, none⟩ = some (.string x.key) := fun W hc => by
        obtain ⟨g', o', e, _, e1, _⟩ := (hr.non (HC2.out.non hc)).at_ hx1
        cases e; exact e1
      have e2 : ∀ W, Chg Non wr W → ∀ j, j < 7 → W.cell? ⟨g, o + k * 8 + (j + 1), none⟩ = x.cs[j + 1]? := fun W hc => by
        obtain ⟨g', o', e, _, _, e2⟩ := (hr.non (HC2.out.non hc)).at_ hx1
        cases e; exact e2
      have HX := Lib.hid hx1
      clear hx1 hc c0
      go_wp2_with fail
      have hB0 : (wr.alloc (Obj.cells x.cs 31)).heap[wr.heap.size]? = some (.cells x.cs 31 (0, 0)) := heap_alloc_new wr _
      have hCb : Chg Non wr (wr.alloc (Obj.cells x.cs 31)) := (Chg.refl _ _).alloc _
      have hsb : wr.heap.size < (wr.alloc (Obj.cells x.cs 31)).heap.size := by simp
      change Calls _ _ _ (wr.alloc (Obj.cells x.cs 31)) _
      generalize wr.alloc (Obj.cells x.cs 31) = Wb at hB0 hCb hsb ⊢
      refine (is_any x key a b_ _).mono ?_
      rintro e w1 ⟨rfl, hc1⟩
      have hB1 := (hc1.block _ hsb (fun e => e)).trans hB0
      have b1 := cell31_0 hB1
      have b2 := cell31_s hB1
      have H1 := Lib.hid (hCb.non hc1)
      have HN2 := Lib.hid (((hCb.non hc1).block _ hz1 (fun e => e)).trans HN1.out)
      clear hB0 hCb hc1 hB1 e1 e2 k0 hsb
      cases hB : isB x ⟨key, a, b_⟩
      · have HB := Lib.hid hB
        clear hB
        go_wp2
        go_roundw
        case rel => exact ⟨k + 1, by go_num, by omega, take_no HNO.out HX.out (by simp [fstB, HB.out]), HC1.out.non H1.out⟩
        case measure => simp [intOf]; omega
      · have HB := Lib.hid hB
        clear hB
        cases ht : (tag == -1 || tag == x.tag)
        · have h1 : (tag == -1) = false := by simp at ht; simp; omega
          have h2 : (tag == x.tag) = false := by simp at ht; simp; omega
          have HT := Lib.hid ht
          clear ht
          go_wp2
          go_roundw
          case rel => exact ⟨k + 1, by go_num, by omega, take_no HNO.out HX.out (by simp [fstB, HB.out, HT.out]), HC1.out.non H1.out⟩
          case measure => simp [intOf]; omega
        · have HT := Lib.hid ht
          have hfd : ms.find? (fstB ⟨key, a, b_⟩ tag) = some x := find_first HNO.out HX.out (by simp [fstB, HB.out, HT.out])
          have HFD := Lib.hid hfd
          clear ht hfd
          by_cases h1 : (tag == -1) = true
          · go_wp2_with (refine wpList_storeM rfl _ _ rfl w.heap.size rfl _ rfl x Msg.zero rfl HN2.out ?_; intro w2 p1 p2 p3)
            exact bodyPost_ret (v := .tuple #[.agg x.cs, .bool true]) (by have r0 := cell31_0 p1; have r1 := cell31_s p1; simp [results, Try.results26, go_sem, r0, r1]; rfl) rfl ⟨by rw [HFD.out]; rfl, (HC2.out.non H1.out).trans p2 (fun b hb e => by subst e; omega)⟩
          · have h1' : (tag == -1) = false := by simpa using h1
            have h2 : (tag == x.tag) = true := by have := HT.out; rw [h1'] at this; simpa using this
            clear h1
            go_wp2_with (refine wpList_storeM rfl _ _ rfl w.heap.size rfl _ rfl x Msg.zero rfl HN2.out ?_; intro w2 p1 p2 p3)
            exact bodyPost_ret (v := .tuple #[.agg x.cs, .bool true]) (by have r0 := cell31_0 p1; have r1 := cell31_s p1; simp [results, Try.results26, go_sem, r0, r1]; rfl) rfl ⟨by rw [HFD.out]; rfl, (HC2.out.non H1.out).trans p2 (fun b hb e => by subst e; omega)⟩
    · obtain rfl : k = ms.length := by omega
      have hfd : ms.find? (fstB ⟨key, a, b_⟩ tag) = none := by rw [List.find?_eq_none]; intro x hx; simp [HNO.out x (by simpa using hx)]
      have HFD := Lib.hid hfd
      clear hfd hc c0
      go_wp2_with (refine wpList_storeM rfl _ _ rfl w.heap.size rfl _ rfl Msg.zero Msg.zero rfl HN1.out ?_; intro w2 p1 p2 p3)
      exact bodyPost_ret (v := .tuple #[.agg Msg.zero.cs, .bool false]) (by have r0 := cell31_0 p1; have r1 := cell31_s p1; simp [results, Try.results26, go_sem, r0, r1]; rfl) rfl ⟨by rw [HFD.out]; rfl, HC2.out.trans p2 (fun b hb e => by subst e; omega)⟩
end Go.Proofs.Ytgdpapcgghiljaa
