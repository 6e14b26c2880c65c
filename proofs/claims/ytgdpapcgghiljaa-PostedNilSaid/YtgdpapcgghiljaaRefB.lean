/- Contracts of the reference queue (dispatcherref13): Take, Copy, Find. -/
import Derived.Test.YtgdpapcgghiljaaRefA
set_option linter.unusedSimpArgs false
set_option linter.unusedVariables false
namespace Go.Proofs.Ytgdpapcgghiljaa
open Go.RowKit

theorem idx_inv {p : Msg → Bool} {ms : List Msg} : (idx p ms = -1 ∧ ∀ x ∈ ms, p x = false) ∨ ∃ (k : Nat) (m : Msg), idx p ms = k ∧ ms[k]? = some m ∧ p m = true := by
  unfold idx
  cases h : ms.findIdx? p with
  | none => exact .inl ⟨rfl, List.findIdx?_eq_none_iff.1 h⟩
  | some k =>
    obtain ⟨hk, hp, _⟩ := List.findIdx?_eq_some_iff_getElem.1 h
    exact .inr ⟨k, ms[k], rfl, List.getElem?_eq_getElem hk, hp⟩

/-- May the message of that sender and call be taken? -/
def TakeOk (ms : List Msg) (f c : Int) : Prop := ∃ m ∈ ms, m.frm = f ∧ m.call = c ∧ m.taken = false

set_option maxRecDepth 100000 in
set_option maxHeartbeats 1000000 in
theorem rtake_none (p : Nat) (v : Value) (ms : List Msg) (f c : Int) (w : World) (h : RR w p v ms) (hl : ms.length ≤ 1000) (hn : plc f c ms = -1) :
    Calls Try.prog 16 #[.pointer (some ⟨p, 0, none⟩), .int .i64 f, .int .i64 c] w fun e w' => e = .returned (.int .i64 2) ∧ w = w' := by
  have hpl := place_any p v ms f c w h (by omega)
  rw [hn] at hpl
  have HPL := Lib.hid hpl
  clear hpl hn
  go_enter Try.func16, Try.ntmps16
  go_wp2_with (go_at_call 54; refine HPL.out.mono ?_; rintro e w1 ⟨rfl, rfl⟩)
  go_ret
  exact ⟨rfl, rfl⟩

set_option maxRecDepth 100000 in
set_option maxHeartbeats 1000000 in
theorem rtake_some (p : Nat) (v : Value) (ms : List Msg) (f c : Int) (w : World) (k : Nat) (m : Msg) (h : RR w p v ms) (hl : ms.length ≤ 1000) (hn : plc f c ms = k) (hm : ms[k]? = some m) (ht : m.taken = true) :
    Calls Try.prog 16 #[.pointer (some ⟨p, 0, none⟩), .int .i64 f, .int .i64 c] w fun e w' => e = .returned (.int .i64 2) ∧ w = w' := by
  have hpl := place_any p v ms f c w h (by omega)
  rw [hn] at hpl
  have HPL := Lib.hid hpl
  obtain ⟨A, cp, rfl, hr, _⟩ := h.row.form
  obtain ⟨g, o, rfl, hg, e1, e2⟩ := hr.at_ hm
  have c0 := h.cell
  have hk : k < ms.length := (List.getElem?_eq_some_iff.1 hm).1
  clear hpl hn h hm
  go_enter Try.func16, Try.ntmps16
  go_wp2_with (go_at_call 54; refine HPL.out.mono ?_; rintro e w1 ⟨rfl, rfl⟩)
  go_ret
  exact ⟨rfl, rfl⟩

set_option maxRecDepth 100000 in
set_option maxHeartbeats 1000000 in
theorem rtake_yes (p : Nat) (v : Value) (ms : List Msg) (f c : Int) (w : World) (k : Nat) (m : Msg) (h : RR w p v ms) (hl : ms.length ≤ 1000) (hn : plc f c ms = k) (hm : ms[k]? = some m) (ht : m.taken = false) :
    Calls Try.prog 16 #[.pointer (some ⟨p, 0, none⟩), .int .i64 f, .int .i64 c] w fun e w' => e = .returned (.int .i64 0) ∧ RR w' p v (ms.set k m.take) ∧ Chg (fun b => v.ownBlock = some b) w w' := by
  have hpl := place_any p v ms f c w h (by omega)
  rw [hn] at hpl
  have HPL := Lib.hid hpl
  have h0 := h
  obtain ⟨A, cp, rfl, hr, hA⟩ := h.row.form
  obtain ⟨g, o, rfl, hg, e1, e2⟩ := hr.at_ hm
  have c0 := h.cell
  have hk : k < ms.length := (List.getElem?_eq_some_iff.1 hm).1
  have ho : o = 0 := by have := hA g rfl; simpa using this
  subst ho
  have hfr : w.frozen? ⟨g, k * 8 + 7, none⟩ = false := h.row.frozen _
  have hrow := h.row.taken hm
  have HM := Lib.hid hm
  clear hpl hn h hm
  simp only [Nat.zero_add] at e1 e2
  go_enter Try.func16, Try.ntmps16
  go_wp2_with (go_at_call 54; refine HPL.out.mono ?_; rintro e w1 ⟨rfl, rfl⟩)
  go_ret
  have hc : Chg (fun b => (Value.slice (some ⟨g, 0, none⟩) ms.length cp).ownBlock = some b) w (w.setCell ⟨g, k * 8 + 7, none⟩ (.bool true)) := by refine Chg.set ?_ _; rfl
  exact ⟨rfl, ⟨(hc.block p h0.lt h0.apart).trans h0.head, hrow, h0.apart⟩, hc⟩

set_option maxRecDepth 100000 in
set_option maxHeartbeats 1000000 in
theorem rcopy_any (p : Nat) (v : Value) (ms : List Msg) (w : World) (h : RR w p v ms) (hl : ms.length ≤ 1000) :
    Calls Try.prog 18 #[.pointer (some ⟨p, 0, none⟩)] w fun e w' => ∃ p' v', e = .returned (.pointer (some ⟨p', 0, none⟩)) ∧ w.heap.size ≤ p' ∧ (∀ g, v'.ownBlock = some g → w.heap.size ≤ g) ∧ RR w' p' v' ms ∧ Chg Non w w' := by
  obtain ⟨A, cp, rfl, hr, hA⟩ := h.row.form
  have c0 := fun W hc => (h.non (w' := W) hc).cell
  clear h
  go_enter Try.func18, Try.ntmps18
  have hl2 : ([] : List Msg).length + ms.length ≤ 1000000 := by simp; omega
  go_wp2_with ((at_builtin; (refine wpList_appendMs rfl _ _ rfl (.slice (some ⟨w.heap.size, 0, none⟩) 0 0) [] rfl (Row.empty w) A cp ms.length ms rfl rfl (hr.non ((Chg.refl _ _).alloc _)) hl2 ?_); intro A' c' w1 q1 q2 q3))
  go_ret
  have hc1 : Chg Non w w1 := ((Chg.refl Non w).alloc _).trans q2 (fun b hb e => by simp [Value.ownBlock] at e; omega)
  simp only [List.length_nil, Nat.zero_add, List.nil_append] at q1 q3
  have hfr : ∀ g, (Value.slice A' ms.length c').ownBlock = some g → w.heap.size ≤ g := by
    intro g hg
    rcases q3 with q | q
    · rw [q] at hg; simp [Value.ownBlock] at hg; omega
    · rw [q] at hg; simp at hg; omega
  have hc2 : Chg Non w1 (w1.alloc (Obj.cells #[Value.slice A' ms.length c'] 29)) := (Chg.refl _ _).alloc _
  refine ⟨w1.heap.size, .slice A' ms.length c', rfl, hc1.size, hfr, ⟨heap_alloc_new w1 _, q1.kept hc2 (fun _ _ e => e), fun e => ?_⟩, hc1.non hc2⟩
  have := q1.lt _ e
  omega

set_option maxRecDepth 100000 in
set_option maxHeartbeats 1000000 in
theorem rfind_none (p : Nat) (v : Value) (ms : List Msg) (f c : Int) (w : World) (h : RR w p v ms) (hl : ms.length ≤ 1000) (hn : plc f c ms = -1) :
    Calls Try.prog 24 #[.pointer (some ⟨p, 0, none⟩), .int .i64 f, .int .i64 c] w fun e w' => e = .returned (.tuple #[.agg Msg.zero.cs, .bool false]) ∧ Chg Non w w' := by
  have hpl := fun W hc => place_any p v ms f c W (h.non hc) (by omega)
  rw [hn] at hpl
  have HPL := Lib.hid hpl
  clear hpl hn
  go_enter Try.func24, Try.ntmps24
  go_wp2_with (go_at_call 54; refine (HPL.out _ (by repeat (first | exact Chg.refl _ _ | refine Chg.alloc ?_ _))).mono ?_; rintro e w1 ⟨rfl, rfl⟩)
  exact bodyPost_ret (v := .tuple #[.agg Msg.zero.cs, .bool false]) (by simp [results, Try.results24, go_sem]; rfl) rfl ⟨rfl, (Chg.refl _ _).alloc _⟩

set_option maxRecDepth 100000 in
set_option maxHeartbeats 1000000 in
theorem rfind_some (p : Nat) (v : Value) (ms : List Msg) (f c : Int) (w : World) (k : Nat) (m : Msg) (h : RR w p v ms) (hl : ms.length ≤ 1000) (hn : plc f c ms = k) (hm : ms[k]? = some m) :
    Calls Try.prog 24 #[.pointer (some ⟨p, 0, none⟩), .int .i64 f, .int .i64 c] w fun e w' => e = .returned (.tuple #[.agg m.cs, .bool true]) ∧ Chg Non w w' := by
  have hpl := fun W hc => place_any p v ms f c W (h.non hc) (by omega)
  rw [hn] at hpl
  have HPL := Lib.hid hpl
  obtain ⟨A, cp, rfl, hr, hA⟩ := h.row.form
  obtain ⟨g, o, rfl, hg, _⟩ := hr.at_ hm
  have c0 := fun W hc => (h.non (w' := W) hc).cell
  have hk : k < ms.length := (List.getElem?_eq_some_iff.1 hm).1
  have e1 : ∀ W, Chg Non w W → W.cell? ⟨g, o + k * 8, none⟩ = some (.string m.key) := fun W hc => by
    obtain ⟨g', o', e, _, e1, _⟩ := (hr.non hc).at_ hm
    cases e; exact e1
  have e2 : ∀ W, Chg Non w W → ∀ j, j < 7 → W.cell? ⟨g, o + k * 8 + (j + 1), none⟩ = m.cs[j + 1]? := fun W hc => by
    obtain ⟨g', o', e, _, _, e2⟩ := (hr.non hc).at_ hm
    cases e; exact e2
  clear hpl hn h hm
  go_enter Try.func24, Try.ntmps24
  go_wp2_with (go_at_call 54; refine (HPL.out _ (by repeat (first | exact Chg.refl _ _ | refine Chg.alloc ?_ _))).mono ?_; rintro e w1 ⟨rfl, rfl⟩)
  exact bodyPost_ret (v := .tuple #[.agg m.cs, .bool true]) (by simp [results, Try.results24, go_sem]; rfl) rfl ⟨rfl, (Chg.refl _ _).alloc _⟩
end Go.Proofs.Ytgdpapcgghiljaa
