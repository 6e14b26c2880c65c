/- Contracts of the reference queue (dispatcherref13). -/
import Derived.Test.YtgdpapcgghiljaaSmall
set_option linter.unusedSimpArgs false
set_option linter.unusedVariables false
namespace Go.Proofs.Ytgdpapcgghiljaa
open Go.RowKit

/-- THE REFERENCE QUEUE at block p, its slice v, holds the messages ms. -/
structure RR (w : World) (p : Nat) (v : Value) (ms : List Msg) : Prop where
  head : w.heap[p]? = some (.cells #[v] 29 (0, 0))
  row : Row w v ms
  apart : v.ownBlock ≠ some p

section
variable {w w' : World} {p : Nat} {v : Value} {ms : List Msg}
theorem RR.lt (h : RR w p v ms) : p < w.heap.size := (Array.getElem?_eq_some_iff.1 h.head).1
theorem RR.kept {S : Nat → Prop} (h : RR w p v ms) (hc : Chg S w w') (hp : ¬ S p) (hv : ∀ g, v.ownBlock = some g → ¬ S g) : RR w' p v ms :=
  ⟨(hc.block p h.lt hp).trans h.head, h.row.kept hc hv, h.apart⟩
theorem RR.non (h : RR w p v ms) (hc : Chg Non w w') : RR w' p v ms := h.kept hc (fun e => e) (fun _ _ e => e)
theorem RR.cell (h : RR w p v ms) : w.cell? ⟨p, 0, none⟩ = some v := by rw [cell_of_row w p 0 _ 29 (0, 0) h.head]; rfl
end

/-- the place of a message -/
def plc (from_ call : Int) (ms : List Msg) : Int := idx (fun x => x.frm == from_ && x.call == call) ms

set_option maxRecDepth 100000 in
set_option maxHeartbeats 400000 in
theorem place_any (p : Nat) (v : Value) (ms : List Msg) (f c : Int) (w : World) (h : RR w p v ms) (hl : ms.length ≤ 1000000) :
    Calls Try.prog 54 #[.pointer (some ⟨p, 0, none⟩), .int .i64 f, .int .i64 c] w fun e w' => e = .returned (.int .i64 (plc f c ms)) ∧ w = w' := by
  obtain ⟨A, cp, rfl, hr, _⟩ := h.row.form
  have c0 := h.cell
  clear h
  go_enter Try.func54, Try.ntmps54
  go_wp2_with fail
  go_loop [7] (fun i => ∃ k : Nat, i = .int .i64 k ∧ k ≤ ms.length ∧ (∀ x ∈ ms.take k, (x.frm == f && x.call == c) = false)) (fun i => ms.length - (intOf i).toNat)
  case atStart => exact ⟨0, rfl, by omega, by simp⟩
  case round =>
    obtain ⟨k, rfl, hk, hno⟩ := hrel
    have HN := Lib.hid hno
    clear hno
    by_cases hlt : k < ms.length
    · obtain ⟨x, hx1⟩ : ∃ x, ms[k]? = some x := ⟨ms[k], List.getElem?_eq_getElem hlt⟩
      obtain ⟨g, o, rfl, hg, e1, e2⟩ := hr.at_ hx1
      have HX := Lib.hid hx1
      clear hx1
      cases h1 : (x.frm == f)
      · go_wp2
        go_round
        case rel => exact ⟨k + 1, by go_num, by omega, take_no HN.out HX.out (by simp [h1])⟩
        case measure => simp [intOf]; omega
      · cases h2 : (x.call == c)
        · go_wp2
          go_round
          case rel => exact ⟨k + 1, by go_num, by omega, take_no HN.out HX.out (by simp [h2])⟩
          case measure => simp [intOf]; omega
        · go_wp2
          go_ret
          exact ⟨by unfold plc; rw [idx_some HN.out HX.out (by simp [h1, h2])]; rfl, rfl⟩
    · obtain rfl : k = ms.length := by omega
      go_wp2
      go_ret
      exact ⟨by unfold plc; rw [idx_none (by simpa using HN.out)]; rfl, rfl⟩

/-- May this be sent, but for whether it was? -/
def Fit (m : Msg) : Prop := 0 ≤ m.frm ∧ m.frm ≤ 63 ∧ 0 ≤ m.dst ∧ m.dst ≤ 63 ∧ 0 ≤ m.call ∧ 0 ≤ m.tag ∧ m.tag ≤ 32767 ∧ 1 ≤ m.size ∧ m.size ≤ 64 ∧ m.taken = false
instance (m : Msg) : Decidable (Fit m) := by unfold Fit; infer_instance
/-- .. and it wasn't. -/
def Ok (ms : List Msg) (m : Msg) : Prop := Fit m ∧ plc m.frm m.call ms < 0
instance (ms : List Msg) (m : Msg) : Decidable (Ok ms m) := by unfold Ok; infer_instance

set_option maxRecDepth 100000 in
set_option maxHeartbeats 1000000 in
theorem rsend_no (p : Nat) (v : Value) (ms : List Msg) (m : Msg) (w : World) (h : RR w p v ms) (hl : ms.length ≤ 1000) (hn : ¬ Ok ms m) :
    Calls Try.prog 14 #[.pointer (some ⟨p, 0, none⟩), .agg m.cs] w fun e w' => e = .returned (.int .i64 2) ∧ Chg Non w w' := by
  have HN := Lib.hid hn
  clear hn
  go_enter Try.func14, Try.ntmps14
  go_wp2_with (go_at_call 54; refine (place_any p v ms m.frm m.call _ (h.non ((Chg.refl _ _).alloc _)) (by omega)).mono ?_; rintro e w1 ⟨rfl, rfl⟩)
  all_goals first
    | (go_ret; exact ⟨rfl, (Chg.refl _ _).alloc _⟩)
    | (exfalso; refine HN.out ⟨⟨?_, ?_, ?_, ?_, ?_, ?_, ?_, ?_, ?_, ?_⟩, ?_⟩ <;> first | assumption | (simpa using ‹¬ m.taken = true›) | omega)

theorem RR.stored {W0 w3 : World} {p : Nat} {v : Value} {ms' : List Msg} {g n c : Nat} (hp0 : p < W0.heap.size) (hhd : W0.heap[p]? = some (.cells #[v] 29 (0, 0))) (hap : v.ownBlock ≠ some p)
    (z : Chg (fun b => v.ownBlock = some b) W0 w3) (q1 : Row w3 (.slice (some ⟨g, 0, none⟩) n c) ms') (q3 : v.ownBlock = some g ∨ W0.heap.size ≤ g) :
    RR (w3.setCell ⟨p, 0, none⟩ (.slice (some ⟨g, 0, none⟩) n c)) p (.slice (some ⟨g, 0, none⟩) n c) ms' ∧ Chg (fun b => b = p ∨ v.ownBlock = some b) W0 (w3.setCell ⟨p, 0, none⟩ (.slice (some ⟨g, 0, none⟩) n c)) := by
  have hg : g ≠ p := by
    rintro rfl
    rcases q3 with q | q
    · exact hap q
    · omega
  have h3 : w3.heap[p]? = some (.cells #[v] 29 (0, 0)) := (z.block p hp0 hap).trans hhd
  have hc : Chg (fun b => b = p) w3 (w3.setCell ⟨p, 0, none⟩ (.slice (some ⟨g, 0, none⟩) n c)) := Chg.setCell (S := fun b => b = p) (Chg.refl _ _) (.inr rfl) _
  refine ⟨⟨?_, q1.kept hc (fun g' hg' e => ?_), ?_⟩, (z.mono (fun b _ e => .inr e)).trans hc (fun b _ e => .inl e)⟩
  · rw [heap_setCell_same w3 p 0 _ 29 _ h3]; rfl
  · simp [Value.ownBlock] at hg'
    omega
  · simp [Value.ownBlock]
    exact hg

set_option maxRecDepth 100000 in
set_option maxHeartbeats 1000000 in
theorem rsend_yes (p : Nat) (v : Value) (ms : List Msg) (m : Msg) (w : World) (h : RR w p v ms) (hl : ms.length ≤ 1000) (hn : Ok ms m) :
    Calls Try.prog 14 #[.pointer (some ⟨p, 0, none⟩), .agg m.cs] w fun e w' => e = .returned (.int .i64 0) ∧ ∃ v', RR w' p v' (ms ++ [m]) ∧ Chg (fun b => b = p ∨ v.ownBlock = some b) w w' ∧ (∀ g, v'.ownBlock = some g → v.ownBlock = some g ∨ w.heap.size ≤ g) := by
  obtain ⟨⟨h1, h2, h3, h4, h5, h6, h7, h8, h9, h10⟩, h11⟩ := hn
  have hp := h.lt
  have d1 : decide (m.frm < 0) = false := by simpa using h1
  have d2 : decide (63 < m.frm) = false := by simpa using h2
  have d3 : decide (m.dst < 0) = false := by simpa using h3
  have d4 : decide (63 < m.dst) = false := by simpa using h4
  have d5 : decide (m.call < 0) = false := by simpa using h5
  have d6 : decide (m.tag < 0) = false := by simpa using h6
  have d7 : decide (32767 < m.tag) = false := by simpa using h7
  have d8 : decide (m.size < 1) = false := by simp; omega
  have d9 : decide (64 < m.size) = false := by simpa using h9
  have d11 : decide (0 ≤ plc m.frm m.call ms) = false := by simp; omega
  go_enter Try.func14, Try.ntmps14
  go_wp2_with (go_at_call 54; refine (place_any p v ms m.frm m.call _ (h.non ((Chg.refl _ _).alloc _)) (by omega)).mono ?_; rintro e w1 ⟨rfl, rfl⟩)
  obtain ⟨hhd, hrow, hap⟩ := h
  have hc0 : Chg Non w (w.alloc (Obj.cells m.cs 31)) := (Chg.refl _ _).alloc _
  have hrow0 := hrow.kept hc0 (fun _ _ e => e)
  obtain ⟨A, cp, hA, _⟩ := hrow0.form
  have hhd0 := (hc0.block p hp (fun e => e)).trans hhd
  have hp0 : p < (w.alloc (Obj.cells m.cs 31)).heap.size := by simp; omega
  have hB : (w.alloc (Obj.cells m.cs 31)).heap[w.heap.size]? = some (.cells m.cs 31 (0, 0)) := heap_alloc_new w _
  generalize w.alloc (Obj.cells m.cs 31) = W0 at hc0 hrow0 hhd0 hB hp0 ⊢
  clear hhd hrow d1 d2 d3 d4 d5 d6 d7 d8 d9 d11 h1 h2 h3 h4 h5 h6 h7 h8 h9 h11
  subst hA
  have c0 : W0.cell? ⟨p, 0, none⟩ = some (Value.slice A ms.length cp) := by rw [cell_of_row W0 p 0 _ 29 (0, 0) hhd0]; rfl
  have f0 : W0.frozen? ⟨p, 0, none⟩ = false := frozen_of_row W0 p 0 _ 29 hhd0
  have e1 : W0.cell? ⟨w.heap.size, 0, none⟩ = some (.string m.key) := by rw [cell_of_row W0 _ 0 _ 31 (0, 0) hB]; rfl
  have e2 : ∀ j, j < 7 → W0.cell? ⟨w.heap.size, j + 1, none⟩ = m.cs[j + 1]? := fun j hj => by rw [cell_of_row W0 _ _ _ 31 (0, 0) hB]
  have HC0 := Lib.hid hc0
  clear hc0 hB
  go_region_law ((
    refine step_appendM (by rfl) _ _ (by rfl) (Value.slice A ms.length cp) ms (by rfl) (hrow0.kept (S := Non) (by repeat (first | exact Chg.refl _ _ | refine Chg.drew ?_ | refine Chg.alloc ?_ _)) (fun _ _ e => e)) W0.heap.size m 1 (by rfl) _ (by exact heap_alloc_new _ _) (by simp [Msg.cs, h10]) (by omega) ?_
    intro g cap w3 q1 q2 q3 q4
    have z := ((Chg.refl _ W0).alloc _).drew.same q2
    have k0 := (z.cell (p := ⟨p, 0, none⟩) hp0 hap).trans c0
    have kf := (z.frozen (p := ⟨p, 0, none⟩) hp0 hap).trans f0
    have q3' := Lib.hid q3
    have q1' := Lib.hid q1
    have z' := Lib.hid z
    clear q1 q2 q3 z))
  all_goals
    have q5 : (Value.slice A ms.length cp).ownBlock = some g ∨ W0.heap.size ≤ g := by
      rcases q3'.out with q | q
      · exact .inl q
      · exact .inr (by rw [q]; simp)
    have q6 := RR.stored hp0 hhd0 hap z'.out q1'.out q5
    go_wp2
    go_ret
    refine ⟨rfl, _, q6.1, HC0.out.any.same q6.2, fun g' hg' => ?_⟩
    have e : g = g' := by simpa [Value.ownBlock] using hg'
    subst e
    rcases q5 with q | q
    · exact .inl q
    · exact .inr (Nat.le_trans HC0.out.size q)
end Go.Proofs.Ytgdpapcgghiljaa
