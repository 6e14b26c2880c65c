/- Contracts of the program's queue: Send, where it refuses. -/
import Derived.Test.YtgdpapcgghiljaaPlayE
set_option linter.unusedSimpArgs false
set_option linter.unusedVariables false
namespace Go.Proofs.Ytgdpapcgghiljaa
open Go.RowKit

theorem in_any (a b c : Int) (w : World) :
    Calls Try.prog 53 #[.int .i64 a, .int .i64 b, .int .i64 c] w fun e w' => e = .returned (.bool (decide (b ≤ a ∧ a ≤ c))) ∧ w = w' := by
  by_cases h : b ≤ a ∧ a ≤ c
  · rw [decide_eq_true h]; exact in_yes a b c w h
  · rw [decide_eq_false h]; exact in_no a b c w h

theorem plc_neg {f c : Int} {ms : List Msg} : plc f c ms < 0 ↔ ∀ m ∈ ms, m.sent ≠ ⟨f, c⟩ := by
  unfold plc
  rcases @idx_inv (fun x => x.frm == f && x.call == c) ms with ⟨h1, h2⟩ | ⟨k, x, h1, h2, h3⟩
  · rw [h1]
    refine ⟨fun _ m hm e => ?_, fun _ => by omega⟩
    have := h2 m hm
    simp only [Msg.sent, Sent.mk.injEq] at e
    simp [e.1, e.2] at this
  · rw [h1]
    refine ⟨fun h => by omega, fun h => ?_⟩
    have e := h x (List.mem_of_getElem? h2)
    simp only [Msg.sent, ne_eq, Sent.mk.injEq] at e
    simp at h3
    exact absurd h3 e

section
variable {w : World} {q r a : Nat} {rs : List (Chan × Value)} {ats : List (Sent × Value)} {ms : List Msg}
set_option maxRecDepth 100000 in
/-- 'q.at[s]' -/
theorem QR.lookAt (h : QR w q r a rs ats ms) (f c : Int) : ∃ (c' : Chan) (b : Bool), (b = false ↔ plc f c ms < 0) ∧ ∀ W, Chg Non w W → (Instr.lookup 96 (.map (some a)) (.agg #[.int .i64 f, .int .i64 c]) true).run Try.prog W = .ok (.tuple #[.agg #[.string c'.key, .int .i64 c'.frm, .int .i64 c'.dst], .bool b]) W := by
  by_cases hn : ∀ m ∈ ms, m.sent ≠ ⟨f, c⟩
  · exact ⟨⟨⟨#[]⟩, 0, 0⟩, false, ⟨fun _ => plc_neg.2 hn, fun _ => rfl⟩, h.lookNo hn⟩
  · have ⟨m, hm, e⟩ : ∃ m ∈ ms, m.sent = ⟨f, c⟩ := by
      apply Classical.byContradiction
      intro hx
      exact hn (fun m hm e => hx ⟨m, hm, e⟩)
    simp only [Msg.sent, Sent.mk.injEq] at e
    obtain ⟨rfl, rfl⟩ := e
    exact ⟨m.chan, true, ⟨(fun e => nomatch e), (fun e => absurd (plc_neg.1 e) hn)⟩, h.lookYes hm⟩
end

set_option maxRecDepth 100000 in
set_option maxHeartbeats 1000000 in
theorem psend_no (q r a : Nat) (rs : List (Chan × Value)) (ats : List (Sent × Value)) (ms : List Msg) (m : Msg) (w : World) (h : QR w q r a rs ats ms) (hn : ¬ Ok ms m) :
    Calls Try.prog 13 #[.pointer (some ⟨q, 0, none⟩), .agg m.cs] w fun e w' => e = .returned (.int .i64 2) ∧ Chg Non w w' := by
  have hq := h.lt q (by simp [blocksOf])
  have c0 := h.c0
  have c1 := h.c1
  obtain ⟨ca, bb, hbb, hlk⟩ := h.lookAt m.frm m.call
  have HB := Lib.hid hbb
  have HN := Lib.hid hn
  clear h hn hbb
  go_enter Try.func13, Try.ntmps13
  go_wp2_with (go_at_call 52; refine (none_no q r _ ?_).mono ?_; (try go_simp); rintro e w1 ⟨rfl, rfl⟩)
  have hbx := fun i => box_cell w m.cs 31 (S := Non) (fun e => e) i
  have hC0 : Chg Non w (w.alloc (Obj.cells m.cs 31)) := (Chg.refl _ _).alloc _
  generalize w.alloc (Obj.cells m.cs 31) = W0 at hbx hC0 ⊢
  have k1 : ∀ W, Chg Non W0 W → W.cell? ⟨q, 1, none⟩ = some (.map (some a)) := fun W hc => c1 W (hC0.non hc)
  have k2 := fun W hc => hlk W (hC0.non hc)
  have k3 : ∀ W, Chg Non W0 W → W.cell? ⟨w.heap.size, 1, none⟩ = some (.int .i64 m.frm) := hbx 1
  have k4 : ∀ W, Chg Non W0 W → W.cell? ⟨w.heap.size, 3, none⟩ = some (.int .i64 m.call) := hbx 3
  have HC0 := Lib.hid hC0
  clear hC0 c1 c0 hlk
  have HBX := Lib.hid hbx
  clear hbx
  go_region_held3 (fun W => Chg Non W0 W) ((repeat (first | assumption | exact Chg.refl _ _ | refine Chg.drew ?_ | refine Chg.alloc ?_ _))) (fail)
  all_goals
    have hC1 : Chg Non W0 (W0.alloc (Obj.cells #[Value.string ca.key, Value.int IntKind.i64 ca.frm, Value.int IntKind.i64 ca.dst] 100)).drew := ((Chg.refl _ _).alloc _).drew
    generalize (W0.alloc (Obj.cells #[Value.string ca.key, Value.int IntKind.i64 ca.frm, Value.int IntKind.i64 ca.dst] 100)).drew = W1 at hC1 ⊢
    have g0 : W1.cell? ⟨w.heap.size, 0, none⟩ = some (.string m.key) := HBX.out 0 W1 hC1
    have g1 : W1.cell? ⟨w.heap.size, 1, none⟩ = some (.int .i64 m.frm) := HBX.out 1 W1 hC1
    have g2 : W1.cell? ⟨w.heap.size, 2, none⟩ = some (.int .i64 m.dst) := HBX.out 2 W1 hC1
    have g3 : W1.cell? ⟨w.heap.size, 3, none⟩ = some (.int .i64 m.call) := HBX.out 3 W1 hC1
    have g4 : W1.cell? ⟨w.heap.size, 4, none⟩ = some (.int .i64 m.tag) := HBX.out 4 W1 hC1
    have g6 : W1.cell? ⟨w.heap.size, 6, none⟩ = some (.int .i64 m.size) := HBX.out 6 W1 hC1
    have g7 : W1.cell? ⟨w.heap.size, 7, none⟩ = some (.bool m.taken) := HBX.out 7 W1 hC1
    have HC1 := Lib.hid (HC0.out.non hC1)
    rename_i hHeld_; clear k1 k2 k3 k4 hC1 hHeld_
    go_wp2_with (go_at_call 53; refine (in_any _ _ _ _).mono ?_; rintro e w1 ⟨rfl, rfl⟩)
    all_goals first
      | (go_ret; exact ⟨rfl, HC1.out⟩)
      | (exfalso
         have hb : bb = false := by simpa using ‹¬ bb = true›
         have ht : m.taken = false := by simpa using ‹¬ m.taken = true›
         have hp := HB.out.1 hb
         refine HN.out ⟨⟨?_, ?_, ?_, ?_, ?_, ?_, ?_, ?_, ?_, ht⟩, hp⟩ <;> simp_all <;> omega)
end Go.Proofs.Ytgdpapcgghiljaa
