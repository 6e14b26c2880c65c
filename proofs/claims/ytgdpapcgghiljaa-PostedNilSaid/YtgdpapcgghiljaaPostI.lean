/- Contracts of the receives: Post in one form; Match's own test; Fits. -/
import Derived.Test.YtgdpapcgghiljaaPostH
set_option linter.unusedSimpArgs false
set_option linter.unusedVariables false
namespace Go.Proofs.Ytgdpapcgghiljaa
open Go.RowKit

open Classical in
/-- What Post leaves, and answers. -/
noncomputable def postL (L : Nat → List Rcv) (x : Rcv) : Nat → List Rcv := if PostOk L x then upd L x.rank.toNat (L x.rank.toNat ++ [x.fresh]) else L
open Classical in
noncomputable def postC (L : Nat → List Rcv) (x : Rcv) : Int := if PostOk L x then 0 else 2

theorem post_any (p : Nat) (vs : List Value) (L : Nat → List Rcv) (x : Rcv) (w : World) (h : PR w p vs L) (hlr : (ofL L x.rank).length ≤ 1000) :
    Calls Try.prog 36 #[.pointer (some ⟨p, 0, none⟩), .agg x.cs] w fun e w' => e = .returned (.int .i64 (postC L x)) ∧ ∃ vs', PR w' p vs' (postL L x) ∧ Chg (In (blocksP p vs)) w w' ∧ (∀ b ∈ blocksP p vs', b ∈ blocksP p vs ∨ w.heap.size ≤ b) := by
  by_cases hn : PostOk L x
  · simp only [postC, postL, if_pos hn]
    exact post_yes p vs L x w h hlr hn
  · simp only [postC, postL, if_neg hn]
    refine (post_no p vs L x w h hlr hn).mono ?_
    rintro e w' ⟨rfl, hc⟩
    exact ⟨rfl, vs, h.non hc, hc.any, fun b hb => .inl hb⟩

/-- is it that sender's call? -/
def itsB (f c : Int) (m : Msg) : Bool := m.frm == f && m.call == c

set_option maxHeartbeats 400000 in
theorem its_any (m : Msg) (f c : Int) (bf bc : Nat) (w : World) (c0 : w.cell? ⟨bf, 0, none⟩ = some (.int .i64 f)) (c1 : w.cell? ⟨bc, 0, none⟩ = some (.int .i64 c)) :
    Calls Try.prog 68 (#[.agg m.cs] ++ #[.pointer (some ⟨bf, 0, none⟩), .pointer (some ⟨bc, 0, none⟩)]) w fun e w' => e = .returned (.bool (itsB f c m)) ∧ Chg Non w w' := by
  have hb : bf < w.heap.size := World.block_lt_of_cell? w _ c0
  have hb' : bc < w.heap.size := World.block_lt_of_cell? w _ c1
  have fin : ∀ x : Bool, x = itsB f c m → Ending.returned (.bool x) = .returned (.bool (itsB f c m)) := fun x h => by rw [h]
  have HF := Lib.hid fin
  clear fin
  go_enter Try.func68, Try.ntmps68
  go_wp2_with fail
  all_goals
    go_ret
    refine ⟨HF.out _ ?_, (Chg.refl _ _).alloc _⟩
    clear HF
    by_cases h1 : m.frm = f <;> by_cases h2 : m.call = c <;> simp_all [itsB]

set_option maxRecDepth 100000 in
set_option maxHeartbeats 400000 in
theorem pfits_any (r : Rcv) (m : Msg) (w : World) : Calls Try.prog 40 #[.agg r.cs, .agg m.cs] w fun e w' => e = .returned (.bool (fitsB r m)) ∧ Chg Non w w' := by
  go_enter Try.func40, Try.ntmps40
  go_wp2_with (go_at_call 71; refine (fits_any r m _).mono ?_; rintro e w1 ⟨rfl, hc⟩)
  go_ret
  exact ⟨rfl, (((Chg.refl _ _).alloc _).alloc _).non hc⟩
end Go.Proofs.Ytgdpapcgghiljaa
