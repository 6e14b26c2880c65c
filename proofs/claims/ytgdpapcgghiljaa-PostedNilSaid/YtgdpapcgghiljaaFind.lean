/- Contracts of the program's queue: find, where the message is there. -/
import Derived.Test.YtgdpapcgghiljaaSmall
import Derived.Test.YtgdpapcgghiljaaRep
set_option linter.unusedSimpArgs false
set_option linter.unusedVariables false
namespace Go.Proofs.Ytgdpapcgghiljaa
open Go.RowKit


theorem box_cell (w : World) (cs : Array Value) (t : TypeId) {S : Nat → Prop} (hs : ¬ S w.heap.size) (i : Nat) : ∀ W, Chg S (w.alloc (.cells cs t)) W → W.cell? ⟨w.heap.size, i, none⟩ = cs[i]? := fun W hc => by
  rw [hc.cell (by simp) hs]; simp

set_option maxRecDepth 100000 in
set_option maxHeartbeats 1000000 in
theorem find_yes (q r a : Nat) (rs : List (Chan × Value)) (ats : List (Sent × Value)) (ms : List Msg) (m : Msg) (v : Value) (w : World) (h : QR w q r a rs ats ms) (hm : m ∈ ms) (hv : (m.chan, v) ∈ rs) (hl : ms.length ≤ 1000) :
    Calls Try.prog 55 #[.pointer (some ⟨q, 0, none⟩), .int .i64 m.frm, .int .i64 m.call] w fun e w' => e = .returned (.tuple #[v, .int .i64 (idx (fun x => x.call == m.call) (ofChan ms m.chan))]) ∧ Chg Non w w' := by
  have hq := h.lt q (by simp [blocksOf])
  have c0 : ∀ W, Chg Non w W → W.cell? ⟨q, 0, none⟩ = some (.map (some r)) := fun W hc => by rw [cell_of_row W q 0 _ 98 (0, 0) (h.non hc).head]; rfl
  have c1 : ∀ W, Chg Non w W → W.cell? ⟨q, 1, none⟩ = some (.map (some a)) := fun W hc => by rw [cell_of_row W q 1 _ 98 (0, 0) (h.non hc).head]; rfl
  have hlk : ∀ W, Chg Non w W → (Instr.lookup 96 (.map (some a)) (.agg #[.int .i64 m.frm, .int .i64 m.call]) true).run Try.prog W = .ok (.tuple #[.agg #[.string m.key, .int .i64 m.frm, .int .i64 m.dst], .bool true]) W := fun W hc => by
    have := (h.non hc).at_.look sentKey Try.underlying96 (zero100 W) true m.sent
    rw [h.at_yes hm] at this
    exact this
  have hrow : Row w v (ofChan ms m.chan) := h.row _ hv
  obtain ⟨A, cp, rfl, hrd, _⟩ := hrow.form
  have hlr : ∀ W, Chg Non w W → (Instr.lookup 95 (.map (some r)) (.agg #[.string m.key, .int .i64 m.frm, .int .i64 m.dst]) false).run Try.prog W = .ok (.slice A (ofChan ms m.chan).length cp) W := fun W hc => by
    have := (h.non hc).rows.look chanKey Try.underlying95 (zero27 W) false m.chan
    rw [h.rows_yes hv] at this
    exact this
  have hlen : (ofChan ms m.chan).length ≤ 1000000 := by have := List.length_filter_le (fun x => decide (x.chan = m.chan)) ms; unfold ofChan; omega
  have HH := Lib.hid h
  have Hrd := Lib.hid hrd
  clear h hm hv hrd hrow
  go_enter Try.func55, Try.ntmps55
  go_wp2_with (go_at_call 52; refine (none_no q r _ ?_).mono ?_; (try go_simp); rintro e w1 ⟨rfl, rfl⟩)
  have hbx := box_cell w #[Value.int IntKind.i64 m.call] 3 (S := Non) (fun e => e) 0
  have hC0 : Chg Non w (w.alloc (Obj.cells #[Value.int IntKind.i64 m.call] 3)) := (Chg.refl _ _).alloc _
  generalize w.alloc (Obj.cells #[Value.int IntKind.i64 m.call] 3) = W0 at hbx hC0 ⊢
  have k1 : ∀ W, Chg Non W0 W → W.cell? ⟨q, 1, none⟩ = some (.map (some a)) := fun W hc => c1 W (hC0.non hc)
  have k2 := fun W hc => hlk W (hC0.non hc)
  have HC0 := Lib.hid hC0
  clear hC0 c1 hlk
  go_region_held3 (fun W => Chg Non W0 W) ((repeat (first | assumption | exact Chg.refl _ _ | refine Chg.drew ?_ | refine Chg.alloc ?_ _))) (fail)
  all_goals
    have hbc : ∀ i W, Chg Non (W0.alloc (Obj.cells #[Value.string m.key, Value.int IntKind.i64 m.frm, Value.int IntKind.i64 m.dst] 100)).drew W → W.cell? ⟨W0.heap.size, i, none⟩ = #[Value.string m.key, Value.int IntKind.i64 m.frm, Value.int IntKind.i64 m.dst][i]? := fun i W hc => by
      rw [hc.cell (by simp) (fun e => e)]; simp
    have hC1 : Chg Non W0 (W0.alloc (Obj.cells #[Value.string m.key, Value.int IntKind.i64 m.frm, Value.int IntKind.i64 m.dst] 100)).drew := ((Chg.refl _ _).alloc _).drew
    generalize (W0.alloc (Obj.cells #[Value.string m.key, Value.int IntKind.i64 m.frm, Value.int IntKind.i64 m.dst] 100)).drew = W1 at hbc hC1 ⊢
    have hC2 := HC0.out.non hC1
    have j0 := fun W hc => c0 W (hC2.non hc)
    have j1 := fun W hc => hlr W (hC2.non hc)
    have b0 : ∀ W, Chg Non W1 W → W.cell? ⟨W0.heap.size, 0, none⟩ = some (.string m.key) := hbc 0
    have b1 : ∀ W, Chg Non W1 W → W.cell? ⟨W0.heap.size, 1, none⟩ = some (.int .i64 m.frm) := hbc 1
    have b2 : ∀ W, Chg Non W1 W → W.cell? ⟨W0.heap.size, 2, none⟩ = some (.int .i64 m.dst) := hbc 2
    have HC2 := Lib.hid hC2
    have hbx1 : ∀ W, Chg Non W1 W → W.cell? ⟨w.heap.size, 0, none⟩ = some (.int .i64 m.call) := fun W hc => hbx W (hC1.non hc)
    clear hC1 hC2 c0 hlr hbc k1 k2 hbx
    go_wp2_with fail
    go_region_held3 (fun W => Chg Non W1 W) ((repeat (first | assumption | exact Chg.refl _ _ | refine Chg.drew ?_ | refine Chg.alloc ?_ _))) (fail)
    have hb2 := hbx1 _ (Chg.refl _ _).drew
    have HC3 := HC2.out.non (Chg.refl _ W1).drew
    generalize W1.drew = W2 at hb2 HC3 ⊢
    have H3 := Lib.hid HC3
    have Hb2 := Lib.hid hb2
    clear HC3 hb2 j0 j1 b0 b1 b2 HC2
    go_wp2_with fail
    refine (index_msg 79 enters79 #[.pointer (some ⟨w.heap.size, 0, none⟩)] (fun x => x.call == m.call) A cp _ _ (Hrd.out.non H3.out) hlen (fun x hx W hc => fcall_any x _ _ W ?_)).mono ?_
    · rw [hc.cell (World.block_lt_of_cell? W2 _ Hb2.out) (fun e => e)]; exact Hb2.out
    rintro e w3 ⟨rfl, hc3⟩
    go_wp2
    go_ret2
    exact ⟨rfl, H3.out.non hc3⟩
end Go.Proofs.Ytgdpapcgghiljaa
