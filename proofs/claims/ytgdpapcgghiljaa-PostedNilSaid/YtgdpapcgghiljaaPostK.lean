/- Contracts of the receives: Match, where it refuses. -/
import Derived.Test.YtgdpapcgghiljaaPostJ
set_option linter.unusedSimpArgs false
set_option linter.unusedVariables false
namespace Go.Proofs.Ytgdpapcgghiljaa
open Go.RowKit

theorem may_len {ms : List Msg} {L : Nat → List Rcv} {rank call : Int} : (mayL ms L rank call).length ≤ 64 := by
  unfold mayL
  split
  · simp
  · split
    · simp
    · split
      · simp
      · exact Nat.le_trans (List.length_filterMap_le _ _) (senders_len ms _ _)

set_option maxRecDepth 100000 in
set_option maxHeartbeats 1000000 in
theorem match_no (p : Nat) (vs : List Value) (L : Nat → List Rcv) (q r a : Nat) (rs : List (Chan × Value)) (ats : List (Sent × Value)) (ms : List Msg) (rank call f s : Int) (w : World) (hp : PR w p vs L) (h : QR w q r a rs ats ms) (hl : ms.length ≤ 1000) (hfit : ∀ m ∈ ms, 0 ≤ m.frm ∧ m.frm ≤ 63) (hlr : (ofL L rank).length ≤ 1000)
    (hn : (mayL ms L rank call).any (itsB f s) = false) :
    Calls Try.prog 38 #[.pointer (some ⟨p, 0, none⟩), .pointer (some ⟨q, 0, none⟩), .int .i64 rank, .int .i64 call, .int .i64 f, .int .i64 s] w fun e w' => e = .returned (.int .i64 2) ∧ Chg Non w w' := by
  have hC0 : Chg Non w ((w.alloc (Obj.cells #[Value.int IntKind.i64 f] 3)).alloc (Obj.cells #[Value.int IntKind.i64 s] 3)) := ((Chg.refl _ _).alloc _).alloc _
  have c0 := hp.c0 _ hC0
  have hm := may_any p vs L q r a rs ats ms rank call _ (hp.non hC0) (h.non hC0) hl hfit hlr
  have hx1 := fun i => box_cell w #[Value.int IntKind.i64 f] 3 (S := Non) (fun e => e) i
  have hx2 := fun i => box_cell (w.alloc (Obj.cells #[Value.int IntKind.i64 f] 3)) #[Value.int IntKind.i64 s] 3 (S := Non) (fun e => e) i
  have HM := Lib.hid hm
  have X1 := Lib.hid hx1
  have X2 := Lib.hid hx2
  have HC0 := Lib.hid hC0
  have HN := Lib.hid hn
  have hlm := @may_len ms L rank call
  clear hm hp h hfit hx1 hx2 hC0 hn
  go_enter Try.func38, Try.ntmps38
  go_wp2_with fail
  refine HM.out.mono ?_
  rintro e w1 ⟨v', rfl, h1, h2, h3⟩
  obtain ⟨A, c, rfl, hr, _⟩ := h1.form
  have HR := Lib.hid hr
  have H3 := Lib.hid h3
  clear h1 h2 h3 hr
  go_wp2_with fail
  have hsz : (w.alloc (Obj.cells #[Value.int IntKind.i64 f] 3)).heap.size = w.heap.size + 1 := by simp
  have hits : ∀ m ∈ mayL ms L rank call, ∀ W, Chg Non w1 W → Calls Try.prog 68 (#[.agg m.cs] ++ #[.pointer (some ⟨w.heap.size, 0, none⟩), .pointer (some ⟨w.heap.size + 1, 0, none⟩)]) W fun e w' => e = .returned (.bool (itsB f s m)) ∧ Chg Non W w' := by
    intro m _ W hW
    refine its_any m f s _ _ W (X1.out 0 W (((Chg.refl _ _).alloc _).non (H3.out.non hW))) ?_
    rw [← hsz]
    exact X2.out 0 W (H3.out.non hW)
  clear hsz
  refine (contains_msg 68 enters68 #[.pointer (some ⟨w.heap.size, 0, none⟩), .pointer (some ⟨w.heap.size + 1, 0, none⟩)] (itsB f s) A c (mayL ms L rank call) w1 HR.out (by omega) hits).mono ?_
  rintro e w2 ⟨rfl, hc2⟩
  rw [HN.out]
  go_wp2
  go_ret
  exact ⟨rfl, HC0.out.non (H3.out.non hc2)⟩
end Go.Proofs.Ytgdpapcgghiljaa
