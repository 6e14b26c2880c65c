/- A queue and receives beside one another: what stays between steps. -/
import Derived.Test.YtgdpapcgghiljaaPostO
set_option linter.unusedSimpArgs false
set_option linter.unusedVariables false
namespace Go.Proofs.Ytgdpapcgghiljaa
open Go.RowKit

/-- THE QUEUE AND THE RECEIVES, in blocks that are new behind w0 and not shared. -/
structure Duo (w0 w : World) (q r a : Nat) (rs : List (Chan × Value)) (ats : List (Sent × Value)) (p : Nat) (vs : List Value) (ms : List Msg) (L : Nat → List Rcv) : Prop where
  qr : QR w q r a rs ats ms
  pr : PR w p vs L
  newq : ∀ b ∈ blocksOf q r a rs, w0.heap.size ≤ b
  newp : ∀ b ∈ blocksP p vs, w0.heap.size ≤ b
  dis : ∀ b ∈ blocksP p vs, b ∉ blocksOf q r a rs
  chg : Chg Non w0 w

section
variable {w0 w w1 : World} {q r a : Nat} {rs rs' : List (Chan × Value)} {ats ats' : List (Sent × Value)} {p : Nat} {vs vs' : List Value} {ms ms' : List Msg} {L L' : Nat → List Rcv}

theorem Duo.non (h : Duo w0 w q r a rs ats p vs ms L) (hc : Chg Non w w1) : Duo w0 w1 q r a rs ats p vs ms L :=
  ⟨h.qr.non hc, h.pr.non hc, h.newq, h.newp, h.dis, h.chg.non hc⟩

/-- The queue has turned. -/
theorem Duo.stepQ (h : Duo w0 w q r a rs ats p vs ms L) (h1 : QR w1 q r a rs' ats' ms') (c1 : Chg (In (blocksOf q r a rs)) w w1) (n1 : ∀ b ∈ blocksOf q r a rs', b ∈ blocksOf q r a rs ∨ w.heap.size ≤ b) : Duo w0 w1 q r a rs' ats' p vs ms' L := by
  have hs := h.chg.size
  refine ⟨h1, h.pr.kept c1 (fun b hb e => h.dis b hb e), fun b hb => ?_, h.newp, fun b hb e => ?_, h.chg.trans c1 (fun b hb e => ?_)⟩
  · rcases n1 b hb with hb | hb
    · exact h.newq b hb
    · omega
  · rcases n1 b e with e | e
    · exact h.dis b hb e
    · have := h.pr.lt b hb; omega
  · have := h.newq b e; omega

/-- The receives have turned. -/
theorem Duo.stepP (h : Duo w0 w q r a rs ats p vs ms L) (h1 : PR w1 p vs' L') (c1 : Chg (In (blocksP p vs)) w w1) (n1 : ∀ b ∈ blocksP p vs', b ∈ blocksP p vs ∨ w.heap.size ≤ b) : Duo w0 w1 q r a rs ats p vs' ms L' := by
  have hs := h.chg.size
  refine ⟨h.qr.kept c1 (fun b hb e => h.dis b e hb), h1, h.newq, fun b hb => ?_, fun b hb e => ?_, h.chg.trans c1 (fun b hb e => ?_)⟩
  · rcases n1 b hb with hb | hb
    · exact h.newp b hb
    · omega
  · rcases n1 b hb with hb | hb
    · exact h.dis b hb e
    · have := h.qr.lt b e; omega
  · have := h.newp b e; omega

/-- Both have turned, in their own blocks. -/
theorem Duo.step2 (h : Duo w0 w q r a rs ats p vs ms L) (h1 : QR w1 q r a rs ats' ms') (h2 : PR w1 p vs L') (c1 : Chg (fun b => In (blocksOf q r a rs) b ∨ In (blocksP p vs) b) w w1) : Duo w0 w1 q r a rs ats' p vs ms' L' := by
  have hs := h.chg.size
  refine ⟨h1, h2, h.newq, h.newp, h.dis, h.chg.trans c1 (fun b hb e => ?_)⟩
  rcases e with e | e
  · have := h.newq b e; omega
  · have := h.newp b e; omega
end
end Go.Proofs.Ytgdpapcgghiljaa
