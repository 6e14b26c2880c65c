/- Contracts of both queues, sent to and taken from, in one form each. -/
import Derived.Test.YtgdpapcgghiljaaPlayI
set_option linter.unusedSimpArgs false
set_option linter.unusedVariables false
namespace Go.Proofs.Ytgdpapcgghiljaa
open Go.RowKit

def sndL (ms : List Msg) (m : Msg) : List Msg := if Ok ms m then ms ++ [m] else ms
def sndC (ms : List Msg) (m : Msg) : Int := if Ok ms m then 0 else 2
def tkC (ms : List Msg) (s : Sent) : Int := if ms.any (fun m => decide (m.sent = s) && !m.taken) then 0 else 2

theorem sndL_len (ms : List Msg) (m : Msg) : (sndL ms m).length ≤ ms.length + 1 := by
  unfold sndL; split <;> simp

theorem tk_len (ms : List Msg) (s : Sent) : (tk s ms).length = ms.length := by simp [tk]

theorem psend_any (q r a : Nat) (rs : List (Chan × Value)) (ats : List (Sent × Value)) (ms : List Msg) (m : Msg) (w : World) (h : QR w q r a rs ats ms) (hl : ms.length ≤ 1000) :
    Calls Try.prog 13 #[.pointer (some ⟨q, 0, none⟩), .agg m.cs] w fun e w' => e = .returned (.int .i64 (sndC ms m)) ∧ ∃ rs' ats', QR w' q r a rs' ats' (sndL ms m) ∧ Chg (In (blocksOf q r a rs)) w w' ∧ (∀ b ∈ blocksOf q r a rs', b ∈ blocksOf q r a rs ∨ w.heap.size ≤ b) := by
  by_cases hn : Ok ms m
  · simp only [sndC, sndL, if_pos hn]
    exact psend_yes q r a rs ats ms m w h hl hn
  · simp only [sndC, sndL, if_neg hn]
    refine (psend_no q r a rs ats ms m w h hn).mono ?_
    rintro e w' ⟨rfl, hc⟩
    exact ⟨rfl, rs, ats, h.non hc, hc.any, fun b hb => .inl hb⟩

theorem rsend_any (p : Nat) (v : Value) (ms : List Msg) (m : Msg) (w : World) (h : RR w p v ms) (hl : ms.length ≤ 1000) :
    Calls Try.prog 14 #[.pointer (some ⟨p, 0, none⟩), .agg m.cs] w fun e w' => e = .returned (.int .i64 (sndC ms m)) ∧ ∃ v', RR w' p v' (sndL ms m) ∧ Chg (fun b => b = p ∨ v.ownBlock = some b) w w' ∧ (∀ g, v'.ownBlock = some g → v.ownBlock = some g ∨ w.heap.size ≤ g) := by
  by_cases hn : Ok ms m
  · simp only [sndC, sndL, if_pos hn]
    exact rsend_yes p v ms m w h hl hn
  · simp only [sndC, sndL, if_neg hn]
    refine (rsend_no p v ms m w h hl hn).mono ?_
    rintro e w' ⟨rfl, hc⟩
    exact ⟨rfl, v, h.non hc, hc.any, fun g hg => .inl hg⟩

theorem tkC_none {ms : List Msg} {s : Sent} (h : ∀ m ∈ ms, m.sent ≠ s) : tkC ms s = 2 ∧ tk s ms = ms := by
  constructor
  · unfold tkC
    rw [if_neg]
    intro e
    obtain ⟨m, hm, e⟩ := List.any_eq_true.1 e
    simp only [Bool.and_eq_true, decide_eq_true_eq] at e
    exact h m hm e.1
  · unfold tk
    conv => rhs; rw [← List.map_id ms]
    exact List.map_congr_left fun x hx => by simp [tkf, h x hx]

theorem tkC_some {ms : List Msg} (hn : (ms.map (·.sent)).Nodup) {m : Msg} (hm : m ∈ ms) : tkC ms m.sent = if m.taken then 2 else 0 := by
  unfold tkC
  cases hT : m.taken
  · rw [if_pos]
    · rfl
    · exact List.any_eq_true.2 ⟨m, hm, by simp [hT]⟩
  · rw [if_neg]
    · rfl
    · intro e
      obtain ⟨x, hx, e⟩ := List.any_eq_true.1 e
      simp only [Bool.and_eq_true, decide_eq_true_eq] at e
      have := sent_inj hn hx hm e.1
      subst this
      simp [hT] at e

theorem ptake_any (q r a : Nat) (rs : List (Chan × Value)) (ats : List (Sent × Value)) (ms : List Msg) (f c : Int) (w : World) (h : QR w q r a rs ats ms) (hl : ms.length ≤ 1000) :
    Calls Try.prog 15 #[.pointer (some ⟨q, 0, none⟩), .int .i64 f, .int .i64 c] w fun e w' => e = .returned (.int .i64 (tkC ms ⟨f, c⟩)) ∧ QR w' q r a rs ats (tk ⟨f, c⟩ ms) ∧ Chg (In (blocksOf q r a rs)) w w' := by
  by_cases hn : ∀ m ∈ ms, m.sent ≠ ⟨f, c⟩
  · rw [(tkC_none hn).1, (tkC_none hn).2]
    refine (ptake_none q r a rs ats ms f c w h hn).mono ?_
    rintro e w' ⟨rfl, hc⟩
    exact ⟨rfl, h.non hc, hc.any⟩
  · have ⟨m, hm, e⟩ : ∃ m ∈ ms, m.sent = ⟨f, c⟩ := by
      apply Classical.byContradiction
      intro hx
      exact hn (fun m hm e => hx ⟨m, hm, e⟩)
    rw [← e, tkC_some h.nodup hm]
    simp only [Msg.sent, Sent.mk.injEq] at e
    obtain ⟨rfl, rfl⟩ := e
    exact ptake_some q r a rs ats ms m w h hm hl

theorem rtake_any (p : Nat) (v : Value) (ms : List Msg) (f c : Int) (w : World) (h : RR w p v ms) (hl : ms.length ≤ 1000) (hn : (ms.map (·.sent)).Nodup) :
    Calls Try.prog 16 #[.pointer (some ⟨p, 0, none⟩), .int .i64 f, .int .i64 c] w fun e w' => e = .returned (.int .i64 (tkC ms ⟨f, c⟩)) ∧ RR w' p v (tk ⟨f, c⟩ ms) ∧ Chg (fun b => v.ownBlock = some b) w w' := by
  rcases @idx_inv (fun x => x.frm == f && x.call == c) ms with ⟨h1, h2⟩ | ⟨k, m, h1, h2, h3⟩
  · have hno : ∀ m ∈ ms, m.sent ≠ ⟨f, c⟩ := plc_neg.1 (by unfold plc; rw [h1]; omega)
    rw [(tkC_none hno).1, (tkC_none hno).2]
    refine (rtake_none p v ms f c w h hl h1).mono ?_
    rintro e w' ⟨rfl, rfl⟩
    exact ⟨rfl, h, Chg.refl _ _⟩
  · simp only [Bool.and_eq_true, beq_iff_eq] at h3
    obtain ⟨rfl, rfl⟩ := h3
    have hm := List.mem_of_getElem? h2
    have e1 : (⟨m.frm, m.call⟩ : Sent) = m.sent := rfl
    rw [e1, tkC_some hn hm]
    cases hT : m.taken
    · rw [← set_eq_tk hn h2]
      exact rtake_yes p v ms m.frm m.call w k m h hl h1 h2 hT
    · rw [tk_id hn hm hT]
      refine (rtake_some p v ms m.frm m.call w k m h hl h1 h2 hT).mono ?_
      rintro e w' ⟨rfl, rfl⟩
      exact ⟨rfl, h, Chg.refl _ _⟩

/-- BOTH QUEUES HOLD THE MESSAGES ms, in blocks that are new behind w0. -/
structure Both (w0 w : World) (q r a : Nat) (rs : List (Chan × Value)) (ats : List (Sent × Value)) (p : Nat) (v : Value) (ms : List Msg) : Prop where
  qr : QR w q r a rs ats ms
  rr : RR w p v ms
  newq : ∀ b ∈ blocksOf q r a rs, w0.heap.size ≤ b
  newp : w0.heap.size ≤ p
  newv : ∀ g, v.ownBlock = some g → w0.heap.size ≤ g
  dp : p ∉ blocksOf q r a rs
  dv : ∀ g, v.ownBlock = some g → g ∉ blocksOf q r a rs
  chg : Chg Non w0 w

section
variable {w0 w w1 : World} {q r a : Nat} {rs rs' : List (Chan × Value)} {ats ats' : List (Sent × Value)} {p : Nat} {v : Value} {ms ms' : List Msg}

theorem Both.non (h : Both w0 w q r a rs ats p v ms) (hc : Chg Non w w1) : Both w0 w1 q r a rs ats p v ms :=
  ⟨h.qr.non hc, h.rr.non hc, h.newq, h.newp, h.newv, h.dp, h.dv, h.chg.non hc⟩

theorem Both.rr1 (h : Both w0 w q r a rs ats p v ms) (c1 : Chg (In (blocksOf q r a rs)) w w1) : RR w1 p v ms := h.rr.kept c1 h.dp h.dv

theorem Both.step (h : Both w0 w q r a rs ats p v ms) (h1 : QR w1 q r a rs' ats' ms') (c1 : Chg (In (blocksOf q r a rs)) w w1) (n1 : ∀ b ∈ blocksOf q r a rs', b ∈ blocksOf q r a rs ∨ w.heap.size ≤ b)
    {w2 : World} {v' : Value} (h2 : RR w2 p v' ms') (c2 : Chg (fun b => b = p ∨ v.ownBlock = some b) w1 w2) (n2 : ∀ g, v'.ownBlock = some g → v.ownBlock = some g ∨ w1.heap.size ≤ g) : Both w0 w2 q r a rs' ats' p v' ms' := by
  have hs := h.chg.size
  have hs1 := c1.size
  have hp := h.rr.lt
  have hv := h.rr.row.lt
  have hq1 := h1.lt
  have hdp : p ∉ blocksOf q r a rs' := fun hb => by
    rcases n1 p hb with hb | hb
    · exact h.dp hb
    · omega
  have hdv : ∀ g, v.ownBlock = some g → g ∉ blocksOf q r a rs' := fun g hg hb => by
    rcases n1 g hb with hb | hb
    · exact h.dv g hg hb
    · have := hv g hg; omega
  refine ⟨h1.kept c2 (fun b hb e => ?_), h2, fun b hb => ?_, h.newp, fun g hg => ?_, hdp, fun g hg hb => ?_, ?_⟩
  · rcases e with e | e
    · subst e; exact hdp hb
    · exact hdv b e hb
  · rcases n1 b hb with hb | hb
    · exact h.newq b hb
    · omega
  · rcases n2 g hg with e | e
    · exact h.newv g e
    · omega
  · rcases n2 g hg with e | e
    · exact hdv g e hb
    · have := hq1 g hb; omega
  · refine (h.chg.trans c1 (fun b hb e => ?_)).trans c2 (fun b hb e => ?_)
    · have := h.newq b e; omega
    · rcases e with e | e
      · have := h.newp; omega
      · have := h.newv b e; omega
end
end Go.Proofs.Ytgdpapcgghiljaa
