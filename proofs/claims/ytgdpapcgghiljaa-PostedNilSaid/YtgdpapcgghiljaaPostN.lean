/- Contracts of the receives: Match, in one form. -/
import Derived.Test.YtgdpapcgghiljaaPostM
set_option linter.unusedSimpArgs false
set_option linter.unusedVariables false
namespace Go.Proofs.Ytgdpapcgghiljaa
open Go.RowKit

/-- A rank's receives behind a match. -/
def gotL (l : List Rcv) (call f s : Int) : List Rcv := match l.findIdx? (fun r => r.call == call) with
  | none => l
  | some i => match l[i]? with
    | none => l
    | some x => l.set i (x.got f s)

/-- Is it matched? -/
def matchB (ms : List Msg) (L : Nat → List Rcv) (rank call f s : Int) : Bool := (mayL ms L rank call).any (itsB f s)
def matchM (ms : List Msg) (L : Nat → List Rcv) (rank call f s : Int) : List Msg := if matchB ms L rank call f s then tk ⟨f, s⟩ ms else ms
def matchR (ms : List Msg) (L : Nat → List Rcv) (rank call f s : Int) : Nat → List Rcv := if matchB ms L rank call f s then upd L rank.toNat (gotL (L rank.toNat) call f s) else L

theorem match_any (p : Nat) (vs : List Value) (L : Nat → List Rcv) (q r a : Nat) (rs : List (Chan × Value)) (ats : List (Sent × Value)) (ms : List Msg) (rank call f s : Int) (w : World) (hp : PR w p vs L) (h : QR w q r a rs ats ms) (hl : ms.length ≤ 1000) (hfit : ∀ m ∈ ms, 0 ≤ m.frm ∧ m.frm ≤ 63) (hlr : (ofL L rank).length ≤ 1000)
    (hdis : ∀ b ∈ blocksP p vs, b ∉ blocksOf q r a rs) :
    Calls Try.prog 38 #[.pointer (some ⟨p, 0, none⟩), .pointer (some ⟨q, 0, none⟩), .int .i64 rank, .int .i64 call, .int .i64 f, .int .i64 s] w fun e w' => e = .returned (.int .i64 (if matchB ms L rank call f s then 0 else 2)) ∧ QR w' q r a rs ats (matchM ms L rank call f s) ∧ PR w' p vs (matchR ms L rank call f s) ∧ Chg (fun b => In (blocksOf q r a rs) b ∨ In (blocksP p vs) b) w w' := by
  cases hn : matchB ms L rank call f s
  · simp only [matchM, matchR, hn, Bool.false_eq_true, if_false]
    refine (match_no p vs L q r a rs ats ms rank call f s w hp h hl hfit hlr hn).mono ?_
    rintro e w' ⟨rfl, hc⟩
    exact ⟨rfl, h.non hc, hp.non hc, hc.any⟩
  · simp only [matchM, matchR, hn, if_true]
    obtain ⟨m, hm, _⟩ := List.any_eq_true.1 hn
    obtain ⟨i, x, hi, hx, _, _⟩ := may_mem hm
    obtain ⟨hr, ho⟩ := ofL_pos hx
    rw [ho] at hi hx
    have hg : gotL (L rank.toNat) call f s = (L rank.toNat).set i (x.got f s) := by simp [gotL, hi, hx]
    rw [hg]
    exact match_yes p vs L q r a rs ats ms rank call f s w hp h hl hfit hlr hdis hn rank.toNat i x (by omega) (by omega) hx (by unfold plcR idxR; rw [ho, hi])
end Go.Proofs.Ytgdpapcgghiljaa
