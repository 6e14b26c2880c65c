/- Contracts of messages and receives beside one another, each in one form. -/
import Derived.Test.YtgdpapcgghiljaaPostT
set_option linter.unusedSimpArgs false
set_option linter.unusedVariables false
namespace Go.Proofs.Ytgdpapcgghiljaa
open Go.RowKit

section
variable {k : Nat} {w0 w : World} {q r a : Nat} {rs : List (Chan × Value)} {ats : List (Sent × Value)} {p : Nat} {vs : List Value} {ms : List Msg} {L : Nat → List Rcv}

theorem Duo.freshQ (h : Duo w0 w q r a rs ats p vs ms L) {v : Value} (hv : Fresh w v) : ∀ g, v.ownBlock = some g → ¬ (In (blocksOf q r a rs) g ∨ In (blocksP p vs) g) := by
  rintro g hg (e | e)
  · have := h.qr.lt g e; have := hv g hg; omega
  · have := h.pr.lt g e; have := hv g hg; omega

theorem dsend (h : Duo w0 w q r a rs ats p vs ms L) (hw : WF k ms L) (hk : k ≤ 1000) (m : Msg) :
    Calls Try.prog 13 #[.pointer (some ⟨q, 0, none⟩), .agg m.cs] w fun e w' => e = .returned (.int .i64 (sndC ms m)) ∧ ∃ rs' ats', Duo w0 w' q r a rs' ats' p vs (sndL ms m) L := by
  refine (psend_any q r a rs ats ms m w h.qr (Nat.le_trans hw.len hk)).mono ?_
  rintro e w' ⟨rfl, rs', ats', h1, h2, h3⟩
  exact ⟨rfl, rs', ats', h.stepQ h1 h2 h3⟩

theorem dpost (h : Duo w0 w q r a rs ats p vs ms L) (hw : WF k ms L) (hk : k ≤ 1000) (x : Rcv) :
    Calls Try.prog 36 #[.pointer (some ⟨p, 0, none⟩), .agg x.cs] w fun e w' => e = .returned (.int .i64 (postC L x)) ∧ ∃ vs', Duo w0 w' q r a rs ats p vs' ms (postL L x) := by
  refine (post_any p vs L x w h.pr (Nat.le_trans (hw.of _) hk)).mono ?_
  rintro e w' ⟨rfl, vs', h1, h2, h3⟩
  exact ⟨rfl, vs', h.stepP h1 h2 h3⟩

theorem dmay (h : Duo w0 w q r a rs ats p vs ms L) (hw : WF k ms L) (hk : k ≤ 1000) (rank call : Int) :
    Calls Try.prog 37 #[.pointer (some ⟨p, 0, none⟩), .pointer (some ⟨q, 0, none⟩), .int .i64 rank, .int .i64 call] w fun e w' => ∃ v', e = .returned v' ∧ Row w' v' (mayL ms L rank call) ∧ Fresh w v' ∧ Chg Non w w' :=
  may_any p vs L q r a rs ats ms rank call w h.pr h.qr (Nat.le_trans hw.len hk) hw.fit (Nat.le_trans (hw.of _) hk)

theorem dprobe (h : Duo w0 w q r a rs ats p vs ms L) (hw : WF k ms L) (hk : k ≤ 1000) (x : Rcv) :
    Calls Try.prog 35 #[.pointer (some ⟨p, 0, none⟩), .pointer (some ⟨q, 0, none⟩), .agg x.cs] w fun e w' => ∃ v', e = .returned v' ∧ Row w' v' (probeL ms L x) ∧ Fresh w v' ∧ Chg Non w w' :=
  probe_any p vs L q r a rs ats ms x w h.pr h.qr (Nat.le_trans hw.len hk) hw.fit (Nat.le_trans (hw.of _) hk)

theorem dwait (h : Duo w0 w q r a rs ats p vs ms L) (hw : WF k ms L) (hk : k ≤ 1000) (rank : Int) :
    Calls Try.prog 39 #[.pointer (some ⟨p, 0, none⟩), .int .i64 rank] w fun e w' => ∃ v', e = .returned v' ∧ RowR w' v' ((ofL L rank).filter waitB) ∧ Fresh w v' ∧ Chg Non w w' :=
  pwaiting_any p vs L rank w h.pr (Nat.le_trans (hw.of _) hk)

theorem dmatch (h : Duo w0 w q r a rs ats p vs ms L) (hw : WF k ms L) (hk : k ≤ 1000) (rank call f s : Int) :
    Calls Try.prog 38 #[.pointer (some ⟨p, 0, none⟩), .pointer (some ⟨q, 0, none⟩), .int .i64 rank, .int .i64 call, .int .i64 f, .int .i64 s] w fun e w' => e = .returned (.int .i64 (if matchB ms L rank call f s then 0 else 2)) ∧ Duo w0 w' q r a rs ats p vs (matchM ms L rank call f s) (matchR ms L rank call f s) ∧ Chg (fun b => In (blocksOf q r a rs) b ∨ In (blocksP p vs) b) w w' := by
  refine (match_any p vs L q r a rs ats ms rank call f s w h.pr h.qr (Nat.le_trans hw.len hk) hw.fit (Nat.le_trans (hw.of _) hk) h.dis).mono ?_
  rintro e w' ⟨rfl, h1, h2, h3⟩
  exact ⟨rfl, h.step2 h1 h2 h3, h3⟩

theorem dmatch_no (h : Duo w0 w q r a rs ats p vs ms L) (hw : WF k ms L) (hk : k ≤ 1000) (rank call f s : Int) (hn : matchB ms L rank call f s = false) :
    Calls Try.prog 38 #[.pointer (some ⟨p, 0, none⟩), .pointer (some ⟨q, 0, none⟩), .int .i64 rank, .int .i64 call, .int .i64 f, .int .i64 s] w fun e w' => e = .returned (.int .i64 2) ∧ Chg Non w w' :=
  match_no p vs L q r a rs ats ms rank call f s w h.pr h.qr (Nat.le_trans hw.len hk) hw.fit (Nat.le_trans (hw.of _) hk) hn
end

/-! ### the chapter's example, in plain words -/
def mg (call tag : Int) : Msg := ⟨⟨#[]⟩, 1, 0, call, tag, 0, 1, false⟩
def rc (call peer tag : Int) : Rcv := ⟨⟨#[]⟩, 0, call, peer, tag, -1, false, 0, 0⟩
def aL (n : Nat) : Nat → List Rcv := fun j => if j = 0 then [rc 0 (-1) 5, rc 1 1 (-1)].take n else []

theorem aL0 : (fun _ => []) = aL 0 := by
  funext j; unfold aL; split <;> rfl
theorem upd0 (L : Nat → List Rcv) (l : List Rcv) : upd L 0 l = fun j => if j = 0 then l else L j := rfl

theorem post0 : PostOk (aL 0) (rc 0 (-1) 5) := by
  refine ⟨by decide, by decide, by decide, by decide, by decide, fun y hy => ?_⟩
  have : (ofL (aL 0) (rc 0 (-1) 5).rank) = [] := by decide
  rw [this] at hy
  cases hy
theorem post1 : PostOk (aL 1) (rc 1 1 (-1)) := by
  refine ⟨by decide, by decide, by decide, by decide, by decide, fun y hy => ?_⟩
  have : (ofL (aL 1) (rc 1 1 (-1)).rank) = [rc 0 (-1) 5] := by decide
  rw [this] at hy
  cases hy
  decide
theorem post2 : ¬ PostOk (aL 2) (rc 1 1 1) := by
  rintro ⟨_, _, _, _, _, h⟩
  have h1 : (ofL (aL 2) (rc 1 1 1).rank) = [rc 0 (-1) 5, rc 1 1 (-1)] := by decide
  have := h (rc 1 1 (-1)) (by rw [h1]; rfl)
  revert this
  decide
theorem posts0 : postC (fun _ => []) (rc 0 (-1) 5) = 0 ∧ postL (fun _ => []) (rc 0 (-1) 5) = aL 1 := by
  rw [aL0]
  unfold postC postL
  rw [if_pos post0, if_pos post0]
  refine ⟨rfl, ?_⟩
  funext j; unfold upd aL; by_cases h : j = 0
  · subst h; rfl
  · rw [if_neg (by simpa [rc] using h), if_neg h, if_neg h]
theorem posts1 : postC (aL 1) (rc 1 1 (-1)) = 0 ∧ postL (aL 1) (rc 1 1 (-1)) = aL 2 := by
  unfold postC postL
  rw [if_pos post1, if_pos post1]
  refine ⟨rfl, ?_⟩
  funext j; unfold upd aL; by_cases h : j = 0
  · subst h; rfl
  · rw [if_neg (by simpa [rc] using h), if_neg h, if_neg h]
theorem posts2 : postC (aL 2) (rc 1 1 1) = 2 ∧ postL (aL 2) (rc 1 1 1) = aL 2 := by
  unfold postC postL
  rw [if_neg post2, if_neg post2]
  exact ⟨rfl, rfl⟩

theorem snds0 : sndL [] (mg 0 5) = [mg 0 5] := by decide
theorem snds1 : sndL [mg 0 5] (mg 1 6) = [mg 0 5, mg 1 6] := by decide
theorem mays0 : mayL [mg 0 5, mg 1 6] (aL 2) 0 0 = [mg 0 5] := by decide +kernel
theorem mays1 : mayL [mg 0 5, mg 1 6] (aL 2) 0 1 = [] := by decide +kernel
theorem prob1 : probeL [mg 0 5, mg 1 6] (aL 2) (rc 9 1 6) = [] := by decide +kernel
theorem mat0 : matchB [mg 0 5, mg 1 6] (aL 2) 0 1 1 1 = false := by decide +kernel
theorem mat1 : matchB [mg 0 5, mg 1 6] (aL 2) 0 0 1 0 = true := by decide +kernel
theorem mays2 : mayL (matchM [mg 0 5, mg 1 6] (aL 2) 0 0 1 0) (matchR [mg 0 5, mg 1 6] (aL 2) 0 0 1 0) 0 1 = [mg 1 6] := by decide +kernel
theorem waits2 : (ofL (matchR [mg 0 5, mg 1 6] (aL 2) 0 0 1 0) 0).filter waitB = [rc 1 1 (-1)] := by decide +kernel
end Go.Proofs.Ytgdpapcgghiljaa
