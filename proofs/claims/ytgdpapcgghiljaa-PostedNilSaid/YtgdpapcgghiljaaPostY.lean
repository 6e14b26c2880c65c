/- Plain laws of messages and receives: what may be a receive's only becomes more, till it is matched; what may be a probe's. -/
import Derived.Test.YtgdpapcgghiljaaPostX
set_option linter.unusedSimpArgs false
set_option linter.unusedVariables false
namespace Go.Proofs.Ytgdpapcgghiljaa
open Go.RowKit

/-- What a receive asks. -/
structure AsksAs (x y : Rcv) : Prop where
  key : x.key = y.key
  rank : x.rank = y.rank
  call : x.call = y.call
  peer : x.peer = y.peer
  tag : x.tag = y.tag

theorem AsksAs.rfl' {x : Rcv} : AsksAs x x := ⟨rfl, rfl, rfl, rfl, rfl⟩
theorem AsksAs.got {x : Rcv} (f s : Int) : AsksAs x (x.got f s) := ⟨rfl, rfl, rfl, rfl, rfl⟩

/-- From a row to a row behind an act: the same receives at the same places, some of them done, others behind them. -/
def Later (l l' : List Rcv) : Prop := ∀ (i : Nat) (x : Rcv), l[i]? = some x → ∃ x', l'[i]? = some x' ∧ AsksAs x x' ∧ (x'.done = false → x' = x)

theorem Later.refl (l : List Rcv) : Later l l := fun i x hx => ⟨x, hx, AsksAs.rfl', fun _ => rfl⟩
theorem Later.snoc (l : List Rcv) (x : Rcv) : Later l (l ++ [x]) := fun i y hy => ⟨y, by rw [List.getElem?_append_left (List.getElem?_eq_some_iff.1 hy).1]; exact hy, AsksAs.rfl', fun _ => rfl⟩
theorem Later.gotL (l : List Rcv) (c f s : Int) : Later l (gotL l c f s) := by
  intro i x hx
  unfold Ytgdpapcgghiljaa.gotL
  split
  · exact ⟨x, hx, AsksAs.rfl', fun _ => rfl⟩
  · rename_i j hj
    split
    · exact ⟨x, hx, AsksAs.rfl', fun _ => rfl⟩
    · rename_i y hy
      by_cases hij : j = i
      · subst hij
        rw [hx] at hy
        cases hy
        exact ⟨x.got f s, by rw [List.getElem?_set_self (List.getElem?_eq_some_iff.1 hx).1], AsksAs.got f s, fun e => by cases e⟩
      · exact ⟨x, by rw [List.getElem?_set_ne hij]; exact hx, AsksAs.rfl', fun _ => rfl⟩

theorem ofL_upd {L : Nat → List Rcv} {n : Nat} {l : List Rcv} {rank : Int} : ofL (upd L n l) rank = if 0 ≤ rank ∧ rank ≤ 63 ∧ rank.toNat = n then l else ofL L rank := by
  unfold ofL upd
  by_cases h : 0 ≤ rank ∧ rank ≤ 63
  · by_cases h2 : rank.toNat = n
    · rw [if_pos h, if_pos h2, if_pos ⟨h.1, h.2, h2⟩]
    · rw [if_pos h, if_neg h2, if_neg (by rintro ⟨_, _, e⟩; exact h2 e), if_pos h]
  · rw [if_neg h, if_neg (by rintro ⟨a, b, _⟩; exact h ⟨a, b⟩), if_neg h]

theorem later_upd {L : Nat → List Rcv} {n : Nat} {l : List Rcv} (hl : Later (L n) l) (rank : Int) : Later (ofL L rank) (ofL (upd L n l) rank) := by
  rw [ofL_upd]
  split
  · rename_i h
    unfold ofL
    rw [if_pos ⟨h.1, h.2.1⟩, h.2.2]
    exact hl
  · exact Later.refl _

theorem later_post (L : Nat → List Rcv) (x : Rcv) (rank : Int) : Later (ofL L rank) (ofL (postL L x) rank) := by
  unfold postL
  split
  · exact later_upd (Later.snoc _ _) rank
  · exact Later.refl _

theorem later_match (ms : List Msg) (L : Nat → List Rcv) (rk call f s : Int) (rank : Int) : Later (ofL L rank) (ofL (matchR ms L rk call f s) rank) := by
  unfold matchR
  split
  · exact later_upd (Later.gotL _ _ _ _) rank
  · exact Later.refl _

theorem later_act (ms : List Msg) (L : Nat → List Rcv) (d : Deed2) (rank : Int) : Later (ofL L rank) (ofL (actR ms L d) rank) := by
  unfold actR
  split
  · exact Later.refl _
  · split
    · exact later_post _ _ _
    · cases pick ms L d with
      | none => exact Later.refl _
      | some m => exact later_match _ _ _ _ _ _ _

/-- The first one that fits stays the first, if others go. -/
theorem find_less {α : Type} {p q : α → Bool} {l : List α} {m : α} (h : l.find? p = some m) (hq : q m = true) (hpq : ∀ x, q x = true → p x = true) : l.find? q = some m := by
  induction l with
  | nil => simp at h
  | cons x l ih =>
    rw [List.find?_cons] at h ⊢
    cases hp : p x
    · rw [hp] at h
      have : q x = false := by
        cases hx : q x
        · rfl
        · rw [hpq x hx] at hp; cases hp
      rw [this]
      exact ih h
    · rw [hp] at h
      cases h
      rw [hq]

theorem find_tk {ms : List Msg} {c : Chan} {tag : Int} {m : Msg} {s : Sent} (h : ms.find? (fstB c tag) = some m) (hs : m.sent ≠ s) : (tk s ms).find? (fstB c tag) = some m := by
  have h1 : ms.find? (fstB c tag ∘ tkf s) = some m := by
    refine find_less h ?_ ?_
    · have := List.find?_some h
      simpa [tkf, hs] using this
    · intro x hx
      simp only [Function.comp, tkf] at hx
      split at hx
      · simp [fstB, isB, Msg.take] at hx
      · exact hx
  unfold tk
  rw [List.find?_map, h1]
  simp [tkf, hs]

section
variable {k : Nat} {ms : List Msg} {L : Nat → List Rcv}

/-- A message that may be a receive's may still be, if it is still the first that fits. -/
theorem may_step {k' : Nat} {ms' : List Msg} {L' : Nat → List Rcv} (h : WF k ms L) (h' : WF k' ms' L') {rank : Int} (hl : Later (ofL L rank) (ofL L' rank)) {i : Nat} {x x' : Rcv} (hx : (ofL L rank)[i]? = some x) (hx' : (ofL L' rank)[i]? = some x') (hd : x'.done = false)
    {m : Msg} (hm : m ∈ mayL ms L rank x.call) (hf : ms.find? (fstB ⟨x.key, m.frm, x.rank⟩ x.tag) = some m → ms'.find? (fstB ⟨x.key, m.frm, x.rank⟩ x.tag) = some m) : m ∈ mayL ms' L' rank x.call := by
  obtain ⟨y, hy, hask, hsame⟩ := hl i x hx
  rw [hx'] at hy
  cases hy
  have := hsame hd
  subst this
  obtain ⟨h1, h2, h3, h4⟩ := (may_iff h hx).1 hm
  refine (may_iff h' hx').2 ⟨h1, h2, hf h3, fun y hy hyd => ?_⟩
  obtain ⟨j, hj, rfl⟩ := List.mem_take_iff_getElem.1 hy
  have hjl : j < (ofL L rank).length := by
    have := (List.getElem?_eq_some_iff.1 hx).1
    omega
  obtain ⟨z, hz, _, hz2⟩ := hl j _ (List.getElem?_eq_getElem hjl)
  rw [List.getElem?_eq_getElem (by omega)] at hz
  cases hz
  have e := hz2 hyd
  rw [e] at hyd ⊢
  exact h4 _ (List.mem_take_iff_getElem.2 ⟨j, by omega, rfl⟩) hyd

theorem gotL_at {l : List Rcv} {c f s : Int} {i : Nat} {x : Rcv} (h : l.findIdx? (fun r => r.call == c) = some i) (hx : l[i]? = some x) : gotL l c f s = l.set i (x.got f s) := by
  simp only [gotL, h, hx]

/-- THE THEOREM: what may be a receive's only becomes more, till it is matched. -/
theorem grows (h : WF k ms L) (d : Deed2) {rank : Int} {i : Nat} {x x' : Rcv} (hx : (ofL L rank)[i]? = some x) (hx' : (ofL (actR ms L d) rank)[i]? = some x') (hd : x'.done = false) {m : Msg} (hm : m ∈ mayL ms L rank x.call) : m ∈ mayL (actM ms L d) (actR ms L d) rank x.call := by
  have h' := h.act d
  have hl := later_act ms L d rank
  refine may_step h h' hl hx hx' hd hm ?_
  intro hf
  unfold actM
  split
  · unfold sndL
    split
    · rw [List.find?_append, hf]; rfl
    · exact hf
  · rename_i hk1
    split
    · exact hf
    · rename_i hk2
      cases hp : pick ms L d with
      | none => exact hf
      | some n =>
        simp only [Option.elim]
        unfold matchM
        split
        · rename_i hb
          refine find_tk hf ?_
          intro e
          have hn : n ∈ mayL ms L d.r.rank d.r.call := List.mem_of_getElem? hp
          obtain ⟨j, y, hj, hy, _, _⟩ := may_mem hn
          have hyc : y.call = d.r.call := by
            have h1 := (List.findIdx?_eq_some_iff_getElem.1 hj).2.1
            rw [(List.getElem?_eq_some_iff.1 hy).2] at h1
            simpa using h1
          have hn' : n ∈ mayL ms L d.r.rank y.call := by rw [hyc]; exact hn
          have hmn : m = n := ms_inj h (may_fits h hx hm).1 (may_fits h hy hn').1 e
          subst hmn
          obtain ⟨e1, e2⟩ := may_once h hx hy hm hn'
          subst e1 e2
          rw [hx] at hy
          cases hy
          obtain ⟨hr, ho⟩ := ofL_pos hx
          have : actR ms L d = upd L d.r.rank.toNat ((L d.r.rank.toNat).set i (x.got m.frm m.call)) := by
            unfold actR
            rw [if_neg hk1, if_neg hk2, hp]
            simp only [Option.elim]
            unfold matchR
            rw [if_pos hb]
            rw [ho] at hj hx
            rw [gotL_at hj hx]
          rw [this, ofL_upd, if_pos ⟨hr.1, hr.2, rfl⟩] at hx'
          rw [ho] at hx
          rw [List.getElem?_set_self (List.getElem?_eq_some_iff.1 hx).1] at hx'
          cases hx'
          cases hd
        · exact hf

theorem probe_may (h : WF k ms L) {x : Rcv} (ho : PostOk L x) : mayL ms (postL L x) x.rank x.call = probeL ms L x := by
  have h' := h.posted x
  have hr := ho.1
  have hof : ofL L x.rank = L x.rank.toNat := by unfold ofL; rw [if_pos hr]
  have e : ofL (postL L x) x.rank = ofL L x.rank ++ [x.fresh] := by
    unfold postL
    rw [if_pos ho, ofL_upd, if_pos ⟨hr.1, hr.2, rfl⟩, hof]
  have hx : (ofL (postL L x) x.rank)[(ofL L x.rank).length]? = some x.fresh := by
    rw [e, List.getElem?_append_right (Nat.le_refl _)]
    simp
  have := may_of h' hx
  rw [show x.fresh.call = x.call from rfl] at this
  rw [this, e, List.take_left]
  rfl
end

theorem wrap_succ (c : Int) : wrap64 (c + 1) ≠ c := by unfold wrap64; omega

theorem probe_no {ms : List Msg} {L : Nat → List Rcv} {rank call : Int} {m : Msg} {c : Int} (hm : m ∈ mayL ms L rank call) (hc : c ≠ m.call) : matchB ms L rank call m.frm c = false := by
  unfold matchB
  rw [List.any_eq_false]
  intro y hy e
  simp only [itsB, Bool.and_eq_true, beq_iff_eq] at e
  have := rise_inj (may_rise _ _ _ _) hy hm e.1
  subst this
  exact hc e.2.symm

theorem probe_yes {ms : List Msg} {L : Nat → List Rcv} {rank call : Int} {m : Msg} (hm : m ∈ mayL ms L rank call) : matchB ms L rank call m.frm m.call = true :=
  List.any_eq_true.2 ⟨m, hm, by simp [itsB]⟩
end Go.Proofs.Ytgdpapcgghiljaa
