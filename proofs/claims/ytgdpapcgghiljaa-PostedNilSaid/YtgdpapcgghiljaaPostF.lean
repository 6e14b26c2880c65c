/- What Post and Match leave of the receives: the plain laws. -/
import Derived.Test.YtgdpapcgghiljaaPostE
set_option linter.unusedSimpArgs false
set_option linter.unusedVariables false
namespace Go.Proofs.Ytgdpapcgghiljaa
open Go.RowKit

def upd (L : Nat → List Rcv) (k : Nat) (l : List Rcv) : Nat → List Rcv := fun j => if j = k then l else L j

theorem own_mem {p : Nat} {vs : List Value} {k : Nat} {v : Value} (hv : vs[k]? = some v) {b : Nat} (hb : v.ownBlock = some b) : b ∈ vs.filterMap (·.ownBlock) := List.mem_filterMap.2 ⟨v, List.mem_of_getElem? hv, hb⟩

theorem split_at {vs : List Value} {k : Nat} {v : Value} (hv : vs[k]? = some v) : vs = vs.take k ++ v :: vs.drop (k + 1) := by
  obtain ⟨hk, rfl⟩ := List.getElem?_eq_some_iff.1 hv
  rw [List.getElem_cons_drop, List.take_append_drop]

theorem PR.other {w : World} {p : Nat} {vs : List Value} {L : Nat → List Rcv} (h : PR w p vs L) {k j : Nat} {v u : Value} (hv : vs[k]? = some v) (hu : vs[j]? = some u) (hjk : j ≠ k) {b : Nat} (hb : u.ownBlock = some b) : v.ownBlock ≠ some b := by
  intro hvb
  have hap := h.apart
  simp only [blocksP, List.nodup_cons] at hap
  obtain ⟨hk, rfl⟩ := List.getElem?_eq_some_iff.1 hv
  obtain ⟨hj, rfl⟩ := List.getElem?_eq_some_iff.1 hu
  have hpw := List.pairwise_iff_getElem.1 (List.pairwise_filterMap.1 hap.2)
  rcases Nat.lt_or_gt_of_ne hjk with hl | hl
  · exact hpw j k hj hk hl b hb b hvb rfl
  · exact hpw k j hk hj hl b hvb b hb rfl

theorem PR.notp {w : World} {p : Nat} {vs : List Value} {L : Nat → List Rcv} (h : PR w p vs L) {k : Nat} {v : Value} (hv : vs[k]? = some v) : v.ownBlock ≠ some p := by
  intro hb
  have hap := h.apart
  simp only [blocksP, List.nodup_cons] at hap
  exact hap.1 (own_mem (p := p) hv hb)

theorem PR.put {w0 w1 : World} {p : Nat} {vs : List Value} {L : Nat → List Rcv} (h : PR w0 p vs L) {k : Nat} {v : Value} (hv : vs[k]? = some v) (x : Rcv) (g n c : Nat) (hrow : RowR w1 (.slice (some ⟨g, 0, none⟩) n c) (L k ++ [x]))
    (hg : v.ownBlock = some g ∨ w0.heap.size ≤ g) (hc : Chg (fun b => v.ownBlock = some b) w0 w1) :
    PR (w1.setCell ⟨p, 1 + k, none⟩ (.slice (some ⟨g, 0, none⟩) n c)) p (vs.set k (.slice (some ⟨g, 0, none⟩) n c)) (upd L k (L k ++ [x])) ∧ (∀ b ∈ blocksP p (vs.set k (.slice (some ⟨g, 0, none⟩) n c)), b ∈ blocksP p vs ∨ w0.heap.size ≤ b) := by
  have hp := h.lt p (by simp [blocksP])
  have hk : k < vs.length := (List.getElem?_eq_some_iff.1 hv).1
  have hgp : g ≠ p := by
    rintro rfl
    rcases hg with e | e
    · exact h.notp hv e
    · omega
  have h1 : w1.heap[p]? = some (.cells (.bool true :: vs).toArray 83 (0, 0)) := (hc.block p hp (h.notp hv)).trans h.head
  have hcs : Chg (fun b => b = p) w1 (w1.setCell ⟨p, 1 + k, none⟩ (.slice (some ⟨g, 0, none⟩) n c)) := Chg.setCell (S := fun b => b = p) (Chg.refl _ _) (.inr rfl) _
  have hset : vs.set k (.slice (some ⟨g, 0, none⟩) n c) = vs.take k ++ (.slice (some ⟨g, 0, none⟩) n c) :: vs.drop (k + 1) := by
    rw [List.set_eq_take_append_cons_drop, if_pos hk]
  have hown : (Value.slice (some ⟨g, 0, none⟩) n c).ownBlock = some g := rfl
  have hsub : ∀ b, b ∈ (vs.take k ++ vs.drop (k + 1)).filterMap (·.ownBlock) → b ∈ vs.filterMap (·.ownBlock) := by
    intro b hb
    obtain ⟨u, hu, hub⟩ := List.mem_filterMap.1 hb
    refine List.mem_filterMap.2 ⟨u, ?_, hub⟩
    rw [split_at hv]
    rcases List.mem_append.1 hu with hu | hu <;> simp [hu]
  have hfm : (vs.set k (.slice (some ⟨g, 0, none⟩) n c)).filterMap (·.ownBlock) = (vs.take k).filterMap (·.ownBlock) ++ g :: (vs.drop (k + 1)).filterMap (·.ownBlock) := by
    rw [hset]
    simp only [List.filterMap_append, List.filterMap_cons, hown]
  have hblk : ∀ b ∈ blocksP p (vs.set k (.slice (some ⟨g, 0, none⟩) n c)), b ∈ blocksP p vs ∨ w0.heap.size ≤ b := by
    intro b hb
    simp only [blocksP, List.mem_cons] at hb ⊢
    rcases hb with e | hb
    · exact .inl (.inl e)
    · rw [hfm] at hb
      rcases List.mem_append.1 hb with hb | hb
      · exact .inl (.inr (hsub b (by rw [List.filterMap_append]; exact List.mem_append_left _ hb)))
      · rcases List.mem_cons.1 hb with e | hb
        · subst e
          rcases hg with e | e
          · exact .inl (.inr (own_mem (p := p) hv e))
          · exact .inr e
        · exact .inl (.inr (hsub b (by rw [List.filterMap_append]; exact List.mem_append_right _ hb)))
  refine ⟨⟨?_, by rw [List.length_set]; exact h.len, fun j u hu => ?_, ?_⟩, hblk⟩
  · rw [heap_setCell_same w1 p (1 + k) _ 83 _ h1, Nat.add_comm 1 k]
    simp
  · by_cases hjk : j = k
    · subst hjk
      rw [List.getElem?_set_self hk] at hu
      cases hu
      simp only [upd, if_true]
      exact hrow.kept hcs (fun g' hg' e => by
        have : g = g' := by simpa [Value.ownBlock] using hg'
        exact hgp (this.trans e))
    · rw [List.getElem?_set_ne (Ne.symm hjk)] at hu
      simp only [upd, if_neg hjk]
      refine ((h.row j u hu).kept hc (fun b hb e => h.other hv hu hjk hb e)).kept hcs (fun b hb e => ?_)
      subst e
      exact h.notp hu hb
  · have hap := h.apart
    simp only [blocksP] at hap ⊢
    rw [hfm]
    have hv0 : (p :: vs.filterMap (·.ownBlock)).Nodup := hap
    rcases hg with e | e
    · have : (vs.take k).filterMap (·.ownBlock) ++ g :: (vs.drop (k + 1)).filterMap (·.ownBlock) = vs.filterMap (·.ownBlock) := by
        conv => rhs; rw [split_at hv]
        simp only [List.filterMap_append, List.filterMap_cons, e]
      rw [this]
      exact hv0
    · have : p :: ((vs.take k).filterMap (·.ownBlock) ++ g :: (vs.drop (k + 1)).filterMap (·.ownBlock)) = (p :: (vs.take k).filterMap (·.ownBlock)) ++ g :: (vs.drop (k + 1)).filterMap (·.ownBlock) := by simp
      rw [this, nodup_mid, List.nodup_cons]
      refine ⟨fun hm => ?_, ?_⟩
      · have : g ∈ blocksP p vs := by
          simp only [List.cons_append, List.mem_cons] at hm
          rcases hm with e' | hm
          · exact absurd e' hgp
          · simp only [blocksP, List.mem_cons]
            exact .inr (hsub g (by rw [List.filterMap_append]; exact hm))
        have := h.lt g this
        omega
      · refine List.Nodup.sublist ?_ hv0
        rw [List.cons_append]
        refine List.Sublist.cons_cons p ?_
        rw [← List.filterMap_append]
        refine List.Sublist.filterMap _ ?_
        conv => rhs; rw [split_at hv]
        exact List.Sublist.append_left (List.sublist_cons_self _ _) _

/-- A receive of a rank is turned where it lies. -/
theorem PR.mark {w0 w1 : World} {p : Nat} {vs : List Value} {L : Nat → List Rcv} (h : PR w0 p vs L) {k : Nat} {v : Value} (hv : vs[k]? = some v) (l : List Rcv) (hrow : RowR w1 v l) (hc : Chg (fun b => v.ownBlock = some b) w0 w1) :
    PR w1 p vs (upd L k l) := by
  have hp := h.lt p (by simp [blocksP])
  refine ⟨(hc.block p hp (h.notp hv)).trans h.head, h.len, fun j u hu => ?_, h.apart⟩
  by_cases hjk : j = k
  · subst hjk
    rw [hv] at hu
    cases hu
    simpa [upd] using hrow
  · simp only [upd, if_neg hjk]
    exact (h.row j u hu).kept hc (fun b hb e => h.other hv hu hjk hb e)
end Go.Proofs.Ytgdpapcgghiljaa
