/- What Send leaves of the program's queue: the plain laws. -/
import Derived.Test.YtgdpapcgghiljaaPlayF
set_option linter.unusedSimpArgs false
set_option linter.unusedVariables false
namespace Go.Proofs.Ytgdpapcgghiljaa
open Go.RowKit
open Go.ChangeMaps (setBlock heap_setBlock_same heap_setBlock_other)

theorem nodup_mid {α : Type} {x : α} {l1 l2 : List α} : (l1 ++ x :: l2).Nodup ↔ (x :: (l1 ++ l2)).Nodup := List.perm_middle.nodup_iff

section
variable {α : Type} [DecidableEq α]
/-- A store meets one entry, or is laid at the end. -/
theorem mput_cases (M : List (α × Value)) (x : α) (v' : Value) (hn : (M.map (·.1)).Nodup) :
    (∃ L1 L2 v, M = L1 ++ (x, v) :: L2 ∧ mput M x v' = L1 ++ (x, v') :: L2 ∧ mget M x = some v ∧ (∀ p ∈ L1 ++ L2, p.1 ≠ x)) ∨ ((∀ p ∈ M, p.1 ≠ x) ∧ mput M x v' = M ++ [(x, v')] ∧ mget M x = none) := by
  cases hi : M.findIdx? (fun p => p.1 == x) with
  | none =>
    refine .inr ⟨fun p hp => ?_, mput_absent x v' hi, ?_⟩
    · rw [List.findIdx?_eq_none_iff] at hi
      simpa using hi p hp
    · rw [find_of_findIdx, hi]; rfl
  | some j =>
    obtain ⟨hlt, hx, hb⟩ := List.findIdx?_eq_some_iff_getElem.1 hi
    have hx' : M[j].1 = x := by simpa using hx
    have e : M = M.take j ++ (x, M[j].2) :: M.drop (j + 1) := by
      have : ((x, M[j].2) : α × Value) = M[j] := by rw [← hx']
      rw [this, List.getElem_cons_drop, List.take_append_drop]
    refine .inl ⟨M.take j, M.drop (j + 1), M[j].2, e, ?_, ?_, ?_⟩
    · rw [mput_present x v' hi hn, List.set_eq_take_append_cons_drop, if_pos hlt]
    · rw [find_of_findIdx, hi]
      simp [hlt]
    · have hn' := hn
      rw [e] at hn'
      simp only [List.map_append, List.map_cons, nodup_mid, List.nodup_cons, List.mem_append, List.mem_map] at hn'
      intro p hp e'
      refine hn'.1 ?_
      rcases List.mem_append.1 hp with h | h
      · exact .inl ⟨p, h, e'⟩
      · exact .inr ⟨p, h, e'⟩
end

theorem ofChan_snoc_eq (ms : List Msg) (m : Msg) : ofChan (ms ++ [m]) m.chan = ofChan ms m.chan ++ [m] := by
  unfold ofChan
  rw [List.filter_append]
  simp

theorem ofChan_snoc_ne (ms : List Msg) (m : Msg) {c : Chan} (h : c ≠ m.chan) : ofChan (ms ++ [m]) c = ofChan ms c := by
  unfold ofChan
  rw [List.filter_append]
  have : ([m].filter fun x => decide (x.chan = c)) = [] := by
    rw [List.filter_eq_nil_iff]
    intro x hx e
    simp only [List.mem_singleton] at hx
    subst hx
    exact h (by simpa using Eq.symm (of_decide_eq_true e))
  rw [this, List.append_nil]

theorem ofChan_none {ms : List Msg} {c : Chan} {rs : List (Chan × Value)} (hch : ∀ m ∈ ms, ∃ v, (m.chan, v) ∈ rs) (hn : ∀ p ∈ rs, p.1 ≠ c) : ofChan ms c = [] := by
  unfold ofChan
  rw [List.filter_eq_nil_iff]
  intro m hm e
  obtain ⟨v, hv⟩ := hch m hm
  exact hn _ hv (by simpa using e)

theorem QR.put {w0 w1 : World} {q r a : Nat} {rs : List (Chan × Value)} {ats : List (Sent × Value)} {ms : List Msg} (h : QR w0 q r a rs ats ms) (m : Msg) (hno : ∀ x ∈ ms, x.sent ≠ m.sent)
    (v : Value) (hv : (mget rs m.chan).getD (.slice none 0 0) = v) (g n c : Nat) (hrow : Row w1 (.slice (some ⟨g, 0, none⟩) n c) (ofChan ms m.chan ++ [m]))
    (hg : v.ownBlock = some g ∨ w0.heap.size ≤ g) (hc : Chg (fun b => b = r ∨ b = a ∨ v.ownBlock = some b) w0 w1)
    (hr : MapB Chan.v w1 r (mput rs m.chan (.slice (some ⟨g, 0, none⟩) n c))) (ha : MapB Sent.v w1 a (mput ats m.sent m.chan.v)) :
    ∃ rs' ats', QR w1 q r a rs' ats' (ms ++ [m]) ∧ (∀ b ∈ blocksOf q r a rs', b ∈ blocksOf q r a rs ∨ w0.heap.size ≤ b) := by
  have hlt := h.lt
  have hap := h.apart
  have hvb : ∀ g, v.ownBlock = some g → g ∈ rs.filterMap (·.2.ownBlock) := by
    intro g hg
    rcases mput_cases rs m.chan v h.rowsNodup with ⟨L1, L2, v0, e1, _, e3, _⟩ | ⟨_, _, e3⟩
    · rw [e3] at hv
      simp only [Option.getD_some] at hv
      subst hv
      rw [e1]
      exact List.mem_filterMap.2 ⟨(m.chan, v0), by simp, hg⟩
    · rw [e3] at hv
      simp only [Option.getD_none] at hv
      subst hv
      simp [Value.ownBlock] at hg
  have hap3 := hap
  simp only [blocksOf, List.nodup_cons, List.mem_cons, not_or] at hap3
  obtain ⟨⟨n1, n2, n3⟩, ⟨n4, n5⟩, n6, n7⟩ := hap3
  have hats : mput ats m.sent m.chan.v = ats ++ [(m.sent, m.chan.v)] := by
    rcases mput_cases ats m.sent m.chan.v (by obtain ⟨es, ck, _, _, _, hn⟩ := h.at_; exact hn) with ⟨L1, L2, v0, e1, _, e3, _⟩ | ⟨_, e2, _⟩
    · rw [h.at_no hno] at e3; cases e3
    · exact e2
  rw [hats] at ha
  have hqk : w1.heap[q]? = some (.cells #[.map (some r), .map (some a)] 98 (0, 0)) := by
    refine (hc.block q (hlt q (by simp [blocksOf])) ?_).trans h.head
    rintro (e | e | e)
    · exact n1 e
    · exact n2 e
    · exact n3 (hvb q e)
  -- a row that isn't the message's
  have hkeep : ∀ p ∈ rs, p.1 ≠ m.chan → (∀ b, p.2.ownBlock = some b → v.ownBlock ≠ some b) → Row w1 p.2 (ofChan (ms ++ [m]) p.1) := by
    intro p hp hne hdis
    rw [ofChan_snoc_ne _ _ hne]
    refine (h.row p hp).kept hc fun b hb e => ?_
    have hbm : b ∈ rs.filterMap (·.2.ownBlock) := List.mem_filterMap.2 ⟨p, hp, hb⟩
    rcases e with e | e | e
    · subst e; exact n5 hbm
    · subst e; exact n6 hbm
    · exact hdis b hb e
  rcases mput_cases rs m.chan (.slice (some ⟨g, 0, none⟩) n c) h.rowsNodup with ⟨L1, L2, v0, e1, e2, e3, e4⟩ | ⟨e1, e2, e3⟩
  · rw [e3] at hv
    simp only [Option.getD_some] at hv
    subst hv
    rw [e2] at hr
    have hsub : ∀ p ∈ L1 ++ L2, p ∈ rs := by
      intro p hp
      rw [e1]
      rcases List.mem_append.1 hp with h | h <;> simp [h]
    have hdis : ∀ p ∈ L1 ++ L2, ∀ b, p.2.ownBlock = some b → v0.ownBlock ≠ some b := by
      intro p hp b hb hv0
      rw [e1] at n7
      simp only [List.filterMap_append, List.filterMap_cons, hv0] at n7
      rw [nodup_mid, List.nodup_cons] at n7
      refine n7.1 ?_
      rw [← List.filterMap_append]
      exact List.mem_filterMap.2 ⟨p, hp, hb⟩
    refine ⟨_, _, ⟨hqk, hr, ha, ?_, ?_, ?_, ?_⟩, ?_⟩
    · rw [List.map_append]
      exact h.sent.append_right _
    · intro x hx
      rcases List.mem_append.1 hx with hx | hx
      · obtain ⟨v, hv⟩ := h.chans x hx
        rw [e1] at hv
        rcases List.mem_append.1 hv with hv | hv
        · exact ⟨v, by simp [hv]⟩
        · rcases List.mem_cons.1 hv with hv | hv
          · simp only [Prod.mk.injEq] at hv
            exact ⟨.slice (some ⟨g, 0, none⟩) n c, by simp [hv.1]⟩
          · exact ⟨v, by simp [hv]⟩
      · simp only [List.mem_singleton] at hx
        subst hx
        exact ⟨.slice (some ⟨g, 0, none⟩) n c, by simp⟩
    · intro p hp
      by_cases hpx : p ∈ L1 ++ L2
      · exact hkeep p (hsub p hpx) (e4 p hpx) (hdis p hpx)
      · have : p = (m.chan, .slice (some ⟨g, 0, none⟩) n c) := by
          simp only [List.mem_append, List.mem_cons, not_or] at hp hpx
          rcases hp with hp | hp | hp
          · exact absurd hp hpx.1
          · exact hp
          · exact absurd hp hpx.2
        subst this
        rw [ofChan_snoc_eq]
        exact hrow
    · -- apart
      have hg' : (Value.slice (some ⟨g, 0, none⟩) n c).ownBlock = some g := rfl
      rcases hg with hg | hg
      · have : (L1 ++ (m.chan, Value.slice (some ⟨g, 0, none⟩) n c) :: L2).filterMap (·.2.ownBlock) = rs.filterMap (·.2.ownBlock) := by
          rw [e1]
          simp only [List.filterMap_append, List.filterMap_cons, hg, hg']
        simp only [blocksOf, this]
        exact hap
      · have hnd : (q :: r :: a :: (L1 ++ L2).filterMap (·.2.ownBlock)).Nodup := by
          refine List.Nodup.sublist ?_ hap
          simp only [blocksOf]
          refine ((List.Sublist.filterMap _ ?_).cons_cons a).cons_cons r |>.cons_cons q
          rw [e1]
          exact List.Sublist.append_left (List.sublist_cons_self _ _) _
        simp only [blocksOf]
        have hp : (L1 ++ (m.chan, Value.slice (some ⟨g, 0, none⟩) n c) :: L2).filterMap (·.2.ownBlock) = L1.filterMap (·.2.ownBlock) ++ g :: L2.filterMap (·.2.ownBlock) := by
          simp only [List.filterMap_append, List.filterMap_cons, hg']
        rw [hp]
        have : q :: r :: a :: (L1.filterMap (·.2.ownBlock) ++ g :: L2.filterMap (·.2.ownBlock)) = (q :: r :: a :: L1.filterMap (·.2.ownBlock)) ++ g :: L2.filterMap (·.2.ownBlock) := by simp
        rw [this, nodup_mid, List.nodup_cons]
        refine ⟨fun hm => ?_, by simpa [List.filterMap_append] using hnd⟩
        have : g ∈ blocksOf q r a rs := by
          have hm' : g ∈ q :: r :: a :: (L1 ++ L2).filterMap (·.2.ownBlock) := by simpa [List.filterMap_append] using hm
          simp only [blocksOf]
          rw [e1]
          simp only [List.mem_cons, List.mem_filterMap] at hm' ⊢
          rcases hm' with h | h | h | ⟨p, hp, hb⟩
          · exact .inl h
          · exact .inr (.inl h)
          · exact .inr (.inr (.inl h))
          · refine .inr (.inr (.inr ⟨p, ?_, hb⟩))
            rw [← e1]
            exact hsub p hp
        have := hlt g this
        omega
    · intro b hb
      simp only [blocksOf, List.mem_cons, List.mem_filterMap] at hb ⊢
      rcases hb with h | h | h | ⟨p, hp, hpb⟩
      · exact .inl (.inl h)
      · exact .inl (.inr (.inl h))
      · exact .inl (.inr (.inr (.inl h)))
      · by_cases hpx : p ∈ L1 ++ L2
        · exact .inl (.inr (.inr (.inr ⟨p, hsub p hpx, hpb⟩)))
        · have : p = (m.chan, .slice (some ⟨g, 0, none⟩) n c) := by
            simp only [List.mem_append, List.mem_cons, not_or] at hp hpx
            rcases hp with hp | hp | hp
            · exact absurd hp hpx.1
            · exact hp
            · exact absurd hp hpx.2
          subst this
          have e : g = b := by simpa [Value.ownBlock] using hpb
          subst e
          rcases hg with hg | hg
          · exact .inl (.inr (.inr (.inr ⟨(m.chan, v0), by rw [e1]; simp, hg⟩)))
          · exact .inr hg
  · rw [e3] at hv
    simp only [Option.getD_none] at hv
    subst hv
    have hg2 : w0.heap.size ≤ g := by
      rcases hg with hg | hg
      · simp [Value.ownBlock] at hg
      · exact hg
    rw [e2] at hr
    refine ⟨_, _, ⟨hqk, hr, ha, ?_, ?_, ?_, ?_⟩, ?_⟩
    · rw [List.map_append]
      exact h.sent.append_right _
    · intro x hx
      rcases List.mem_append.1 hx with hx | hx
      · obtain ⟨v, hv⟩ := h.chans x hx
        exact ⟨v, by simp [hv]⟩
      · simp only [List.mem_singleton] at hx
        subst hx
        exact ⟨.slice (some ⟨g, 0, none⟩) n c, by simp⟩
    · intro p hp
      rcases List.mem_append.1 hp with hp | hp
      · exact hkeep p hp (e1 p hp) (fun b hb e => by simp [Value.ownBlock] at e)
      · simp only [List.mem_singleton] at hp
        subst hp
        rw [ofChan_snoc_eq]
        exact hrow
    · have e : blocksOf q r a (rs ++ [(m.chan, .slice (some ⟨g, 0, none⟩) n c)]) = blocksOf q r a rs ++ [g] := by
        simp [blocksOf, List.filterMap_append, Value.ownBlock]
      rw [e, List.nodup_append]
      refine ⟨hap, by simp, fun x hx y hy => ?_⟩
      simp only [List.mem_singleton] at hy
      subst hy
      have := hlt x hx
      omega
    · intro b hb
      have e : blocksOf q r a (rs ++ [(m.chan, .slice (some ⟨g, 0, none⟩) n c)]) = blocksOf q r a rs ++ [g] := by
        simp [blocksOf, List.filterMap_append, Value.ownBlock]
      rw [e] at hb
      rcases List.mem_append.1 hb with hb | hb
      · exact .inl hb
      · simp only [List.mem_singleton] at hb
        subst hb
        exact .inr hg2
end Go.Proofs.Ytgdpapcgghiljaa
