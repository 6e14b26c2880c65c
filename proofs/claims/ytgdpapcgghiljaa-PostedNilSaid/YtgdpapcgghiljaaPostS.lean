/- What messages and receives are behind acts: the plain state and its bounds; act in one form; made. -/
import Derived.Test.YtgdpapcgghiljaaPostR
set_option linter.unusedSimpArgs false
set_option linter.unusedVariables false
namespace Go.Proofs.Ytgdpapcgghiljaa
open Go.RowKit

/-- What stays of messages and receives. -/
structure WF (k : Nat) (ms : List Msg) (L : Nat → List Rcv) : Prop where
  len : ms.length ≤ k
  fit : ∀ m ∈ ms, 0 ≤ m.frm ∧ m.frm ≤ 63
  nodup : (ms.map (·.sent)).Nodup
  lenR : ∀ j, (L j).length ≤ k
  rank : ∀ j, ∀ x ∈ L j, x.rank = (j : Int)
  calls : ∀ j, (L j).Pairwise (fun x y => x.call < y.call)

theorem WF.zero : WF 0 [] (fun _ => []) := ⟨by simp, by simp, by simp, by simp, by simp, by simp⟩

section
variable {k : Nat} {ms : List Msg} {L : Nat → List Rcv}
theorem WF.mono {k' : Nat} (h : WF k ms L) (hk : k ≤ k') : WF k' ms L := ⟨Nat.le_trans h.len hk, h.fit, h.nodup, fun j => Nat.le_trans (h.lenR j) hk, h.rank, h.calls⟩

theorem WF.of (h : WF k ms L) (rank : Int) : (ofL L rank).length ≤ k := by
  unfold ofL
  split
  · exact h.lenR _
  · simp

theorem WF.snd (h : WF k ms L) (m : Msg) : WF (k + 1) (sndL ms m) L := by
  unfold sndL
  split
  · rename_i ho
    obtain ⟨hf, hp⟩ := ho
    refine ⟨by simp; exact h.len, fun x hx => ?_, ?_, fun j => Nat.le_succ_of_le (h.lenR j), h.rank, h.calls⟩
    · rcases List.mem_append.1 hx with hx | hx
      · exact h.fit x hx
      · simp at hx; subst hx; exact ⟨hf.1, hf.2.1⟩
    · rw [List.map_append, List.nodup_append]
      refine ⟨h.nodup, by simp, fun a ha b hb => ?_⟩
      simp at hb
      subst hb
      obtain ⟨x, hx, rfl⟩ := List.mem_map.1 ha
      exact plc_neg.1 hp x hx
  · exact h.mono (Nat.le_succ _)

theorem tk_map (s : Sent) (ms : List Msg) : (tk s ms).map (fun m => (m.frm, m.call)) = ms.map (fun m => (m.frm, m.call)) := by
  unfold tk
  rw [List.map_map]
  refine List.map_congr_left fun x _ => ?_
  simp only [Function.comp, tkf]
  split <;> rfl

theorem tk_sent (s : Sent) (ms : List Msg) : (tk s ms).map (·.sent) = ms.map (·.sent) := by
  unfold tk
  rw [List.map_map]
  refine List.map_congr_left fun x _ => ?_
  simp only [Function.comp, tkf]
  split <;> rfl

theorem WF.tk (h : WF k ms L) (s : Sent) : WF k (tk s ms) L := by
  refine ⟨by rw [tk_len]; exact h.len, fun m hm => ?_, by rw [tk_sent]; exact h.nodup, h.lenR, h.rank, h.calls⟩
  unfold Ytgdpapcgghiljaa.tk at hm
  obtain ⟨x, hx, rfl⟩ := List.mem_map.1 hm
  have := h.fit x hx
  unfold tkf
  split <;> exact this

theorem gotL_map (l : List Rcv) (call f s : Int) : (gotL l call f s).map (fun x => (x.rank, x.call)) = l.map (fun x => (x.rank, x.call)) := by
  unfold gotL
  split
  · rfl
  · rename_i i _
    split
    · rfl
    · rename_i x hx
      rw [List.map_set]
      apply List.ext_getElem?
      intro j
      rw [List.getElem?_set]
      split
      · rename_i hij
        subst hij
        split
        · rw [List.getElem?_map, hx]; rfl
        · rename_i hlt
          exact absurd (by simpa using (List.getElem?_eq_some_iff.1 hx).1) hlt
      · rfl

theorem WF.updR (h : WF k ms L) (n : Nat) (l : List Rcv) (hl : l.map (fun x => (x.rank, x.call)) = (L n).map (fun x => (x.rank, x.call))) : WF k ms (upd L n l) := by
  have hlen : l.length = (L n).length := by simpa using congrArg List.length hl
  refine ⟨h.len, h.fit, h.nodup, fun j => ?_, fun j x hx => ?_, fun j => ?_⟩
  · unfold upd
    split
    · rw [hlen]; exact h.lenR n
    · exact h.lenR j
  · unfold upd at hx
    split at hx
    · rename_i e
      subst e
      have : (x.rank, x.call) ∈ (L j).map (fun x => (x.rank, x.call)) := hl ▸ List.mem_map.2 ⟨x, hx, rfl⟩
      obtain ⟨y, hy, e⟩ := List.mem_map.1 this
      have := h.rank j y hy
      simp only [Prod.mk.injEq] at e
      omega
    · exact h.rank j x hx
  · unfold upd
    split
    · rename_i e
      subst e
      have h1 : ((L j).map (fun x => (x.rank, x.call))).Pairwise (fun a b => a.2 < b.2) := List.pairwise_map.2 (h.calls j)
      rw [← hl] at h1
      exact (List.pairwise_map (f := fun x : Rcv => (x.rank, x.call)) (R := fun a b : Int × Int => a.2 < b.2)).1 h1
    · exact h.calls j

theorem WF.matched (h : WF k ms L) (rank call f s : Int) : WF k (matchM ms L rank call f s) (matchR ms L rank call f s) := by
  unfold matchM matchR
  split
  · exact (h.tk _).updR _ _ (gotL_map _ _ _ _)
  · exact h

theorem WF.posted (h : WF k ms L) (x : Rcv) : WF (k + 1) ms (postL L x) := by
  unfold postL
  split
  · rename_i ho
    obtain ⟨hr, _, _, _, _, hlast⟩ := ho
    refine ⟨Nat.le_succ_of_le h.len, h.fit, h.nodup, fun j => ?_, fun j y hy => ?_, fun j => ?_⟩
    · unfold upd
      split
      · have := h.lenR x.rank.toNat
        simp; exact this
      · exact Nat.le_succ_of_le (h.lenR j)
    · unfold upd at hy
      split at hy
      · rename_i e
        rcases List.mem_append.1 hy with hy | hy
        · rw [e]; exact h.rank _ y hy
        · simp at hy; subst hy
          show x.rank = _
          omega
      · exact h.rank j y hy
    · unfold upd
      split
      · rename_i e
        subst e
        rw [List.pairwise_append]
        refine ⟨h.calls _, by simp, fun a ha b hb => ?_⟩
        simp at hb
        subst hb
        have hof : ofL L x.rank = L x.rank.toNat := by unfold ofL; rw [if_pos hr]
        rw [hof] at hlast
        show a.call < x.call
        have hne : L x.rank.toNat ≠ [] := List.ne_nil_of_mem ha
        have h1 := hlast _ (List.getLast?_eq_some_getLast hne)
        obtain ⟨i, hi, rfl⟩ := List.mem_iff_getElem.1 ha
        rw [List.getLast_eq_getElem] at h1
        by_cases hil : i = (L x.rank.toNat).length - 1
        · subst hil; exact h1
        · exact Int.lt_trans (List.pairwise_iff_getElem.1 (h.calls _) i _ hi (by omega) (by omega)) h1
      · exact h.calls j
  · exact h.mono (Nat.le_succ _)

theorem WF.act (h : WF k ms L) (d : Deed2) : WF (k + 1) (actM ms L d) (actR ms L d) := by
  unfold actM actR
  split
  · exact h.snd _
  · split
    · exact h.posted _
    · cases pick ms L d with
      | none => exact h.mono (Nat.le_succ _)
      | some m => exact (h.matched _ _ _ _).mono (Nat.le_succ _)
end

/-- act, in one form. -/
theorem act_any {k : Nat} {w0 w : World} {q r a : Nat} {rs : List (Chan × Value)} {ats : List (Sent × Value)} {p : Nat} {vs : List Value} {ms : List Msg} {L : Nat → List Rcv} (h : Duo w0 w q r a rs ats p vs ms L) (hw : WF k ms L) (hk : k ≤ 1000) (d : Deed2) :
    Calls Try.prog 41 #[.pointer (some ⟨q, 0, none⟩), .pointer (some ⟨p, 0, none⟩), .agg d.cs] w fun e w' => (∃ n : Int, e = .returned (.int .i64 n)) ∧ ∃ rs' ats' vs', Duo w0 w' q r a rs' ats' p vs' (actM ms L d) (actR ms L d) := by
  by_cases h01 : d.kind.tmod 4 = 0 ∨ d.kind.tmod 4 = 1
  · refine (act_send q r a rs ats ms _ d w h.qr (Nat.le_trans hw.len hk) h01).mono ?_
    rintro e w' ⟨rfl, rs', ats', h1, h2, h3⟩
    refine ⟨⟨_, rfl⟩, rs', ats', vs, ?_⟩
    unfold actM actR
    rw [if_pos h01, if_pos h01]
    exact h.stepQ h1 h2 h3
  · by_cases h2 : d.kind.tmod 4 = 2
    · refine (act_post p vs L _ d w h.pr (Nat.le_trans (hw.of _) hk) h2).mono ?_
      rintro e w' ⟨rfl, vs', g1, g2, g3⟩
      refine ⟨⟨_, rfl⟩, rs, ats, vs', ?_⟩
      unfold actM actR
      rw [if_neg h01, if_neg h01, if_pos h2, if_pos h2]
      exact h.stepP g1 g2 g3
    · refine (act_match q r a rs ats ms p vs L d w h.qr h.pr (Nat.le_trans hw.len hk) hw.fit (Nat.le_trans (hw.of _) hk) h.dis (fun e => h01 (.inl e)) (fun e => h01 (.inr e)) h2).mono ?_
      rintro e w' ⟨hn, g1, g2, g3⟩
      exact ⟨hn, rs, ats, vs, h.step2 g1 g2 g3⟩

/-- What acts leave. -/
structure St where
  ms : List Msg
  L : Nat → List Rcv
noncomputable def St.act (s : St) (d : Deed2) : St := ⟨actM s.ms s.L d, actR s.ms s.L d⟩
def St.zero : St := ⟨[], fun _ => []⟩
noncomputable def playS (l : List Deed2) : St := l.foldl St.act St.zero

theorem fold_snoc {l : List Deed2} {k : Nat} {d : Deed2} (s : St) (h : l[k]? = some d) : (l.take (k + 1)).foldl St.act s = ((l.take k).foldl St.act s).act d := by
  rw [List.take_add_one, h, List.foldl_append]
  rfl

theorem WF.fold {s : St} {n : Nat} (h : WF n s.ms s.L) (l : List Deed2) : WF (n + l.length) (l.foldl St.act s).ms (l.foldl St.act s).L := by
  induction l generalizing s n with
  | nil => exact h
  | cons d l ih =>
    have := ih (s := s.act d) (h.act d)
    simp only [List.foldl_cons, List.length_cons]
    exact this.mono (by omega)
end Go.Proofs.Ytgdpapcgghiljaa
