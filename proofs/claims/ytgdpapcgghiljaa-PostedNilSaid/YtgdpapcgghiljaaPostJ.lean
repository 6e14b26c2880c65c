/- Plain laws: what a message that may be a receive's is. -/
import Derived.Test.YtgdpapcgghiljaaPostI
set_option linter.unusedSimpArgs false
set_option linter.unusedVariables false
namespace Go.Proofs.Ytgdpapcgghiljaa
open Go.RowKit

theorem freeOne_some {ms : List Msg} {x : Rcv} {wait : List Rcv} {f : Int} {m : Msg} (h : freeOne ms x wait f = some m) :
    (x.peer = -1 ∨ x.peer = f) ∧ ms.find? (fstB ⟨x.key, f, x.rank⟩ x.tag) = some m ∧ wait.any (fitsB · m) = false := by
  unfold freeOne at h
  split at h
  · rename_i hp
    split at h
    · rename_i hc
      rw [Bool.and_eq_true, Bool.not_eq_true'] at hc
      obtain ⟨y, hy⟩ := Option.isSome_iff_exists.1 hc.1
      rw [hy] at h hc
      simp only [Option.getD_some] at h hc
      cases h
      exact ⟨hp, hy, hc.2⟩
    · cases h
  · cases h

theorem fst_some {ms : List Msg} {c : Chan} {tag : Int} {m : Msg} (h : ms.find? (fstB c tag) = some m) : m ∈ ms ∧ m.taken = false ∧ m.chan = c ∧ (tag = -1 ∨ tag = m.tag) := by
  have h1 := List.find?_some h
  have h2 := List.mem_of_find?_eq_some h
  simp only [fstB, isB, Bool.and_eq_true, Bool.not_eq_true', decide_eq_true_eq, Bool.or_eq_true, beq_iff_eq] at h1
  exact ⟨h2, h1.1.1, h1.1.2, h1.2⟩

theorem free_mem {ms : List Msg} {x : Rcv} {ahead : List Rcv} {m : Msg} (h : m ∈ freeL ms x ahead) : m ∈ ms ∧ m.taken = false ∧ fitsB x m = true := by
  obtain ⟨f, hf, h⟩ := List.mem_filterMap.1 h
  obtain ⟨h1, h2, h3⟩ := freeOne_some h
  obtain ⟨e1, e2, e3, e4⟩ := fst_some h2
  refine ⟨e1, e2, ?_⟩
  simp only [Msg.chan, Chan.mk.injEq] at e3
  obtain ⟨g1, g2, g3⟩ := e3
  simp only [fitsB, Bool.and_eq_true, decide_eq_true_eq, Bool.or_eq_true, beq_iff_eq]
  exact ⟨⟨⟨g1.symm, g3.symm⟩, by rw [g2]; exact h1⟩, e4⟩

theorem may_mem {ms : List Msg} {L : Nat → List Rcv} {rank call : Int} {m : Msg} (h : m ∈ mayL ms L rank call) :
    ∃ (i : Nat) (r : Rcv), (ofL L rank).findIdx? (fun r => r.call == call) = some i ∧ (ofL L rank)[i]? = some r ∧ r.done = false ∧ m ∈ freeL ms r ((ofL L rank).take i) := by
  unfold mayL at h
  split at h
  · cases h
  · rename_i i hi
    split at h
    · cases h
    · rename_i r hr
      split at h
      · cases h
      · rename_i hd
        exact ⟨i, r, hi, hr, by simpa using hd, h⟩

theorem ofL_pos {L : Nat → List Rcv} {rank : Int} {i : Nat} {r : Rcv} (h : (ofL L rank)[i]? = some r) : (0 ≤ rank ∧ rank ≤ 63) ∧ ofL L rank = L rank.toNat := by
  unfold ofL at h ⊢
  split at h
  · rename_i hr
    exact ⟨hr, by rw [if_pos hr]⟩
  · simp at h

end Go.Proofs.Ytgdpapcgghiljaa
