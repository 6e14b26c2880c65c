/- Plain laws of messages and receives: whose a message may be, and that this only grows. -/
import Derived.Test.YtgdpapcgghiljaaPostW
set_option linter.unusedSimpArgs false
set_option linter.unusedVariables false
namespace Go.Proofs.Ytgdpapcgghiljaa
open Go.RowKit

theorem mem_senders {ms : List Msg} {key : ByteArray} {dst f : Int} (hf : 0 ≤ f ∧ f ≤ 63) : f ∈ sendersL ms key dst 64 ↔ ms.any (isB · ⟨key, f, dst⟩) = true := by
  unfold sendersL
  constructor
  · intro h
    obtain ⟨n, hn, rfl⟩ := List.mem_map.1 h
    exact (List.mem_filter.1 hn).2
  · intro h
    refine List.mem_map.2 ⟨f.toNat, List.mem_filter.2 ⟨List.mem_range.2 (by omega), ?_⟩, by omega⟩
    rw [show ((f.toNat : Nat) : Int) = f by omega]
    exact h

theorem free_iff {ms : List Msg} {x : Rcv} {ahead : List Rcv} {m : Msg} (hf : ∀ m ∈ ms, 0 ≤ m.frm ∧ m.frm ≤ 63) :
    m ∈ freeL ms x ahead ↔ (x.peer = -1 ∨ x.peer = m.frm) ∧ ms.find? (fstB ⟨x.key, m.frm, x.rank⟩ x.tag) = some m ∧ ∀ y ∈ ahead, y.done = false → fitsB y m = false := by
  constructor
  · intro h
    obtain ⟨f, hf', h⟩ := List.mem_filterMap.1 h
    obtain ⟨h1, h2, h3⟩ := freeOne_some h
    obtain ⟨e1, e2, e3, e4⟩ := fst_some h2
    have e : m.frm = f := by
      have := congrArg Chan.frm e3
      exact this
    subst e
    refine ⟨h1, h2, fun y hy hd => ?_⟩
    have := List.any_eq_false.1 h3 y (List.mem_filter.2 ⟨hy, by simp [waitB, hd]⟩)
    simpa using this
  · rintro ⟨h1, h2, h3⟩
    obtain ⟨e1, e2, e3, e4⟩ := fst_some h2
    refine List.mem_filterMap.2 ⟨m.frm, (mem_senders (hf m e1)).2 (List.any_eq_true.2 ⟨m, e1, by simp [isB, e2, e3]⟩), ?_⟩
    unfold freeOne
    rw [if_pos h1, h2]
    simp only [Option.isSome_some, Option.getD_some, Bool.true_and]
    have h4 : (ahead.filter waitB).any (fitsB · m) = false := by
      rw [List.any_eq_false]
      intro y hy
      obtain ⟨hy1, hy2⟩ := List.mem_filter.1 hy
      have := h3 y hy1 (by simpa [waitB] using hy2)
      simp [this]
    rw [h4]
    rfl

theorem senders_rise (ms : List Msg) (key : ByteArray) (dst : Int) (n : Nat) : (sendersL ms key dst n).Pairwise (· < ·) := by
  unfold sendersL
  rw [List.pairwise_map]
  have h1 : (List.range n).Pairwise (· < ·) := List.pairwise_lt_range
  exact (h1.filter _).imp (fun h => by omega)

/-- Of each sender one, by rising senders. -/
theorem free_rise (ms : List Msg) (x : Rcv) (ahead : List Rcv) : (freeL ms x ahead).Pairwise (fun a b => a.frm < b.frm) := by
  unfold freeL
  rw [List.pairwise_filterMap]
  refine (senders_rise _ _ _ _).imp ?_
  intro f g hfg a ha b hb
  obtain ⟨_, h2, _⟩ := freeOne_some ha
  obtain ⟨_, g2, _⟩ := freeOne_some hb
  have e1 : a.frm = f := congrArg Chan.frm (fst_some h2).2.2.1
  have e2 : b.frm = g := congrArg Chan.frm (fst_some g2).2.2.1
  omega

theorem may_rise (ms : List Msg) (L : Nat → List Rcv) (rank call : Int) : (mayL ms L rank call).Pairwise (fun a b => a.frm < b.frm) := by
  unfold mayL
  split
  · exact .nil
  · split
    · exact .nil
    · split
      · exact .nil
      · exact free_rise _ _ _

theorem rise_inj {l : List Msg} (h : l.Pairwise (fun a b => a.frm < b.frm)) {a b : Msg} (ha : a ∈ l) (hb : b ∈ l) (e : a.frm = b.frm) : a = b := by
  obtain ⟨i, hi, rfl⟩ := List.mem_iff_getElem.1 ha
  obtain ⟨j, hj, rfl⟩ := List.mem_iff_getElem.1 hb
  have := List.pairwise_iff_getElem.1 h
  rcases Nat.lt_trichotomy i j with h1 | h1 | h1
  · have := this i j hi hj h1; omega
  · subst h1; rfl
  · have := this j i hj hi h1; omega

section
variable {k : Nat} {ms : List Msg} {L : Nat → List Rcv}

theorem calls_of (h : WF k ms L) (rank : Int) : (ofL L rank).Pairwise (fun x y => x.call < y.call) := by
  unfold ofL; split
  · exact h.calls _
  · exact .nil

theorem rank_of (h : WF k ms L) {rank : Int} {x : Rcv} (hx : x ∈ ofL L rank) : x.rank = rank := by
  unfold ofL at hx
  split at hx
  · rename_i hr; have := h.rank _ x hx; omega
  · cases hx

/-- Where a receive stands. -/
theorem find_call {l : List Rcv} (h : l.Pairwise (fun x y => x.call < y.call)) {i : Nat} {x : Rcv} (hx : l[i]? = some x) : l.findIdx? (fun r => r.call == x.call) = some i := by
  obtain ⟨hi, rfl⟩ := List.getElem?_eq_some_iff.1 hx
  rw [List.findIdx?_eq_some_iff_getElem]
  refine ⟨hi, by simp, fun j hj => ?_⟩
  have := List.pairwise_iff_getElem.1 h j i (by omega) hi hj
  simp; omega

theorem may_of (h : WF k ms L) {rank : Int} {i : Nat} {x : Rcv} (hx : (ofL L rank)[i]? = some x) : mayL ms L rank x.call = if x.done then [] else freeL ms x ((ofL L rank).take i) := by
  unfold mayL
  rw [find_call (calls_of h rank) hx]
  simp only [hx]

theorem may_iff (h : WF k ms L) {rank : Int} {i : Nat} {x : Rcv} (hx : (ofL L rank)[i]? = some x) {m : Msg} :
    m ∈ mayL ms L rank x.call ↔ x.done = false ∧ (x.peer = -1 ∨ x.peer = m.frm) ∧ ms.find? (fstB ⟨x.key, m.frm, x.rank⟩ x.tag) = some m ∧ ∀ y ∈ (ofL L rank).take i, y.done = false → fitsB y m = false := by
  rw [may_of h hx]
  cases hd : x.done
  · simp only [Bool.false_eq_true, if_false, true_and]
    exact free_iff h.fit
  · simp

theorem may_fits (h : WF k ms L) {rank : Int} {i : Nat} {x : Rcv} (hx : (ofL L rank)[i]? = some x) {m : Msg} (hm : m ∈ mayL ms L rank x.call) : m ∈ ms ∧ m.taken = false ∧ fitsB x m = true ∧ m.dst = rank ∧ x.done = false := by
  have hd := ((may_iff h hx).1 hm).1
  rw [may_of h hx, hd] at hm
  simp only [Bool.false_eq_true, if_false] at hm
  obtain ⟨h1, h2, h3⟩ := free_mem hm
  refine ⟨h1, h2, h3, ?_, hd⟩
  have hr := rank_of h (List.mem_of_getElem? hx)
  simp only [fitsB, Bool.and_eq_true, beq_iff_eq] at h3
  omega

/-- One message may be at most one receive's. -/
theorem may_once (h : WF k ms L) {rank rank' : Int} {i j : Nat} {x y : Rcv} (hx : (ofL L rank)[i]? = some x) (hy : (ofL L rank')[j]? = some y) {m : Msg} (hm : m ∈ mayL ms L rank x.call) (hn : m ∈ mayL ms L rank' y.call) : rank = rank' ∧ i = j := by
  obtain ⟨a1, a2, a3, a4, a5⟩ := may_fits h hx hm
  obtain ⟨b1, b2, b3, b4, b5⟩ := may_fits h hy hn
  have e : rank = rank' := by omega
  subst e
  refine ⟨rfl, ?_⟩
  have h1 := ((may_iff h hx).1 hm).2.2.2
  have h2 := ((may_iff h hy).1 hn).2.2.2
  have hi : i < (ofL L rank).length := (List.getElem?_eq_some_iff.1 hx).1
  have hj : j < (ofL L rank).length := (List.getElem?_eq_some_iff.1 hy).1
  rcases Nat.lt_trichotomy i j with hij | hij | hij
  · have := h2 x (List.mem_take_iff_getElem.2 ⟨i, by omega, (List.getElem?_eq_some_iff.1 hx).2⟩) a5
    rw [a3] at this; cases this
  · exact hij
  · have := h1 y (List.mem_take_iff_getElem.2 ⟨j, by omega, (List.getElem?_eq_some_iff.1 hy).2⟩) b5
    rw [b3] at this; cases this

theorem ms_inj (h : WF k ms L) {a b : Msg} (ha : a ∈ ms) (hb : b ∈ ms) (e : a.sent = b.sent) : a = b := sent_inj h.nodup ha hb e

/-- All that may be the waiting receives' are different. -/
theorem all_once (h : WF k ms L) (rank : Int) : (((ofL L rank).filter waitB).flatMap fun x => mayL ms L x.rank x.call).Pairwise (fun a b => a.sent ≠ b.sent) := by
  rw [List.pairwise_flatMap]
  constructor
  · intro x hx
    refine (may_rise _ _ _ _).imp fun {a b} hab e => ?_
    have : a.frm = b.frm := congrArg Sent.frm e
    omega
  · refine List.Pairwise.filter _ ?_
    rw [List.pairwise_iff_getElem]
    intro i j hi hj hij a ha b hb e
    have hxi : (ofL L rank)[i]? = some (ofL L rank)[i] := List.getElem?_eq_getElem hi
    have hxj : (ofL L rank)[j]? = some (ofL L rank)[j] := List.getElem?_eq_getElem hj
    rw [rank_of h (List.getElem_mem hi)] at ha
    rw [rank_of h (List.getElem_mem hj)] at hb
    have := ms_inj h (may_fits h hxi ha).1 (may_fits h hxj hb).1 e
    subst this
    have := (may_once h hxi hxj ha hb).2
    omega
end
end Go.Proofs.Ytgdpapcgghiljaa
