/- How an argument that is a slice of acts reads. -/
import Derived.Test.YtgdpapcgghiljaaPlayK
import Derived.ProofKit
import Derived.Deep.Slices
import Derived.Below
set_option linter.unusedSimpArgs false
set_option linter.unusedVariables false
namespace Go.Proofs.Ytgdpapcgghiljaa
open Go.ChangeShapes Go.WideShapes Go.ChangeAt Go.RowKit Go.Deep

theorem own : ownKnob Try.prog.godebug = none := by kernel_rfl
theorem laidOut : laidOutB Try.prog = true := by kernel_rfl

theorem cell_lt {w : World} {p : Addr} {v : Value} (h : w.cell? p = some v) : p.block < w.heap.size := by
  apply Classical.byContradiction
  intro hn
  have : w.heap[p.block]? = none := Array.getElem?_eq_none (by omega)
  unfold World.cell? at h
  simp [this] at h

theorem add_eq (b off n : Nat) : (⟨b, off, none⟩ : Addr).add n = ⟨b, off + n, none⟩ := by
  unfold Addr.add
  split
  · rename_i e; simp [e]
  · rfl

section
variable {H : Type} {enc : TypeId × Value → H} {w : World} {base : Nat} {spare : Nat → Bool} {held : Bool}

set_option maxRecDepth 100000 in
theorem trod_msg {fuel : Nat} {cs : List Value} {x : DataW H × List MemPlace} (h : DataW.trod enc Try.prog w base spare held fuel 31 cs = some x) : ∃ m : Msg, cs = m.cs.toList := by
  obtain ⟨xs, n, _, _, hl, hx, hf⟩ := DataW.trod_struct Try.underlying31 h
  have hl8 : cs.length = 8 := hl.trans (by kernel_rfl)
  have c9 : Try.prog.cellsOf 9 = 1 := by kernel_rfl
  have c3 : Try.prog.cellsOf 3 = 1 := by kernel_rfl
  have c2 : Try.prog.cellsOf 2 = 1 := by kernel_rfl
  have c4 : Try.prog.cellsOf 4 = 1 := by kernel_rfl
  match cs, hl8 with
  | [k0, k1, k2, k3, k4, k5, k6, k7], _ =>
    match xs, hx with
    | [x0, x1, x2, x3, x4, x5, x6, x7], _ =>
      have f0 := hf 0 _ rfl
      have f1 := hf 1 _ rfl
      have f2 := hf 2 _ rfl
      have f3 := hf 3 _ rfl
      have f4 := hf 4 _ rfl
      have f5 := hf 5 _ rfl
      have f6 := hf 6 _ rfl
      have f7 := hf 7 _ rfl
      simp only [List.getElem_toArray, List.getElem_cons_zero, List.getElem_cons_succ, List.getElem?_cons_zero, List.getElem?_cons_succ, c9, c3, c2, c4] at f0 f1 f2 f3 f4 f5 f6 f7
      obtain ⟨s, e0, _⟩ := DataW.trod_string Try.underlying9 f0
      obtain ⟨n1, e1, _⟩ := DataW.trod_int Try.underlying3 f1
      obtain ⟨n2, e2, _⟩ := DataW.trod_int Try.underlying3 f2
      obtain ⟨n3, e3, _⟩ := DataW.trod_int Try.underlying3 f3
      obtain ⟨n4, e4, _⟩ := DataW.trod_int Try.underlying3 f4
      obtain ⟨n5, e5, _⟩ := DataW.trod_int Try.underlying2 f5
      obtain ⟨n6, e6, _⟩ := DataW.trod_int Try.underlying3 f6
      obtain ⟨b, e7, _⟩ := DataW.trod_bool Try.underlying4 f7
      simp at e0 e1 e2 e3 e4 e5 e6 e7
      subst e0 e1 e2 e3 e4 e5 e6 e7
      exact ⟨⟨s, n1, n2, n3, n4, n5, n6, b⟩, rfl⟩

set_option maxRecDepth 100000 in
theorem trod_deed {fuel : Nat} {cs : List Value} {x : DataW H × List MemPlace} (h : DataW.trod enc Try.prog w base spare held fuel 33 cs = some x) : ∃ d : Deed, cs = .int .u8 d.kind :: d.m.cs.toList := by
  obtain ⟨xs, n, _, _, hl, hx, hf⟩ := DataW.trod_struct Try.underlying33 h
  have hl9 : cs.length = 9 := hl.trans (by kernel_rfl)
  have c5 : Try.prog.cellsOf 5 = 1 := by kernel_rfl
  have c31 : Try.prog.cellsOf 31 = 8 := by kernel_rfl
  match cs, hl9 with
  | k0 :: ks, hl9 =>
    match xs, hx with
    | [x0, x1], _ =>
      have f0 := hf 0 _ rfl
      have f1 := hf 1 _ rfl
      simp only [List.getElem_toArray, List.getElem_cons_zero, List.getElem_cons_succ, List.getElem?_cons_zero, List.getElem?_cons_succ, c5, c31] at f0 f1
      obtain ⟨n0, e0, _⟩ := DataW.trod_int Try.underlying5 f0
      obtain ⟨m, e1⟩ := trod_msg f1
      have hks : (ks.take 8) = ks := List.take_of_length_le (by simp at hl9; omega)
      simp only [List.drop_succ_cons, List.drop_zero, hks] at e1
      simp at e0
      subst e0
      exact ⟨⟨n0, m⟩, by rw [e1]⟩

set_option maxRecDepth 100000 in
/-- A SLICE OF ACTS THAT CAME IN. -/
theorem reads_acts {fuel : Nat} {A : Option Addr} {n c : Nat} {x : DataW H × List MemPlace} (hlt : ∀ p ∈ x.2, p.block < w.heap.size) (h : DataW.trod enc Try.prog w base spare held fuel 22 [.slice A n c] = some x) : ∃ l : List Deed, l.length = n ∧ RdA w A l := by
  rcases open_slice Try.underlying22 h with ⟨hcs, _⟩ | ⟨a, len, cap, m, fu, D, Pl, hcs, _, hl, hm, hmm, rfl, hx⟩
  · simp at hcs
    obtain ⟨rfl, rfl, rfl⟩ := hcs
    exact ⟨[], rfl, .inl rfl⟩
  · simp only [List.cons.injEq, Value.slice.injEq, and_true] at hcs
    obtain ⟨rfl, rfl, rfl⟩ := hcs
    have c33 : Try.prog.cellsOf 33 = 9 := by kernel_rfl
    rw [c33] at hx
    have hlm : n ≤ m := by rw [hmm]; split <;> omega
    by_cases h0 : n = 0
    · subst h0
      exact ⟨[], rfl, .inl rfl⟩
    · obtain ⟨b, off, spot⟩ := a
      have hspot : spot = none := by
        obtain ⟨cs', h1, h2⟩ := hx 0 (by omega)
        obtain ⟨d, rfl⟩ := trod_deed h2
        obtain ⟨_, _, h3⟩ := World.cells?_some h1
        have h4 := h3 0 (by omega)
        simpa [Addr.add] using World.cell?_spot (h4.trans rfl)
      subst hspot
      have hd : ∀ i, i < n → ∃ d : Deed, w.cell? ⟨b, off + i * 9, none⟩ = some (.int .u8 d.kind) ∧ ∀ j, j < 8 → w.cell? ⟨b, off + i * 9 + 1 + j, none⟩ = d.m.cs[j]? := by
        intro i hi
        obtain ⟨cs', h1, h2⟩ := hx i (by omega)
        obtain ⟨d, rfl⟩ := trod_deed h2
        obtain ⟨_, _, h3⟩ := World.cells?_some h1
        refine ⟨d, ?_, fun j hj => ?_⟩
        · have h4 := h3 0 (by omega)
          rw [add_eq, add_eq] at h4
          exact h4
        · have h4 := h3 (j + 1) (by omega)
          rw [add_eq, add_eq] at h4
          simp only [List.getElem?_cons_succ, Array.getElem?_toList] at h4
          rw [← h4, show off + i * 9 + 1 + j = off + i * 9 + (j + 1) by omega]
      have : Inhabited Deed := ⟨⟨0, Msg.zero⟩⟩
      obtain ⟨f, hf⟩ := choose_lt hd
      refine ⟨(List.range n).map f, by simp, .inr ⟨b, off, rfl, ?_, fun i d hi => ?_⟩⟩
      · exact cell_lt (hf 0 (by omega)).1
      · have hin : i < n := by
          have := (List.getElem?_eq_some_iff.1 hi).1
          simpa using this
        have e : f i = d := by
          have := hi
          simp [hin] at this
          exact this
        subst e
        obtain ⟨q0, q1⟩ := hf i hin
        refine ⟨q0, q1 0 (by omega), fun j hj => ?_⟩
        have := q1 (j + 1) (by omega)
        exact this
end
end Go.Proofs.Ytgdpapcgghiljaa
