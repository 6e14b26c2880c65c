/- How arguments that are slices of acts on receives, or receives, read. -/
import Derived.Test.YtgdpapcgghiljaaPostM
import Derived.Test.YtgdpapcgghiljaaActs
import Derived.Lib.SmallJoins
set_option linter.unusedSimpArgs false
set_option linter.unusedVariables false
namespace Go.Proofs.Ytgdpapcgghiljaa
open Go.ChangeShapes Go.WideShapes Go.ChangeAt Go.RowKit Go.Deep

section
variable {H : Type} {enc : TypeId × Value → H} {w : World} {base : Nat} {spare : Nat → Bool} {held : Bool}

set_option maxRecDepth 100000 in
theorem trod_rcv {fuel : Nat} {cs : List Value} {x : DataW H × List MemPlace} (h : DataW.trod enc Try.prog w base spare held fuel 54 cs = some x) : ∃ m : Rcv, cs = m.cs.toList := by
  obtain ⟨xs, n, _, _, hl, hx, hf⟩ := DataW.trod_struct Try.underlying54 h
  have hl9 : cs.length = 9 := hl.trans (by kernel_rfl)
  have c9 : Try.prog.cellsOf 9 = 1 := by kernel_rfl
  have c3 : Try.prog.cellsOf 3 = 1 := by kernel_rfl
  have c4 : Try.prog.cellsOf 4 = 1 := by kernel_rfl
  match cs, hl9 with
  | [k0, k1, k2, k3, k4, k5, k6, k7, k8], _ =>
    match xs, hx with
    | [x0, x1, x2, x3, x4, x5, x6, x7, x8], _ =>
      have f0 := hf 0 _ rfl
      have f1 := hf 1 _ rfl
      have f2 := hf 2 _ rfl
      have f3 := hf 3 _ rfl
      have f4 := hf 4 _ rfl
      have f5 := hf 5 _ rfl
      have f6 := hf 6 _ rfl
      have f7 := hf 7 _ rfl
      have f8 := hf 8 _ rfl
      simp only [List.getElem_toArray, List.getElem_cons_zero, List.getElem_cons_succ, List.getElem?_cons_zero, List.getElem?_cons_succ, c9, c3, c4] at f0 f1 f2 f3 f4 f5 f6 f7 f8
      obtain ⟨s, e0, _⟩ := DataW.trod_string Try.underlying9 f0
      obtain ⟨n1, e1, _⟩ := DataW.trod_int Try.underlying3 f1
      obtain ⟨n2, e2, _⟩ := DataW.trod_int Try.underlying3 f2
      obtain ⟨n3, e3, _⟩ := DataW.trod_int Try.underlying3 f3
      obtain ⟨n4, e4, _⟩ := DataW.trod_int Try.underlying3 f4
      obtain ⟨n5, e5, _⟩ := DataW.trod_int Try.underlying3 f5
      obtain ⟨b, e6, _⟩ := DataW.trod_bool Try.underlying4 f6
      obtain ⟨n7, e7, _⟩ := DataW.trod_int Try.underlying3 f7
      obtain ⟨n8, e8, _⟩ := DataW.trod_int Try.underlying3 f8
      simp at e0 e1 e2 e3 e4 e5 e6 e7 e8
      subst e0 e1 e2 e3 e4 e5 e6 e7 e8
      exact ⟨⟨s, n1, n2, n3, n4, n5, b, n7, n8⟩, rfl⟩

set_option maxRecDepth 100000 in
/-- A RECEIVE THAT CAME IN. -/
theorem reads_rcv {r : Reach} {b0 : Nat} {v : Value} {d : DataW H} {p : List MemPlace} (hv : Value.okWide Try.prog w r b0 54 v) (h : DataW.Trod enc Try.prog w base spare held 54 v d p) : ∃ m : Rcv, v = .agg m.cs := by
  obtain ⟨cs, rfl, hsz⟩ := okWide_struct Try.underlying54 hv
  obtain ⟨fuel, hf⟩ := h
  obtain ⟨m, hm⟩ := trod_rcv hf
  refine ⟨m, ?_⟩
  have : cs.toList = m.cs.toList := by simpa [Value.cells] using hm
  rw [Array.toList_inj.1 this]

set_option maxRecDepth 100000 in
theorem trod_deed2 {fuel : Nat} {cs : List Value} {x : DataW H × List MemPlace} (h : DataW.trod enc Try.prog w base spare held fuel 72 cs = some x) : ∃ d : Deed2, cs = .int .u8 d.kind :: (d.m.cs.toList ++ d.r.cs.toList) := by
  obtain ⟨xs, n, _, _, hl, hx, hf⟩ := DataW.trod_struct Try.underlying72 h
  have hl9 : cs.length = 18 := hl.trans (by kernel_rfl)
  have c5 : Try.prog.cellsOf 5 = 1 := by kernel_rfl
  have c31 : Try.prog.cellsOf 31 = 8 := by kernel_rfl
  have c54 : Try.prog.cellsOf 54 = 9 := by kernel_rfl
  match cs, hl9 with
  | k0 :: ks, hl9 =>
    match xs, hx with
    | [x0, x1, x2], _ =>
      have f0 := hf 0 _ rfl
      have f1 := hf 1 _ rfl
      have f2 := hf 2 _ rfl
      simp only [List.getElem_toArray, List.getElem_cons_zero, List.getElem_cons_succ, List.getElem?_cons_zero, List.getElem?_cons_succ, c5, c31, c54] at f0 f1 f2
      obtain ⟨n0, e0, _⟩ := DataW.trod_int Try.underlying5 f0
      obtain ⟨m, e1⟩ := trod_msg f1
      obtain ⟨r, e2⟩ := trod_rcv f2
      simp only [List.drop_succ_cons, List.drop_zero] at e1 e2
      have hks : (ks.drop 8).take 9 = ks.drop 8 := List.take_of_length_le (by simp at hl9 ⊢; omega)
      rw [hks] at e2
      simp at e0
      subst e0
      refine ⟨⟨n0, m, r⟩, ?_⟩
      rw [← e1, ← e2, List.take_append_drop]

set_option maxRecDepth 100000 in
/-- A SLICE OF ACTS THAT CAME IN. -/
theorem reads_acts2 {fuel : Nat} {A : Option Addr} {n c : Nat} {x : DataW H × List MemPlace} (hlt : ∀ p ∈ x.2, p.block < w.heap.size) (h : DataW.trod enc Try.prog w base spare held fuel 52 [.slice A n c] = some x) : ∃ l : List Deed2, l.length = n ∧ RdP w A l := by
  rcases open_slice Try.underlying52 h with ⟨hcs, _⟩ | ⟨a, len, cap, m, fu, D, Pl, hcs, _, hl, hm, hmm, rfl, hx⟩
  · simp at hcs
    obtain ⟨rfl, rfl, rfl⟩ := hcs
    exact ⟨[], rfl, .inl rfl⟩
  · simp only [List.cons.injEq, Value.slice.injEq, and_true] at hcs
    obtain ⟨rfl, rfl, rfl⟩ := hcs
    have c72 : Try.prog.cellsOf 72 = 18 := by kernel_rfl
    rw [c72] at hx
    have hlm : n ≤ m := by rw [hmm]; split <;> omega
    by_cases h0 : n = 0
    · subst h0
      exact ⟨[], rfl, .inl rfl⟩
    · obtain ⟨b, off, spot⟩ := a
      have hspot : spot = none := by
        obtain ⟨cs', h1, h2⟩ := hx 0 (by omega)
        obtain ⟨d, rfl⟩ := trod_deed2 h2
        obtain ⟨_, _, h3⟩ := World.cells?_some h1
        have h4 := h3 0 (by omega)
        simpa [Addr.add] using World.cell?_spot (h4.trans rfl)
      subst hspot
      have hd : ∀ i, i < n → ∃ d : Deed2, w.cell? ⟨b, off + i * 18, none⟩ = some (.int .u8 d.kind) ∧ (∀ j, j < 8 → w.cell? ⟨b, off + i * 18 + 1 + j, none⟩ = d.m.cs[j]?) ∧ (∀ j, j < 9 → w.cell? ⟨b, off + i * 18 + 9 + j, none⟩ = d.r.cs[j]?) := by
        intro i hi
        obtain ⟨cs', h1, h2⟩ := hx i (by omega)
        obtain ⟨d, rfl⟩ := trod_deed2 h2
        obtain ⟨_, _, h3⟩ := World.cells?_some h1
        refine ⟨d, ?_, fun j hj => ?_, fun j hj => ?_⟩
        · have h4 := h3 0 (by omega)
          rw [add_eq, add_eq] at h4
          exact h4
        · have h4 := h3 (j + 1) (by omega)
          rw [add_eq, add_eq] at h4
          rw [List.getElem?_cons_succ, List.getElem?_append_left (by rw [Msg.cs_len]; exact hj), Array.getElem?_toList] at h4
          rw [← h4, show off + i * 18 + 1 + j = off + i * 18 + (j + 1) by omega]
        · have h4 := h3 (j + 9) (by omega)
          rw [add_eq, add_eq] at h4
          rw [show j + 9 = (j + 8) + 1 by omega, List.getElem?_cons_succ, List.getElem?_append_right (by rw [Msg.cs_len]; omega), Array.getElem?_toList, Msg.cs_len, show j + 8 - 8 = j by omega] at h4
          rw [← h4, show off + i * 18 + 9 + j = off + i * 18 + (j + 8 + 1) by omega]
      have : Inhabited Deed2 := ⟨⟨0, Msg.zero, Rcv.zero⟩⟩
      obtain ⟨f, hf⟩ := choose_lt hd
      refine ⟨(List.range n).map f, by simp, .inr ⟨b, off, rfl, ?_, fun i d hi => ?_⟩⟩
      · exact cell_lt (hf 0 (by omega)).1
      · have hin : i < n := by
          have := (List.getElem?_eq_some_iff.1 hi).1
          simpa using this
        have e : f i = d := by
          have := hi
          simp [hin] at this
          exact this
        subst e
        obtain ⟨q0, q1, q2⟩ := hf i hin
        exact ⟨q0, ⟨q1 0 (by omega), fun j hj => q1 (j + 1) (by omega)⟩, ⟨q2 0 (by omega), fun j hj => q2 (j + 1) (by omega)⟩⟩
end
end Go.Proofs.Ytgdpapcgghiljaa
