/- How an argument that is a slice of bytes reads. -/
import Derived.Test.YtgdpapcgghiljaaOver
import Derived.Test.YtgdpapcgghiljaaActsB
set_option linter.unusedSimpArgs false
set_option linter.unusedVariables false
namespace Go.Proofs.Ytgdpapcgghiljaa
open Go.ChangeShapes Go.WideShapes Go.ChangeAt Go.RowKit Go.Deep

section
variable {H : Type} {enc : TypeId × Value → H} {w : World} {base : Nat} {spare : Nat → Bool} {held : Bool}
set_option maxRecDepth 100000 in
/-- A SLICE OF BYTES THAT CAME IN. -/
theorem reads_bytes {fuel : Nat} {A : Option Addr} {n c : Nat} {x : DataW H × List MemPlace} (hlt : ∀ p ∈ x.2, p.block < w.heap.size) (h : DataW.trod enc Try.prog w base spare held fuel 76 [.slice A n c] = some x) : ∃ l : List Int, l.length = n ∧ RdB w A l := by
  rcases open_slice Try.underlying76 h with ⟨hcs, _⟩ | ⟨a, len, cap, m, fu, D, Pl, hcs, _, hl, hm, hmm, rfl, hx⟩
  · simp at hcs
    obtain ⟨rfl, rfl, rfl⟩ := hcs
    exact ⟨[], rfl, .inl rfl⟩
  · simp only [List.cons.injEq, Value.slice.injEq, and_true] at hcs
    obtain ⟨rfl, rfl, rfl⟩ := hcs
    have c5 : Try.prog.cellsOf 5 = 1 := by kernel_rfl
    rw [c5] at hx
    have hlm : n ≤ m := by rw [hmm]; split <;> omega
    by_cases h0 : n = 0
    · subst h0
      exact ⟨[], rfl, .inl rfl⟩
    · obtain ⟨b, off, spot⟩ := a
      have hone : ∀ i, i < n → ∃ z : Int, w.cell? ((⟨b, off, spot⟩ : Addr).add (i * 1)) = some (.int .u8 z) := by
        intro i hi
        obtain ⟨cs', h1, h2⟩ := hx i (by omega)
        obtain ⟨z, e0, _⟩ := DataW.trod_int Try.underlying5 h2
        subst e0
        obtain ⟨_, _, h3⟩ := World.cells?_some h1
        have h4 := h3 0 (by omega)
        exact ⟨z, by simpa [Addr.add] using h4⟩
      have hspot : spot = none := by
        obtain ⟨z, hz⟩ := hone 0 (by omega)
        simpa [Addr.add] using World.cell?_spot (by simpa [Addr.add] using hz)
      subst hspot
      have hd : ∀ i, i < n → ∃ z : Int, w.cell? ⟨b, off + i, none⟩ = some (.int .u8 z) := by
        intro i hi
        obtain ⟨z, hz⟩ := hone i hi
        rw [add_eq, Nat.mul_one] at hz
        exact ⟨z, hz⟩
      have : Inhabited Int := ⟨0⟩
      obtain ⟨f, hf⟩ := choose_lt hd
      refine ⟨(List.range n).map f, by simp, .inr ⟨b, off, rfl, cell_lt (hf 0 (by omega)), fun i d hi => ?_⟩⟩
      have hin : i < n := by
        have := (List.getElem?_eq_some_iff.1 hi).1
        simpa using this
      have e : f i = d := by
        have := hi
        simp [hin] at this
        exact this
      subst e
      exact hf i hin
end
end Go.Proofs.Ytgdpapcgghiljaa
