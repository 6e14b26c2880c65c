/- How a queue of the program lies in memory: what its two maps hold of the messages that were sent. -/
import Derived.Test.YtgdpapcgghiljaaWords
set_option linter.unusedSimpArgs false
set_option linter.unusedVariables false
namespace Go.Proofs.Ytgdpapcgghiljaa
open Go.RowKit

/-- The messages of a channel, in order. -/
def ofChan (ms : List Msg) (c : Chan) : List Msg := ms.filter fun m => decide (m.chan = c)

/-- The blocks of a queue. -/
def blocksOf (q r a : Nat) (rs : List (Chan × Value)) : List Nat := q :: r :: a :: rs.filterMap (·.2.ownBlock)

/-- THE QUEUE at block q, its maps at r and a, holds the messages ms (in the order in which they were sent). -/
structure QR (w : World) (q r a : Nat) (rs : List (Chan × Value)) (ats : List (Sent × Value)) (ms : List Msg) : Prop where
  head : w.heap[q]? = some (.cells #[.map (some r), .map (some a)] 98 (0, 0))
  rows : MapB Chan.v w r rs
  at_ : MapB Sent.v w a ats
  sent : ats.Perm (ms.map fun m => (m.sent, m.chan.v))
  chans : ∀ m ∈ ms, ∃ v, (m.chan, v) ∈ rs
  row : ∀ p ∈ rs, Row w p.2 (ofChan ms p.1)
  apart : (blocksOf q r a rs).Nodup

section
variable {w w' : World} {q r a : Nat} {rs : List (Chan × Value)} {ats : List (Sent × Value)} {ms : List Msg}

theorem QR.lt (h : QR w q r a rs ats ms) : ∀ b ∈ blocksOf q r a rs, b < w.heap.size := by
  intro b hb
  simp only [blocksOf, List.mem_cons, List.mem_filterMap] at hb
  rcases hb with rfl | rfl | rfl | ⟨p, hp, hb⟩
  · exact (Array.getElem?_eq_some_iff.1 h.head).1
  · exact h.rows.lt
  · exact h.at_.lt
  · exact (h.row p hp).lt b hb

theorem QR.kept {S : Nat → Prop} (h : QR w q r a rs ats ms) (hc : Chg S w w') (hn : ∀ b ∈ blocksOf q r a rs, ¬ S b) : QR w' q r a rs ats ms where
  head := (hc.block q (h.lt q (by simp [blocksOf])) (hn q (by simp [blocksOf]))).trans h.head
  rows := h.rows.of_block (hc.block r (h.lt r (by simp [blocksOf])) (hn r (by simp [blocksOf])))
  at_ := h.at_.of_block (hc.block a (h.lt a (by simp [blocksOf])) (hn a (by simp [blocksOf])))
  sent := h.sent
  chans := h.chans
  row p hp := (h.row p hp).kept hc fun g hg => hn g (by simp only [blocksOf, List.mem_cons, List.mem_filterMap]; exact .inr (.inr (.inr ⟨p, hp, hg⟩)))
  apart := h.apart

theorem QR.non (h : QR w q r a rs ats ms) (hc : Chg Non w w') : QR w' q r a rs ats ms := h.kept hc fun _ _ e => e

theorem QR.nodup (h : QR w q r a rs ats ms) : (ms.map (·.sent)).Nodup := by
  obtain ⟨es, ck, _, _, _, hn⟩ := h.at_
  have := (h.sent.map (·.1)).nodup_iff.1 hn
  simpa [List.map_map, Function.comp_def] using this

theorem QR.rowsNodup (h : QR w q r a rs ats ms) : (rs.map (·.1)).Nodup := by
  obtain ⟨es, ck, _, _, _, hn⟩ := h.rows
  exact hn

theorem mget_of_mem {α : Type} [DecidableEq α] {M : List (α × Value)} (hn : (M.map (·.1)).Nodup) {x : α} {v : Value} (h : (x, v) ∈ M) : mget M x = some v := by
  unfold mget
  induction M with
  | nil => cases h
  | cons p M ih =>
    simp only [List.map_cons, List.nodup_cons] at hn
    rcases List.mem_cons.1 h with rfl | h
    · simp
    · have : (p.1 == x) = false := by
        rw [beq_eq_false_iff_ne]
        rintro rfl
        exact hn.1 (List.mem_map.2 ⟨_, h, rfl⟩)
      simp only [List.find?_cons, this]
      exact ih hn.2 h

theorem mget_none {α : Type} [DecidableEq α] {M : List (α × Value)} {x : α} (h : ∀ v, (x, v) ∉ M) : mget M x = none := by
  unfold mget
  rw [Option.map_eq_none_iff, List.find?_eq_none]
  intro p hp e
  have : p.1 = x := by simpa using e
  exact h p.2 (by rw [← this]; exact hp)

/-- What 'at' tells. -/
theorem QR.at_yes (h : QR w q r a rs ats ms) {m : Msg} (hm : m ∈ ms) : mget ats m.sent = some m.chan.v := by
  obtain ⟨es, ck, _, _, _, hn⟩ := h.at_
  exact mget_of_mem hn (h.sent.mem_iff.2 (List.mem_map.2 ⟨m, hm, rfl⟩))

theorem QR.at_no (h : QR w q r a rs ats ms) {s : Sent} (hs : ∀ m ∈ ms, m.sent ≠ s) : mget ats s = none := by
  refine mget_none fun v hv => ?_
  obtain ⟨m, hm, e⟩ := List.mem_map.1 (h.sent.mem_iff.1 hv)
  cases e
  exact hs m hm rfl

/-- What 'rows' tells. -/
theorem QR.rows_yes (h : QR w q r a rs ats ms) {c : Chan} {v : Value} (hv : (c, v) ∈ rs) : mget rs c = some v := mget_of_mem h.rowsNodup hv

theorem QR.rows_any (h : QR w q r a rs ats ms) (c : Chan) : ∃ v, (mget rs c).getD (.slice none 0 0) = v ∧ Row w v (ofChan ms c) ∧ (∀ g, v.ownBlock = some g → g ∈ blocksOf q r a rs) := by
  by_cases hc : ∃ v, (c, v) ∈ rs
  · obtain ⟨v, hv⟩ := hc
    refine ⟨v, by rw [h.rows_yes hv]; rfl, h.row _ hv, fun g hg => ?_⟩
    simp only [blocksOf, List.mem_cons, List.mem_filterMap]
    exact .inr (.inr (.inr ⟨_, hv, hg⟩))
  · have hc' : ∀ v, (c, v) ∉ rs := fun v hv => hc ⟨v, hv⟩
    have he : ofChan ms c = [] := by
      unfold ofChan
      rw [List.filter_eq_nil_iff]
      intro m hm e
      obtain ⟨v, hv⟩ := h.chans m hm
      have : m.chan = c := by simpa using e
      exact hc' v (this ▸ hv)
    refine ⟨.slice none 0 0, by rw [mget_none hc']; rfl, by rw [he]; exact Row.nil w, fun g hg => by simp [Value.ownBlock] at hg⟩
end

theorem zero100 (w : World) : (zeroValue 100).run Try.prog w = .ok (Chan.v ⟨⟨#[]⟩, 0, 0⟩) w := by kernel_rfl
theorem zero27 (w : World) : (zeroValue 27).run Try.prog w = .ok (.slice none 0 0) w := by kernel_rfl

end Go.Proofs.Ytgdpapcgghiljaa
