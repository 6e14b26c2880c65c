/- Contracts of the program's queue: find, Find, First. -/
import Derived.Test.YtgdpapcgghiljaaFind
import Derived.Test.YtgdpapcgghiljaaRefE
set_option linter.unusedSimpArgs false
set_option linter.unusedVariables false
namespace Go.Proofs.Ytgdpapcgghiljaa
open Go.RowKit

section
variable {w : World} {q r a : Nat} {rs : List (Chan × Value)} {ats : List (Sent × Value)} {ms : List Msg}
theorem QR.c0 (h : QR w q r a rs ats ms) : ∀ W, Chg Non w W → W.cell? ⟨q, 0, none⟩ = some (.map (some r)) := fun W hc => by rw [cell_of_row W q 0 _ 98 (0, 0) (h.non hc).head]; rfl
theorem QR.c1 (h : QR w q r a rs ats ms) : ∀ W, Chg Non w W → W.cell? ⟨q, 1, none⟩ = some (.map (some a)) := fun W hc => by rw [cell_of_row W q 1 _ 98 (0, 0) (h.non hc).head]; rfl
/-- 'q.rows[c]' -/
theorem QR.look (h : QR w q r a rs ats ms) (c : Chan) : ∃ A cp, RdM w A (ofChan ms c) ∧ ∀ W, Chg Non w W → (Instr.lookup 95 (.map (some r)) (.agg #[.string c.key, .int .i64 c.frm, .int .i64 c.dst]) false).run Try.prog W = .ok (.slice A (ofChan ms c).length cp) W := by
  obtain ⟨v, hv, hrow, _⟩ := h.rows_any c
  obtain ⟨A, cp, rfl, hr, _⟩ := hrow.form
  refine ⟨A, cp, hr, fun W hc => ?_⟩
  have := (h.non hc).rows.look chanKey Try.underlying95 (zero27 W) false c
  rw [hv] at this
  exact this
/-- 'q.at[s]' -/
theorem QR.lookNo (h : QR w q r a rs ats ms) {s : Sent} (hs : ∀ m ∈ ms, m.sent ≠ s) : ∀ W, Chg Non w W → (Instr.lookup 96 (.map (some a)) (.agg #[.int .i64 s.frm, .int .i64 s.call]) true).run Try.prog W = .ok (.tuple #[.agg #[.string ⟨#[]⟩, .int .i64 0, .int .i64 0], .bool false]) W := fun W hc => by
  have := (h.non hc).at_.look sentKey Try.underlying96 (zero100 W) true s
  rw [h.at_no hs] at this
  exact this
theorem QR.lookYes (h : QR w q r a rs ats ms) {m : Msg} (hm : m ∈ ms) : ∀ W, Chg Non w W → (Instr.lookup 96 (.map (some a)) (.agg #[.int .i64 m.frm, .int .i64 m.call]) true).run Try.prog W = .ok (.tuple #[.agg #[.string m.key, .int .i64 m.frm, .int .i64 m.dst], .bool true]) W := fun W hc => by
  have := (h.non hc).at_.look sentKey Try.underlying96 (zero100 W) true m.sent
  rw [h.at_yes hm] at this
  exact this
end

set_option maxRecDepth 100000 in
set_option maxHeartbeats 1000000 in
theorem find_no (q r a : Nat) (rs : List (Chan × Value)) (ats : List (Sent × Value)) (ms : List Msg) (f c : Int) (w : World) (h : QR w q r a rs ats ms) (hno : ∀ m ∈ ms, m.sent ≠ ⟨f, c⟩) :
    Calls Try.prog 55 #[.pointer (some ⟨q, 0, none⟩), .int .i64 f, .int .i64 c] w fun e w' => e = .returned (.tuple #[.slice none 0 0, .int .i64 (-1)]) ∧ Chg Non w w' := by
  have hq := h.lt q (by simp [blocksOf])
  have c0 := h.c0
  have c1 := h.c1
  have hlk : ∀ W, Chg Non w W → (Instr.lookup 96 (.map (some a)) (.agg #[.int .i64 f, .int .i64 c]) true).run Try.prog W = .ok (.tuple #[.agg #[.string ⟨#[]⟩, .int .i64 0, .int .i64 0], .bool false]) W := h.lookNo hno
  clear h hno
  go_enter Try.func55, Try.ntmps55
  go_wp2_with (go_at_call 52; refine (none_no q r _ ?_).mono ?_; (try go_simp); rintro e w1 ⟨rfl, rfl⟩)
  have hbx := box_cell w #[Value.int IntKind.i64 c] 3 (S := Non) (fun e => e) 0
  have hC0 : Chg Non w (w.alloc (Obj.cells #[Value.int IntKind.i64 c] 3)) := (Chg.refl _ _).alloc _
  generalize w.alloc (Obj.cells #[Value.int IntKind.i64 c] 3) = W0 at hbx hC0 ⊢
  have k1 : ∀ W, Chg Non W0 W → W.cell? ⟨q, 1, none⟩ = some (.map (some a)) := fun W hc => c1 W (hC0.non hc)
  have k2 := fun W hc => hlk W (hC0.non hc)
  have HC0 := Lib.hid hC0
  clear hC0 c1 c0 hlk
  go_region_held3 (fun W => Chg Non W0 W) ((repeat (first | assumption | exact Chg.refl _ _ | refine Chg.drew ?_ | refine Chg.alloc ?_ _))) (fail)
  all_goals
    go_wp2
    go_ret2
    exact ⟨rfl, HC0.out.non (by repeat (first | exact Chg.refl _ _ | refine Chg.drew ?_ | refine Chg.alloc ?_ _))⟩

set_option maxRecDepth 100000 in
set_option maxHeartbeats 1000000 in
theorem pfind_none (q r a : Nat) (rs : List (Chan × Value)) (ats : List (Sent × Value)) (ms : List Msg) (f c : Int) (w : World) (h : QR w q r a rs ats ms) (hno : ∀ m ∈ ms, m.sent ≠ ⟨f, c⟩) :
    Calls Try.prog 23 #[.pointer (some ⟨q, 0, none⟩), .int .i64 f, .int .i64 c] w fun e w' => e = .returned (.tuple #[.agg Msg.zero.cs, .bool false]) ∧ Chg Non w w' := by
  have hpl := fun W hc => find_no q r a rs ats ms f c W (h.non hc) hno
  have HPL := Lib.hid hpl
  clear hpl h hno
  go_enter Try.func23, Try.ntmps23
  go_wp2_with fail
  refine (HPL.out _ ((Chg.refl Non w).alloc _)).mono ?_
  rintro e w1 ⟨rfl, hc1⟩
  have hN : w1.heap[w.heap.size]? = some (.cells Msg.zero.cs 31 (0, 0)) := (hc1.block w.heap.size (by simp) (fun e => e)).trans (heap_alloc_new w _)
  have HC := Lib.hid (((Chg.refl Non w).alloc _).non hc1)
  have HN := Lib.hid hN
  clear hN hc1
  go_wp2_with (refine wpList_storeM rfl _ _ rfl w.heap.size rfl _ rfl Msg.zero Msg.zero rfl HN.out ?_; intro w2 p1 p2 p3)
  exact bodyPost_ret (v := .tuple #[.agg Msg.zero.cs, .bool false]) (by have r0 := cell31_0 p1; have r1 := cell31_s p1; simp [results, Try.results23, go_sem, r0, r1]; rfl) rfl ⟨rfl, HC.out.trans p2 (fun b hb e => by subst e; omega)⟩

theorem idx_ofChan {ms : List Msg} (hn : (ms.map (·.sent)).Nodup) {m : Msg} (hm : m ∈ ms) : ∃ k : Nat, idx (fun x => x.call == m.call) (ofChan ms m.chan) = k ∧ (ofChan ms m.chan)[k]? = some m := by
  rcases @idx_inv (fun x => x.call == m.call) (ofChan ms m.chan) with ⟨h1, h2⟩ | ⟨k, x, h1, h2, h3⟩
  · have := h2 m (List.mem_filter.2 ⟨hm, by simp⟩)
    simp at this
  · refine ⟨k, h1, ?_⟩
    rw [h2]
    have hx := List.mem_filter.1 (List.mem_of_getElem? h2)
    have e1 : x.chan = m.chan := by simpa using hx.2
    have e2 : x.call = m.call := by simpa using h3
    have e3 : x.sent = m.sent := by
      simp only [Msg.chan, Chan.mk.injEq] at e1
      simp [Msg.sent, e1.2.1, e2]
    congr 1
    obtain ⟨i, hi, rfl⟩ := List.getElem_of_mem hx.1
    obtain ⟨j, hj, rfl⟩ := List.getElem_of_mem hm
    have hp := List.pairwise_iff_getElem.1 hn
    rcases Nat.lt_trichotomy i j with h | h | h
    · have := hp i j (by simpa using hi) (by simpa using hj) h
      simp only [List.getElem_map] at this
      exact absurd e3 this
    · subst h; rfl
    · have := hp j i (by simpa using hj) (by simpa using hi) h
      simp only [List.getElem_map] at this
      exact absurd e3.symm this

set_option maxRecDepth 100000 in
set_option maxHeartbeats 1000000 in
theorem pfind_some (q r a : Nat) (rs : List (Chan × Value)) (ats : List (Sent × Value)) (ms : List Msg) (m : Msg) (w : World) (h : QR w q r a rs ats ms) (hm : m ∈ ms) (hl : ms.length ≤ 1000) :
    Calls Try.prog 23 #[.pointer (some ⟨q, 0, none⟩), .int .i64 m.frm, .int .i64 m.call] w fun e w' => e = .returned (.tuple #[.agg m.cs, .bool true]) ∧ Chg Non w w' := by
  obtain ⟨v, hv⟩ := h.chans m hm
  obtain ⟨k, hk, hmk⟩ := idx_ofChan h.nodup hm
  have hrow : Row w v (ofChan ms m.chan) := h.row _ hv
  obtain ⟨A, cp, rfl, hr, _⟩ := hrow.form
  obtain ⟨g, o, rfl, _, _⟩ := hr.at_ hmk
  have hpl := fun W hc => find_yes q r a rs ats ms m _ W (h.non hc) hm hv hl
  rw [hk] at hpl
  have HPL := Lib.hid hpl
  have hkl : k < (ofChan ms m.chan).length := (List.getElem?_eq_some_iff.1 hmk).1
  have e1 : ∀ W, Chg Non w W → W.cell? ⟨g, o + k * 8, none⟩ = some (.string m.key) := fun W hc => by
    obtain ⟨g', o', e, _, e1, _⟩ := (hr.non hc).at_ hmk
    cases e; exact e1
  have e2 : ∀ W, Chg Non w W → ∀ j, j < 7 → W.cell? ⟨g, o + k * 8 + (j + 1), none⟩ = m.cs[j + 1]? := fun W hc => by
    obtain ⟨g', o', e, _, _, e2⟩ := (hr.non hc).at_ hmk
    cases e; exact e2
  clear hpl h hm hv hrow hk hmk
  go_enter Try.func23, Try.ntmps23
  go_wp2_with fail
  refine (HPL.out _ ((Chg.refl Non w).alloc _)).mono ?_
  rintro e w1 ⟨rfl, hc1⟩
  have hN : w1.heap[w.heap.size]? = some (.cells Msg.zero.cs 31 (0, 0)) := (hc1.block w.heap.size (by simp) (fun e => e)).trans (heap_alloc_new w _)
  have hC := ((Chg.refl Non w).alloc _).non hc1
  have f1 := e1 _ hC
  have f2 := e2 _ hC
  have HC := Lib.hid hC
  have HN := Lib.hid hN
  clear hN hc1 hC e1 e2
  go_wp2_with (refine wpList_storeM rfl _ _ rfl w.heap.size rfl _ rfl m Msg.zero rfl HN.out ?_; intro w2 p1 p2 p3)
  exact bodyPost_ret (v := .tuple #[.agg m.cs, .bool true]) (by have r0 := cell31_0 p1; have r1 := cell31_s p1; simp [results, Try.results23, go_sem, r0, r1]; rfl) rfl ⟨rfl, HC.out.trans p2 (fun b hb e => by subst e; omega)⟩
end Go.Proofs.Ytgdpapcgghiljaa
