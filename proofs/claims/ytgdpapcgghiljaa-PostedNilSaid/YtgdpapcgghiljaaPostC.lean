/- How the posted receives lie in memory, and contracts: New, of, place, Waiting, At. -/
import Derived.Test.YtgdpapcgghiljaaPostB
set_option linter.unusedSimpArgs false
set_option linter.unusedVariables false
namespace Go.Proofs.Ytgdpapcgghiljaa
open Go.RowKit

def blocksP (p : Nat) (vs : List Value) : List Nat := p :: vs.filterMap (·.ownBlock)

/-- THE RECEIVES at block p: of rank k those of L k. -/
structure PR (w : World) (p : Nat) (vs : List Value) (L : Nat → List Rcv) : Prop where
  head : w.heap[p]? = some (.cells (.bool true :: vs).toArray 83 (0, 0))
  len : vs.length = 64
  row : ∀ k v, vs[k]? = some v → RowR w v (L k)
  apart : (blocksP p vs).Nodup

section
variable {w w' : World} {p : Nat} {vs : List Value} {L : Nat → List Rcv}
theorem PR.lt (h : PR w p vs L) : ∀ b ∈ blocksP p vs, b < w.heap.size := by
  intro b hb
  simp only [blocksP, List.mem_cons, List.mem_filterMap] at hb
  rcases hb with rfl | ⟨v, hv, hb⟩
  · exact (Array.getElem?_eq_some_iff.1 h.head).1
  · obtain ⟨k, hk, rfl⟩ := List.getElem_of_mem hv
    exact (h.row k _ (List.getElem?_eq_getElem hk)).lt b hb

theorem PR.kept {S : Nat → Prop} (h : PR w p vs L) (hc : Chg S w w') (hn : ∀ b ∈ blocksP p vs, ¬ S b) : PR w' p vs L where
  head := (hc.block p (h.lt p (by simp [blocksP])) (hn p (by simp [blocksP]))).trans h.head
  len := h.len
  row k v hv := (h.row k v hv).kept hc fun g hg => hn g (by
    simp only [blocksP, List.mem_cons, List.mem_filterMap]
    exact .inr ⟨v, List.mem_of_getElem? hv, hg⟩)
  apart := h.apart

theorem PR.non (h : PR w p vs L) (hc : Chg Non w w') : PR w' p vs L := h.kept hc fun _ _ e => e

theorem PR.c0 (h : PR w p vs L) : ∀ W, Chg Non w W → W.cell? ⟨p, 0, none⟩ = some (.bool true) := fun W hc => by
  rw [cell_of_row W p 0 _ 83 (0, 0) (h.non hc).head]; rfl
theorem PR.cv (h : PR w p vs L) {k : Nat} {v : Value} (hv : vs[k]? = some v) : ∀ W, Chg Non w W → W.cell? ⟨p, 1 + k, none⟩ = some v := fun W hc => by
  rw [cell_of_row W p (1 + k) _ 83 (0, 0) (h.non hc).head, Nat.add_comm 1 k]; simpa using hv
theorem PR.at_ (h : PR w p vs L) {k : Nat} (hk : k < 64) : ∃ v, vs[k]? = some v ∧ RowR w v (L k) := by
  have hl := h.len
  have e : vs[k]? = some (vs[k]'(by omega)) := List.getElem?_eq_getElem (by omega)
  exact ⟨_, e, h.row k _ e⟩
end

theorem nil_own : ∀ vs : List Value, (∀ v ∈ vs, v = .slice none 0 0) → vs.filterMap (·.ownBlock) = [] := by
  intro vs h
  rw [List.filterMap_eq_nil_iff]
  intro v hv
  rw [h v hv]; rfl

set_option maxRecDepth 100000 in
set_option maxHeartbeats 400000 in
theorem pnew_any (w : World) : Calls Try.prog 44 #[] w fun e w' => ∃ p vs, e = .returned (.pointer (some ⟨p, 0, none⟩)) ∧ PR w' p vs (fun _ => []) ∧ w.heap.size = p ∧ vs.filterMap (·.ownBlock) = [] ∧ Chg Non w w' := by
  have fin : ∀ w', w' = w.alloc (.cells (.bool true :: List.replicate 64 (.slice none 0 0)).toArray 83) → PR w' w.heap.size (List.replicate 64 (.slice none 0 0)) (fun _ => []) ∧ Chg Non w w' := by
    rintro w' rfl
    have hz : (List.replicate 64 (Value.slice none 0 0)).filterMap (·.ownBlock) = [] := nil_own _ (fun v hv => (List.mem_replicate.1 hv).2)
    refine ⟨⟨heap_alloc_new w _, by simp, fun k v hv => ?_, by simp only [blocksP, hz]; simp⟩, (Chg.refl _ _).alloc _⟩
    have := (List.mem_replicate.1 (List.mem_of_getElem? hv)).2
    subst this
    exact RowR.nil _
  have hz : (List.replicate 64 (Value.slice none 0 0)).filterMap (·.ownBlock) = [] := nil_own _ (fun v hv => (List.mem_replicate.1 hv).2)
  have FIN := Lib.hid fin
  have HZ := Lib.hid hz
  clear fin hz
  go_enter Try.func44, Try.ntmps44
  go_wp2
  go_ret
  exact ⟨_, _, rfl, (FIN.out _ rfl).1, rfl, HZ.out, (FIN.out _ rfl).2⟩

theorem RowR.cap {w : World} {A : Option Addr} {n c : Nat} {ms : List Rcv} (h : RowR w (.slice A n c) ms) : ms.length ≤ c := by
  rcases h.2 with ⟨h2, h3⟩ | ⟨g', cap', cur, hv, hb, hg, hc, _⟩
  · cases h2; omega
  · cases hv; exact hc

/-- A rank's receives. -/
def ofL (L : Nat → List Rcv) (rank : Int) : List Rcv := if 0 ≤ rank ∧ rank ≤ 63 then L rank.toNat else []

set_option maxRecDepth 100000 in
set_option maxHeartbeats 400000 in
theorem of_all (p : Nat) (vs : List Value) (L : Nat → List Rcv) (rank : Int) (w : World) (h : PR w p vs L) :
    ∃ A c, RdR w A (ofL L rank) ∧ (ofL L rank).length ≤ c ∧ ∀ W, Chg Non w W → Calls Try.prog 65 #[.pointer (some ⟨p, 0, none⟩), .int .i64 rank] W fun e w' => e = .returned (.slice A (ofL L rank).length c) ∧ W = w' := by
  have c0' := h.c0
  by_cases hr : 0 ≤ rank ∧ rank ≤ 63
  · have e : ofL L rank = L rank.toNat := by unfold ofL; rw [if_pos hr]
    rw [e]
    obtain ⟨k, rfl⟩ : ∃ k : Nat, rank = k := ⟨rank.toNat, by omega⟩
    rw [Int.toNat_natCast]
    obtain ⟨v, hv, hrow⟩ := h.at_ (k := k) (by omega)
    obtain ⟨A, c, rfl, hrd, _⟩ := hrow.form
    have cv' := h.cv hv
    have hk : decide ((0 : Int) ≤ k ∧ (k : Int) ≤ 63) = true := by simp; omega
    have hk64 : (k : Int) < 64 := by omega
    have hk0 : (0 : Int) ≤ k := by omega
    have hcap := hrow.cap
    refine ⟨A, c, hrd, hcap, fun W hW => ?_⟩
    clear hcap
    have HK := Lib.hid (hk ▸ inp_any k 0 63 W)
    have c0 := c0' W hW
    have cv := cv' W hW
    clear h hv hrow hr hk c0' cv' hrd
    go_enter Try.func65, Try.ntmps65
    go_wp2_with (go_at_call 66; refine HK.out.mono ?_; rintro e w1 ⟨rfl, rfl⟩)
    go_ret
    exact ⟨rfl, rfl⟩
  · have e : ofL L rank = [] := by unfold ofL; rw [if_neg hr]
    rw [e]
    have hk : decide ((0 : Int) ≤ rank ∧ rank ≤ 63) = false := by rw [decide_eq_false_iff_not]; exact hr
    refine ⟨none, 0, .inl rfl, Nat.le_refl _, fun W hW => ?_⟩
    have HK := Lib.hid (hk ▸ inp_any rank 0 63 W)
    have c0 := c0' W hW
    clear h hr hk c0'
    go_enter Try.func65, Try.ntmps65
    go_wp2_with (go_at_call 66; refine HK.out.mono ?_; rintro e w1 ⟨rfl, rfl⟩)
    go_ret
    exact ⟨rfl, rfl⟩

theorem of_any (p : Nat) (vs : List Value) (L : Nat → List Rcv) (rank : Int) (w : World) (h : PR w p vs L) :
    ∃ A c, RdR w A (ofL L rank) ∧ (ofL L rank).length ≤ c ∧ Calls Try.prog 65 #[.pointer (some ⟨p, 0, none⟩), .int .i64 rank] w fun e w' => e = .returned (.slice A (ofL L rank).length c) ∧ w = w' := by
  obtain ⟨A, c, h1, h2, h3⟩ := of_all p vs L rank w h
  exact ⟨A, c, h1, h2, h3 w (Chg.refl _ _)⟩

set_option maxHeartbeats 400000 in
theorem pcall_any (m : Rcv) (b : Nat) (n : Int) (w : World) (c : w.cell? ⟨b, 0, none⟩ = some (.int .i64 n)) :
    Calls Try.prog 89 (#[.agg m.cs] ++ #[.pointer (some ⟨b, 0, none⟩)]) w fun e w' => e = .returned (.bool (m.call == n)) ∧ Chg Non w w' := by
  have hb : b < w.heap.size := World.block_lt_of_cell? w _ c
  go_enter Try.func89, Try.ntmps89
  go_wp2
  go_ret
  exact ⟨rfl, (Chg.refl _ _).alloc _⟩

/-- the place of a receive among its rank's -/
def plcR (L : Nat → List Rcv) (rank call : Int) : Int := idxR (fun r => r.call == call) (ofL L rank)

set_option maxRecDepth 100000 in
set_option maxHeartbeats 400000 in
theorem pplace_any (p : Nat) (vs : List Value) (L : Nat → List Rcv) (rank call : Int) (w : World) (h : PR w p vs L) (hl : (ofL L rank).length ≤ 1000) :
    Calls Try.prog 67 #[.pointer (some ⟨p, 0, none⟩), .int .i64 rank, .int .i64 call] w fun e w' => e = .returned (.int .i64 (plcR L rank call)) ∧ Chg Non w w' := by
  have hC0 : Chg Non w (w.alloc (Obj.cells #[Value.int IntKind.i64 call] 3)) := (Chg.refl _ _).alloc _
  obtain ⟨A, c, hrd, _, hcall⟩ := of_any p vs L rank (w.alloc (Obj.cells #[Value.int IntKind.i64 call] 3)) (h.non hC0)
  have HC := Lib.hid hcall
  clear hcall h
  go_enter Try.func67, Try.ntmps67
  go_wp2_with (first
    | (go_at_call 65; refine HC.out.mono ?_; rintro e w1 ⟨rfl, rfl⟩)
    | (go_at_call 88; refine (index_rcv 89 enters89 #[.pointer (some ⟨w.heap.size, 0, none⟩)] (fun r => r.call == call) A c (ofL L rank) _ hrd (by omega) (fun m _ W hW => pcall_any m w.heap.size call W (box_cell w #[Value.int IntKind.i64 call] 3 (S := Non) (fun e => e) 0 W hW))).mono ?_; rintro e w2 ⟨rfl, hc2⟩))
  go_ret
  exact ⟨rfl, hC0.non hc2⟩

set_option maxRecDepth 100000 in
set_option maxHeartbeats 400000 in
theorem pwaiting_any (p : Nat) (vs : List Value) (L : Nat → List Rcv) (rank : Int) (w : World) (h : PR w p vs L) (hl : (ofL L rank).length ≤ 1000) :
    Calls Try.prog 39 #[.pointer (some ⟨p, 0, none⟩), .int .i64 rank] w fun e w' => ∃ v', e = .returned v' ∧ RowR w' v' ((ofL L rank).filter waitB) ∧ Fresh w v' ∧ Chg Non w w' := by
  obtain ⟨A, c, hrd, _, hcall⟩ := of_any p vs L rank w h
  have HC := Lib.hid hcall
  clear hcall h
  go_enter Try.func39, Try.ntmps39
  go_wp2_with (first
    | (go_at_call 65; refine HC.out.mono ?_; rintro e w1 ⟨rfl, rfl⟩)
    | (go_at_call 69; refine (kept_any 70 enters70 #[] waitB A c (ofL L rank) _ hrd hl (fun m _ W _ => waits_any m W)).mono ?_; rintro e w2 ⟨v', rfl, h1, h2, h3⟩))
  go_ret
  exact ⟨v', rfl, h1, h2, h3⟩
end Go.Proofs.Ytgdpapcgghiljaa
