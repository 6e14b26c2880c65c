/- Contracts of the reference queue (dispatcherref13): Senders; of dispatcherref11.Ints. -/
import Derived.Test.YtgdpapcgghiljaaRefD
set_option linter.unusedSimpArgs false
set_option linter.unusedVariables false
namespace Go.Proofs.Ytgdpapcgghiljaa
open Go.RowKit

/-- A slice of the call's own that holds the numbers zs. -/
def RowI (w : World) (v : Value) (zs : List Int) : Prop := w.ownsRow 0 3 1 v zs.length (zs.map (Value.int .i64))
def RdI (w : World) (A : Option Addr) (zs : List Int) : Prop := zs = [] ∨ ∃ g o, A = some ⟨g, o, none⟩ ∧ g < w.heap.size ∧ ∀ i z, zs[i]? = some z → w.cell? ⟨g, o + i, none⟩ = some (.int .i64 z)

theorem RowI.nil (w : World) : RowI w (.slice none 0 0) [] := World.ownsRow_nil w 0 3 1

theorem RowI.lt {w : World} {v : Value} {zs : List Int} (h : RowI w v zs) : ∀ k, v.ownBlock = some k → k < w.heap.size := fun k hk => (World.ownsRow.lt h k hk).2

theorem RowI.form {w : World} {v : Value} {zs : List Int} (h : RowI w v zs) : ∃ A c, v = .slice A zs.length c ∧ RdI w A zs ∧ (∀ g, v.ownBlock = some g → A = some ⟨g, 0, none⟩) := by
  rcases h.2 with ⟨rfl, hn⟩ | ⟨g, cap, cur, rfl, _, hg, hc, hm, hcs, ht⟩
  · have : zs = [] := List.eq_nil_of_length_eq_zero hn
    subst this
    exact ⟨none, 0, rfl, .inl rfl, fun g hg => by simp [Value.ownBlock] at hg⟩
  · refine ⟨some ⟨g, 0, none⟩, cap, rfl, .inr ⟨g, 0, rfl, (Array.getElem?_eq_some_iff.1 hg).1, ?_⟩, fun g' hg' => by simp [Value.ownBlock] at hg'; rw [hg']⟩
    intro i z hi
    have hi' : i < zs.length := (List.getElem?_eq_some_iff.1 hi).1
    have : (zs.map (Value.int .i64))[i]? = some (.int .i64 z) := by simp [hi]
    rw [← ht, List.getElem?_take, if_pos (by omega)] at this
    rw [cell_of_row w g _ cur 3 (0, 0) hg, Nat.zero_add]
    simpa using this

theorem RowI.kept {w w' : World} {v : Value} {zs : List Int} {S : Nat → Prop} (h : RowI w v zs) (hc : Chg S w w') (hn : ∀ g, v.ownBlock = some g → ¬ S g) : RowI w' v zs := by
  refine ⟨h.1, ?_⟩
  rcases h.2 with h0 | ⟨g, cap, cur, rfl, hb, hg, r⟩
  · exact .inl h0
  · exact .inr ⟨g, cap, cur, rfl, hb, (hc.block g (Array.getElem?_eq_some_iff.1 hg).1 (hn g rfl)).trans hg, r⟩

theorem RdI.at_ {w : World} {A : Option Addr} {zs : List Int} (h : RdI w A zs) {i : Nat} {z : Int} (hi : zs[i]? = some z) : ∃ g o, A = some ⟨g, o, none⟩ ∧ g < w.heap.size ∧ w.cell? ⟨g, o + i, none⟩ = some (.int .i64 z) := by
  rcases h with rfl | ⟨g, o, rfl, hg, hat⟩
  · simp at hi
  · exact ⟨g, o, rfl, hg, hat i z hi⟩

theorem info3 : (Try.prog.info? 3).map (fun i => (i.zero, i.size, i.bytes)) = some (some (.int .i64 0), 1, 8) := by kernel_rfl

theorem wpList_appendI {w : World} {ops : Array Oper} {rest : List Oper} {o : Oper} {a : Act} {Q : Exit → Act → World → Prop} (hgd : o.guard = none) (s x : Operand)
    (ho : o.op = .call { callee := .builtin .append, args := #[s, x], argTypes := #[49, 49] }) (v : Value) (zs : List Int) (hs : a.eval s = v) (hrow : RowI w v zs)
    (B : Nat) (z : Int) (c : Nat) (hx : a.eval x = .slice (some ⟨B, 0, none⟩) 1 c) (hB : w.heap[B]? = some (.cells #[.int .i64 z] 3 (0, 0))) (hl : zs.length ≤ 1000000)
    (h : ∀ g cap w', RowI w' (.slice (some ⟨g, 0, none⟩) (zs.length + 1) cap) (zs ++ [z]) → Chg (fun b => v.ownBlock = some b) w w' → (v.ownBlock = some g ∨ g = w.heap.size) → g < w'.heap.size → wpList Try.prog ops Q rest (a.put o.dst (.slice (some ⟨g, 0, none⟩) (zs.length + 1) cap)) w') : wpList Try.prog ops Q (o :: rest) a w := by
  obtain ⟨i0, hi, hz0, hz1, hz2⟩ := info_parts info3
  refine wpList_append_lies w hgd s x 49 ho 0 3 i0 _ 1 8 Try.underlying49 hi hz0 hz1 hz2 rfl (by omega) v zs.length (zs.map (Value.int .i64)) hs hrow ⟨B, 0, none⟩ 1 c [.int .i64 z] hx (by rfl) (World.news_of_block hB) (by simp [Value.oneCell']) (by omega)
    (by unfold maxLen; omega) (by omega) (Nat.zero_le _) _ rfl ?_
  intro g cap w' h1 h2 h3 h4
  refine h g cap w' ?_ ((Chg.refl _ _).grown h2 (fun k hk => .inr hk)) h3 h4
  unfold RowI
  rw [List.length_append, List.map_append]
  exact h1

/-- The senders, as the reference finds them: of those below n. -/
def sendersL (ms : List Msg) (key : ByteArray) (dst : Int) (n : Nat) : List Int := ((List.range n).filter (fun f : Nat => ms.any (isB · ⟨key, (f : Int), dst⟩))).map fun f : Nat => (f : Int)

theorem sendersL_succ (ms : List Msg) (key : ByteArray) (dst : Int) (n : Nat) : sendersL ms key dst (n + 1) = sendersL ms key dst n ++ (if ms.any (isB · ⟨key, (n : Int), dst⟩) then [(n : Int)] else []) := by
  unfold sendersL
  rw [List.range_succ, List.filter_append, List.map_append]
  congr 1
  cases h : ms.any (isB · ⟨key, (n : Int), dst⟩) <;> simp [h]

theorem find_any (ms : List Msg) (c : Chan) : (ms.find? (fstB c (-1))).isSome = ms.any (isB · c) := by
  rw [Bool.eq_iff_iff, List.find?_isSome, List.any_eq_true]
  simp [fstB]

set_option maxRecDepth 100000 in
set_option maxHeartbeats 1000000 in
theorem rsenders_any (p : Nat) (v : Value) (ms : List Msg) (key : ByteArray) (dst : Int) (w : World) (h : RR w p v ms) (hl : ms.length ≤ 1000) :
    Calls Try.prog 31 #[.pointer (some ⟨p, 0, none⟩), .string key, .int .i64 dst] w fun e w' => ∃ v', e = .returned v' ∧ RowI w' v' (sendersL ms key dst 64) ∧ Fresh w v' ∧ Chg Non w w' := by
  have HH := Lib.hid h
  clear h
  go_enter Try.func31, Try.ntmps31
  go_wp2_with fail
  go_loopw [7, 8] (fun out i wr => ∃ k : Nat, i = .int .i64 k ∧ k ≤ 64 ∧ RowI wr out (sendersL ms key dst k) ∧ Fresh w out ∧ Chg Non w wr) (fun _ i _ => 64 - (intOf i).toNat)
  case atStart => exact ⟨0, rfl, by omega, by simpa [sendersL] using RowI.nil w, Fresh.nil w, Chg.refl _ _⟩
  case round =>
    obtain ⟨k, rfl, hk, hrow, hfr, hc⟩ := hrel
    have HR := Lib.hid hrow
    have HF := Lib.hid hfr
    have HC1 := Lib.hid hc
    clear hrow hfr hc
    by_cases hlt : k < 64
    · go_wp2_with fail
      refine (rfirst_any p v ms key k dst (-1) wr (HH.out.non HC1.out) hl).mono ?_
      rintro e w1 ⟨rfl, hc1⟩
      rw [find_any]
      generalize ((ms.find? (fstB ⟨key, (k : Int), dst⟩ (-1))).getD Msg.zero) = x
      have HC2 := Lib.hid hc1
      clear hc1
      have hlen : (sendersL ms key dst k).length ≤ 1000000 := by
        have := List.length_filter_le (fun f : Nat => ms.any (isB · ⟨key, (f : Int), dst⟩)) (List.range k)
        simp only [sendersL, List.length_map]
        simp only [List.length_range] at this
        omega
      cases hB : ms.any (isB · ⟨key, (k : Int), dst⟩)
      · have HB := Lib.hid hB
        clear hB
        go_wp2_with (refine wpList_storeM rfl _ _ rfl w1.heap.size rfl _ rfl x Msg.zero rfl (heap_alloc_new _ _) ?_; intro w2 p1 p2 p3)
        have hc3 : Chg Non wr w2 := (HC2.out.non ((Chg.refl Non w1).alloc _)).trans p2 (fun b hb e => by have := HC2.out.size; omega)
        go_roundw
        case rel => exact ⟨k + 1, by go_num, by omega, by rw [sendersL_succ, HB.out]; simpa using HR.out.kept hc3 (fun _ _ e => e), HF.out, HC1.out.non hc3⟩
        case measure => simp [intOf]; omega
      · have HB := Lib.hid hB
        clear hB
        go_wp2_with (first
          | (refine wpList_storeM rfl _ _ rfl w1.heap.size rfl _ rfl x Msg.zero rfl (heap_alloc_new _ _) ?_; intro w2 p1 p2 p3; clear p3; have hc3 := Lib.hid ((HC2.out.non ((Chg.refl Non w1).alloc _)).trans p2 (fun b hb e => by have := HC2.out.size; omega)))
          | (at_builtin; refine wpList_appendI rfl _ _ rfl u7 (sendersL ms key dst k) rfl (HR.out.kept (hc3.out.non ((Chg.refl Non _).alloc _)) (fun _ _ e => e)) w2.heap.size k 1 rfl (heap_alloc_new _ _) hlen ?_; intro gg cc w3 q1 q2 q3 q4))
        have hgt := gathered (n := (sendersL ms key dst k).length + 1) (c := cc) HF.out HC1.out (hc3.out.non ((Chg.refl _ _).alloc _)) q2 q3
        go_roundw
        case rel => exact ⟨k + 1, by go_num, by omega, by rw [sendersL_succ, HB.out]; exact q1, hgt.1, hgt.2⟩
        case measure => simp [intOf]; omega
    · obtain rfl : k = 64 := by omega
      go_wp2
      go_ret
      exact ⟨u7, rfl, HR.out, HF.out, HC1.out⟩

set_option maxRecDepth 100000 in
set_option maxHeartbeats 400000 in
theorem ints_same (A B : Option Addr) (c d : Nat) (zs : List Int) (w : World) (ha : RdI w A zs) (hb : RdI w B zs) (hx : zs.length ≤ 1000000) :
    Calls Try.prog 29 #[.slice A zs.length c, .slice B zs.length d] w fun e w' => e = .returned (.bool true) ∧ Chg Non w w' := by
  go_enter Try.func29, Try.ntmps29
  go_wp2_with fail
  go_loopw [5] (fun i wr => ∃ k : Nat, i = .int .i64 k ∧ k ≤ zs.length ∧ ∃ n, wr = w.drewN n) (fun i _ => zs.length - (intOf i).toNat)
  case atStart => exact ⟨0, rfl, by omega, 0, rfl⟩
  case round =>
    obtain ⟨k, rfl, hk, n, rfl⟩ := hrel
    by_cases hlt : k < zs.length
    · obtain ⟨x, hx1⟩ : ∃ x, zs[k]? = some x := ⟨zs[k], List.getElem?_eq_getElem hlt⟩
      obtain ⟨g, o, rfl, _, e1⟩ := ha.at_ hx1
      obtain ⟨g', o', rfl, _, e2⟩ := hb.at_ hx1
      have HX := Lib.hid hx1
      clear hx1
      go_wp2_with fail
      go_quiet (fail)
      go_wp2
      go_roundw
      case rel => exact ⟨k + 1, by go_num, by omega, _, rfl⟩
      case measure => simp [intOf]; omega
    · obtain rfl : k = zs.length := by omega
      go_wp2
      go_ret
      exact ⟨rfl, (Chg.refl _ _).drewN _⟩

set_option maxRecDepth 100000 in
set_option maxHeartbeats 400000 in
theorem same_any (A B : Option Addr) (c d : Nat) (xs : List Msg) (w : World) (ha : RdM w A xs) (hb : RdM w B xs) (hx : xs.length ≤ 1000000) :
    Calls Try.prog 20 #[.slice A xs.length c, .slice B xs.length d] w fun e w' => e = .returned (.bool true) ∧ Chg Non w w' := by
  go_enter Try.func20, Try.ntmps20
  go_wp2_with fail
  go_loopw [5] (fun i wr => ∃ k : Nat, i = .int .i64 k ∧ k ≤ xs.length ∧ ∃ n, wr = w.drewN n) (fun i _ => xs.length - (intOf i).toNat)
  case atStart => exact ⟨0, rfl, by omega, 0, rfl⟩
  case round =>
    obtain ⟨k, rfl, hk, n, rfl⟩ := hrel
    by_cases hlt : k < xs.length
    · obtain ⟨x, hx1⟩ : ∃ x, xs[k]? = some x := ⟨xs[k], List.getElem?_eq_getElem hlt⟩
      obtain ⟨g, o, rfl, _, e1, e1'⟩ := ha.at_ hx1
      obtain ⟨g', o', rfl, _, e2, e2'⟩ := hb.at_ hx1
      have HX := Lib.hid hx1
      clear hx1
      go_wp2_with fail
      go_quiet (fail)
      go_wp2
      go_roundw
      case rel => exact ⟨k + 1, by go_num, by omega, _, rfl⟩
      case measure => simp [intOf]; omega
    · obtain rfl : k = xs.length := by omega
      go_wp2
      go_ret
      exact ⟨rfl, (Chg.refl _ _).drewN _⟩
end Go.Proofs.Ytgdpapcgghiljaa
