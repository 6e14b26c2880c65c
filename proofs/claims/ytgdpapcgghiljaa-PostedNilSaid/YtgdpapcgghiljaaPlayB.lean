/- Contracts of the program's queue: First, Ahead. -/
import Derived.Test.YtgdpapcgghiljaaPlayA
set_option linter.unusedSimpArgs false
set_option linter.unusedVariables false
namespace Go.Proofs.Ytgdpapcgghiljaa
open Go.RowKit

def tagB (tag : Int) (m : Msg) : Bool := !m.taken && (tag == -1 || tag == m.tag)

theorem find_ofChan (ms : List Msg) (c : Chan) (tag : Int) : (ofChan ms c).find? (tagB tag) = ms.find? (fstB c tag) := by
  unfold ofChan
  rw [List.find?_filter]
  congr 1
  funext m
  unfold tagB fstB isB
  cases m.taken <;> cases decide (m.chan = c) <;> cases (tag == -1 || tag == m.tag) <;> rfl

set_option maxRecDepth 100000 in
set_option maxHeartbeats 1000000 in
theorem pfirst_any (q r a : Nat) (rs : List (Chan × Value)) (ats : List (Sent × Value)) (ms : List Msg) (key : ByteArray) (f d tag : Int) (w : World) (h : QR w q r a rs ats ms) (hl : ms.length ≤ 1000) :
    Calls Try.prog 25 #[.pointer (some ⟨q, 0, none⟩), .string key, .int .i64 f, .int .i64 d, .int .i64 tag] w fun e w' => e = .returned (.tuple #[.agg ((ms.find? (fstB ⟨key, f, d⟩ tag)).getD Msg.zero).cs, .bool (ms.find? (fstB ⟨key, f, d⟩ tag)).isSome]) ∧ Chg Non w w' := by
  have hq := h.lt q (by simp [blocksOf])
  have c0 := h.c0
  obtain ⟨A, cp, hr, hlk⟩ := h.look ⟨key, f, d⟩
  rw [← find_ofChan]
  have hlen : (ofChan ms ⟨key, f, d⟩).length ≤ 1000 := Nat.le_trans (List.length_filter_le _ _) hl
  clear h hl
  generalize ofChan ms ⟨key, f, d⟩ = l at hr hlk hlen ⊢
  go_enter Try.func25, Try.ntmps25
  go_wp2_with (go_at_call 52; refine (none_no q r _ ?_).mono ?_; (try go_simp); rintro e w1 ⟨rfl, rfl⟩)
  have hN : (w.alloc (Obj.cells Msg.zero.cs 31)).heap[w.heap.size]? = some (.cells Msg.zero.cs 31 (0, 0)) := heap_alloc_new w _
  have hC : Chg Non w (w.alloc (Obj.cells Msg.zero.cs 31)) := (Chg.refl _ _).alloc _
  have hz : w.heap.size < (w.alloc (Obj.cells Msg.zero.cs 31)).heap.size := by simp
  change Code.wp _ _ _ _ (w.alloc (Obj.cells Msg.zero.cs 31))
  generalize w.alloc (Obj.cells Msg.zero.cs 31) = W0 at hN hC hz ⊢
  have HC := Lib.hid hC
  have HN := Lib.hid hN
  clear hC hN c0 hlk
  go_loopw [27] (fun i wr => ∃ k : Nat, i = .int .i64 k ∧ k ≤ l.length ∧ (∀ x ∈ l.take k, tagB tag x = false) ∧ Chg Non W0 wr) (fun i _ => l.length - (intOf i).toNat)
  case atStart => exact ⟨0, rfl, by omega, by simp, Chg.refl _ _⟩
  case round =>
    obtain ⟨k, rfl, hk, hno, hc⟩ := hrel
    have HNO := Lib.hid hno
    have HC1 := Lib.hid hc
    have HC2 := Lib.hid (HC.out.non hc)
    have hN1 : wr.heap[w.heap.size]? = some (.cells Msg.zero.cs 31 (0, 0)) := (hc.block _ hz (fun e => e)).trans HN.out
    have hz1 : w.heap.size < wr.heap.size := Nat.lt_of_lt_of_le hz hc.size
    have HN1 := Lib.hid hN1
    clear hno hN1
    by_cases hlt : k < l.length
    · obtain ⟨x, hx1⟩ : ∃ x, l[k]? = some x := ⟨l[k], List.getElem?_eq_getElem hlt⟩
      obtain ⟨g, o, rfl, hg, e1, e2⟩ := (hr.non HC2.out).at_ hx1
      have HX := Lib.hid hx1
      have hB0 : (wr.alloc (Obj.cells x.cs 31)).heap[w.heap.size]? = some (.cells Msg.zero.cs 31 (0, 0)) := (Below.heap_alloc wr _ _ hz1).trans HN1.out
      have HB0 := Lib.hid hB0
      have H1 := Lib.hid ((Chg.refl Non wr).alloc (Obj.cells x.cs 31))
      clear hx1 hc hB0
      cases ht : (!x.taken)
      · have HT := Lib.hid ht
        go_wp2
        go_roundw
        case rel => exact ⟨k + 1, by go_num, by omega, take_no HNO.out HX.out (by simp [tagB, HT.out]), HC1.out.non H1.out⟩
        case measure => simp [intOf]; omega
      · have HT := Lib.hid ht
        cases hg2 : (tag == -1 || tag == x.tag)
        · have h1 : (tag == -1) = false := by simp at hg2; simp; omega
          have h2 : (tag == x.tag) = false := by simp at hg2; simp; omega
          have HG := Lib.hid hg2
          clear hg2
          go_wp2
          go_roundw
          case rel => exact ⟨k + 1, by go_num, by omega, take_no HNO.out HX.out (by simp only [tagB, HT.out, HG.out, Bool.true_and]), HC1.out.non H1.out⟩
          case measure => simp [intOf]; omega
        · have HG := Lib.hid hg2
          have hfd : l.find? (tagB tag) = some x := find_first HNO.out HX.out (by simp only [tagB, HT.out, HG.out, Bool.true_and])
          have HFD := Lib.hid hfd
          clear hfd hg2
          by_cases h1 : (tag == -1) = true
          · go_wp2_with (refine wpList_storeM rfl _ _ rfl w.heap.size rfl _ rfl x Msg.zero rfl HB0.out ?_; intro w2 p1 p2 p3)
            exact bodyPost_ret (v := .tuple #[.agg x.cs, .bool true]) (by have r0 := cell31_0 p1; have r1 := cell31_s p1; simp [results, Try.results25, go_sem, r0, r1]; rfl) rfl ⟨by rw [HFD.out]; rfl, (HC2.out.non H1.out).trans p2 (fun b hb e => by subst e; omega)⟩
          · have h1' : (tag == -1) = false := by simpa using h1
            have h2 : (tag == x.tag) = true := by have := HG.out; rw [h1'] at this; simpa using this
            clear h1
            go_wp2_with (refine wpList_storeM rfl _ _ rfl w.heap.size rfl _ rfl x Msg.zero rfl HB0.out ?_; intro w2 p1 p2 p3)
            exact bodyPost_ret (v := .tuple #[.agg x.cs, .bool true]) (by have r0 := cell31_0 p1; have r1 := cell31_s p1; simp [results, Try.results25, go_sem, r0, r1]; rfl) rfl ⟨by rw [HFD.out]; rfl, (HC2.out.non H1.out).trans p2 (fun b hb e => by subst e; omega)⟩
    · obtain rfl : k = l.length := by omega
      have hfd : l.find? (tagB tag) = none := by rw [List.find?_eq_none]; intro x hx; simp [HNO.out x (by simpa using hx)]
      have HFD := Lib.hid hfd
      clear hfd hc
      go_wp2_with (refine wpList_storeM rfl _ _ rfl w.heap.size rfl _ rfl Msg.zero Msg.zero rfl HN1.out ?_; intro w2 p1 p2 p3)
      exact bodyPost_ret (v := .tuple #[.agg Msg.zero.cs, .bool false]) (by have r0 := cell31_0 p1; have r1 := cell31_s p1; simp [results, Try.results25, go_sem, r0, r1]; rfl) rfl ⟨by rw [HFD.out]; rfl, HC2.out.trans p2 (fun b hb e => by subst e; omega)⟩
end Go.Proofs.Ytgdpapcgghiljaa
