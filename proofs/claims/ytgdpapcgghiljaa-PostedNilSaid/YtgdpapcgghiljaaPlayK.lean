/- Contracts of the law's own functions over acts: Great and done. -/
import Derived.Test.YtgdpapcgghiljaaPlayJ
set_option linter.unusedSimpArgs false
set_option linter.unusedVariables false
namespace Go.Proofs.Ytgdpapcgghiljaa
open Go.RowKit

/-- What is done to a queue. -/
structure Deed where
  kind : Int
  m : Msg

/-- The slice at A reads as the acts l. -/
def RdA (w : World) (A : Option Addr) (l : List Deed) : Prop := l = [] ∨ ∃ g o, A = some ⟨g, o, none⟩ ∧ g < w.heap.size ∧ ∀ i d, l[i]? = some d → w.cell? ⟨g, o + i * 9, none⟩ = some (.int .u8 d.kind) ∧ At w g (o + i * 9 + 1) d.m

theorem RdA.non {w w' : World} {A : Option Addr} {l : List Deed} (h : RdA w A l) (hc : Chg Non w w') : RdA w' A l := by
  rcases h with h | ⟨g, o, rfl, hg, hat⟩
  · exact .inl h
  · exact .inr ⟨g, o, rfl, Nat.lt_of_lt_of_le hg hc.size, fun i d hi => ⟨(hc.cell hg (fun e => e)).trans (hat i d hi).1, (hat i d hi).2.kept hc hg (fun e => e)⟩⟩

theorem RdA.at_ {w : World} {A : Option Addr} {l : List Deed} (h : RdA w A l) {i : Nat} {d : Deed} (hi : l[i]? = some d) : ∃ g o, A = some ⟨g, o, none⟩ ∧ g < w.heap.size ∧ w.cell? ⟨g, o + i * 9, none⟩ = some (.int .u8 d.kind) ∧ At w g (o + i * 9 + 1) d.m := by
  rcases h with rfl | ⟨g, o, rfl, hg, hat⟩
  · simp at hi
  · exact ⟨g, o, rfl, hg, hat i d hi⟩

/-- more than are gone through here -/
def great (l : List Deed) : Bool := decide (200 < l.length) || l.any fun d => decide (100 < d.m.key.size)

set_option maxRecDepth 100000 in
set_option maxHeartbeats 400000 in
theorem great_any (A : Option Addr) (c : Nat) (l : List Deed) (w : World) (h : RdA w A l) :
    Calls Try.prog 11 #[.slice A l.length c] w fun e w' => e = .returned (.bool (great l)) ∧ Chg Non w w' := by
  by_cases hlen : 200 < l.length
  · go_enter Try.func11, Try.ntmps11
    go_wp2_with fail
    go_ret
    exact ⟨by unfold great; rw [decide_eq_true hlen]; rfl, Chg.refl _ _⟩
  · go_enter Try.func11, Try.ntmps11
    go_wp2_with fail
    go_loop [3] (fun i => ∃ k : Nat, i = .int .i64 k ∧ k ≤ l.length ∧ ∀ d ∈ l.take k, ¬ (100 < d.m.key.size)) (fun i => l.length - (intOf i).toNat)
    case atStart => exact ⟨0, rfl, by omega, by simp⟩
    case round =>
      obtain ⟨k, rfl, hk, hno⟩ := hrel
      have HNO := Lib.hid hno
      clear hno
      by_cases hlt : k < l.length
      · obtain ⟨d, hd⟩ : ∃ d, l[k]? = some d := ⟨l[k], List.getElem?_eq_getElem hlt⟩
        obtain ⟨g, o, rfl, hg, e1, e2, e3⟩ := h.at_ hd
        have HD := Lib.hid hd
        clear hd
        by_cases hb : 100 < d.m.key.size
        · go_wp2_with fail
          go_ret
          refine ⟨?_, Chg.refl _ _⟩
          have : great l = true := by
            unfold great
            rw [Bool.or_eq_true]
            exact .inr (List.any_eq_true.2 ⟨d, List.mem_of_getElem? HD.out, by simpa using hb⟩)
          rw [this]; rfl
        · go_wp2_with fail
          go_round
          case rel =>
            refine ⟨k + 1, by go_num, by omega, fun x hx => ?_⟩
            rw [List.take_add_one, HD.out] at hx
            rcases List.mem_append.1 hx with hx | hx
            · exact HNO.out x hx
            · simp at hx; subst hx; exact hb
          case measure => simp [intOf]; omega
      · obtain rfl : k = l.length := by omega
        go_wp2
        go_ret
        refine ⟨?_, Chg.refl _ _⟩
        have : great l = false := by
          unfold great
          rw [Bool.or_eq_false_iff]
          refine ⟨by simpa using hlen, List.any_eq_false.2 fun d hd => ?_⟩
          have := HNO.out d (by simpa using hd)
          simpa using this
        rw [this]; rfl

/-- What an act leaves. -/
def deedL (ms : List Msg) (d : Deed) : List Msg := if d.kind.tmod 4 = 2 then tk ⟨d.m.frm, d.m.call⟩ ms else sndL ms d.m

theorem deedL_len (ms : List Msg) (d : Deed) : (deedL ms d).length ≤ ms.length + 1 := by
  unfold deedL
  split
  · rw [tk_len]; omega
  · exact sndL_len ms d.m

theorem QR.made (w : World) : QR (((w.alloc (.map #[] 0)).alloc (.map #[] 0)).alloc (.cells #[.map (some w.heap.size), .map (some (w.heap.size + 1))] 98)) (w.heap.size + 2) w.heap.size (w.heap.size + 1) [] [] [] where
  head := by have := heap_alloc_new ((w.alloc (.map #[] 0)).alloc (.map #[] 0)) (.cells #[.map (some w.heap.size), .map (some (w.heap.size + 1))] 98); simpa using this
  rows := ((MapB.made Chan.v w).of_block (Below.heap_alloc _ _ _ (by simp))).of_block (Below.heap_alloc _ _ _ (by simp; omega))
  at_ := by
    have := ((MapB.made Sent.v (w.alloc (.map #[] 0))).of_block (w' := ((w.alloc (.map #[] 0)).alloc (.map #[] 0)).alloc (.cells #[.map (some w.heap.size), .map (some (w.heap.size + 1))] 98)) (Below.heap_alloc _ _ _ (by simp)))
    simpa using this
  sent := by simp
  chans := by simp
  row := by simp
  apart := by simp [blocksOf]

theorem take_fold {l : List Deed} {k : Nat} {d : Deed} (h : l[k]? = some d) : (l.take (k + 1)).foldl deedL [] = deedL ((l.take k).foldl deedL []) d := by
  rw [List.take_add_one, h, List.foldl_append]
  rfl

set_option maxRecDepth 100000 in
set_option maxHeartbeats 1000000 in
theorem done_any (A : Option Addr) (c : Nat) (l : List Deed) (w : World) (h : RdA w A l) (hl : l.length ≤ 200) :
    Calls Try.prog 22 #[.slice A l.length c] w fun e w' => ∃ q r a rs ats p v, e = .returned (.tuple #[.pointer (some ⟨q, 0, none⟩), .pointer (some ⟨p, 0, none⟩)]) ∧ Both w w' q r a rs ats p v (l.foldl deedL []) := by
  go_enter Try.func22, Try.ntmps22
  go_wp2_with (go_at_call 12; refine (new_any _).mono ?_; rintro e w1 ⟨rfl, rfl⟩)
  have hB : Both w ((((w.alloc (.map #[] 0)).alloc (.map #[] 0)).alloc (.cells #[.map (some w.heap.size), .map (some (w.heap.size + 1))] 98)).alloc (.cells #[.slice none 0 0] 29)) (w.heap.size + 2) w.heap.size (w.heap.size + 1) [] [] (w.heap.size + 1 + 1 + 1) (.slice none 0 0) [] := by
    have hc : Chg Non (((w.alloc (.map #[] 0)).alloc (.map #[] 0)).alloc (.cells #[.map (some w.heap.size), .map (some (w.heap.size + 1))] 98)) ((((w.alloc (.map #[] 0)).alloc (.map #[] 0)).alloc (.cells #[.map (some w.heap.size), .map (some (w.heap.size + 1))] 98)).alloc (.cells #[.slice none 0 0] 29)) := (Chg.refl _ _).alloc _
    refine ⟨(QR.made w).non hc, ⟨?_, Row.nil _, by simp [Value.ownBlock]⟩, by simp [blocksOf], by omega, by simp [Value.ownBlock], by simp [blocksOf]; omega, by simp [Value.ownBlock], (((Chg.refl _ _).alloc _).alloc _).alloc _ |>.alloc _⟩
    have := heap_alloc_new (((w.alloc (.map #[] 0)).alloc (.map #[] 0)).alloc (.cells #[.map (some w.heap.size), .map (some (w.heap.size + 1))] 98)) (.cells #[.slice none 0 0] 29)
    simpa using this
  have hc0 := hB.chg
  generalize ((((w.alloc (.map #[] 0)).alloc (.map #[] 0)).alloc (.cells #[.map (some w.heap.size), .map (some (w.heap.size + 1))] 98)).alloc (.cells #[.slice none 0 0] 29)) = W0 at hB hc0 ⊢
  generalize w.heap.size + 1 + 1 + 1 = p at hB ⊢
  generalize w.heap.size + 2 = q at hB ⊢
  generalize w.heap.size + 1 = a at hB ⊢
  generalize w.heap.size = r at hB ⊢
  have HB := Lib.hid hB
  have HA := Lib.hid h
  clear hB hc0 h
  go_loopw [6] (fun i wr => ∃ k : Nat, i = .int .i64 k ∧ k ≤ l.length ∧ ∃ rs ats v, Both w wr q r a rs ats p v ((l.take k).foldl deedL []) ∧ ((l.take k).foldl deedL []).length ≤ k) (fun i _ => l.length - (intOf i).toNat)
  case atStart => exact ⟨0, rfl, by omega, [], [], .slice none 0 0, by simpa using HB.out, by simp⟩
  case round =>
    obtain ⟨k, rfl, hk, rs, ats, v, hb, hlen⟩ := hrel
    have HB1 := Lib.hid hb
    clear hb
    by_cases hlt : k < l.length
    · obtain ⟨d, hd⟩ : ∃ d, l[k]? = some d := ⟨l[k], List.getElem?_eq_getElem hlt⟩
      obtain ⟨g, o, rfl, hg, e1, e2, e3⟩ := (HA.out.non HB1.out.chg).at_ hd
      have HD := Lib.hid hd
      clear hd
      by_cases hk2 : d.kind.tmod 4 = 2
      · go_wp2_with fail
        have hb1 := HB1.out.non ((Chg.refl Non wr).alloc (Obj.cells d.m.cs 31))
        have hN : wr.heap.size ∉ blocksOf q r a rs := fun hb => by have := HB1.out.qr.lt _ hb; omega
        refine (ptake_any q r a rs ats _ d.m.frm d.m.call (wr.alloc (Obj.cells d.m.cs 31)) hb1.qr (by omega)).mono ?_
        rintro e w1 ⟨rfl, h1, c1⟩
        have g1 : w1.cell? ⟨wr.heap.size, 1, none⟩ = some (.int .i64 d.m.frm) := box_cell wr d.m.cs 31 (S := In (blocksOf q r a rs)) hN 1 w1 c1
        have g3 : w1.cell? ⟨wr.heap.size, 3, none⟩ = some (.int .i64 d.m.call) := box_cell wr d.m.cs 31 (S := In (blocksOf q r a rs)) hN 3 w1 c1
        have hr1 := hb1.rr1 c1
        have H1 := Lib.hid h1
        have HB2 := Lib.hid hb1
        have HR1 := Lib.hid hr1
        have HC1 := Lib.hid c1
        clear h1 hb1 hr1 c1
        go_wp2_with fail
        refine (rtake_any p v _ d.m.frm d.m.call w1 HR1.out (by omega) HB2.out.qr.nodup).mono ?_
        rintro e w2 ⟨rfl, h2, c2⟩
        have hb3 := HB2.out.step H1.out HC1.out (fun b hb => .inl hb) h2 (c2.mono (fun b _ e => .inr e)) (fun g hg => .inl hg)
        have HB3 := Lib.hid hb3
        clear hb3 h2 c2
        go_wp2_with fail
        go_roundw
        case rel => exact ⟨k + 1, by go_num, by omega, rs, ats, v, by rw [take_fold HD.out, deedL, if_pos hk2]; exact HB3.out, by rw [take_fold HD.out]; have := deedL_len ((l.take k).foldl deedL []) d; omega⟩
        case measure => simp [intOf]; omega
      · go_wp2_with fail
        have hb1 := HB1.out.non ((Chg.refl Non wr).alloc (Obj.cells d.m.cs 31))
        have hN : wr.heap.size ∉ blocksOf q r a rs := fun hb => by have := HB1.out.qr.lt _ hb; omega
        refine (psend_any q r a rs ats _ d.m (wr.alloc (Obj.cells d.m.cs 31)) hb1.qr (by omega)).mono ?_
        rintro e w1 ⟨rfl, rs', ats', h1, c1, n1⟩
        have g0 : w1.cell? ⟨wr.heap.size, 0, none⟩ = some (.string d.m.key) := box_cell wr d.m.cs 31 (S := In (blocksOf q r a rs)) hN 0 w1 c1
        have g1 : ∀ j, j < 7 → w1.cell? ⟨wr.heap.size, j + 1, none⟩ = d.m.cs[j + 1]? := fun j _ => box_cell wr d.m.cs 31 (S := In (blocksOf q r a rs)) hN (j + 1) w1 c1
        have hr1 := hb1.rr1 c1
        have H1 := Lib.hid h1
        have HB2 := Lib.hid hb1
        have HR1 := Lib.hid hr1
        have HC1 := Lib.hid c1
        have HN1 := Lib.hid n1
        clear h1 hb1 hr1 c1 n1
        go_wp2_with fail
        refine (rsend_any p v _ d.m w1 HR1.out (by omega)).mono ?_
        rintro e w2 ⟨rfl, v', h2, c2, n2⟩
        have hb3 := HB2.out.step H1.out HC1.out HN1.out h2 c2 n2
        have HB3 := Lib.hid hb3
        clear hb3 h2 c2 n2
        go_wp2_with fail
        go_roundw
        case rel => exact ⟨k + 1, by go_num, by omega, rs', ats', v', by rw [take_fold HD.out, deedL, if_neg hk2]; exact HB3.out, by rw [take_fold HD.out]; have := deedL_len ((l.take k).foldl deedL []) d; omega⟩
        case measure => simp [intOf]; omega
    · obtain rfl : k = l.length := by omega
      go_wp2
      exact bodyPost_ret (v := .tuple #[.pointer (some ⟨q, 0, none⟩), .pointer (some ⟨p, 0, none⟩)]) (by simp [results, Try.results22, go_sem]) rfl ⟨q, r, a, rs, ats, p, v, rfl, by simpa using HB1.out⟩
end Go.Proofs.Ytgdpapcgghiljaa
