/- Contracts of the program's queue: Senders. -/
import Derived.Test.YtgdpapcgghiljaaPlayD
set_option linter.unusedSimpArgs false
set_option linter.unusedVariables false
namespace Go.Proofs.Ytgdpapcgghiljaa
open Go.RowKit

theorem QR.rowForm {w : World} {q r a : Nat} {rs : List (Chan × Value)} {ats : List (Sent × Value)} {ms : List Msg} (h : QR w q r a rs ats ms) {c : Chan} {v : Value} (hv : (c, v) ∈ rs) : ∃ A cp, v = .slice A (ofChan ms c).length cp ∧ RdM w A (ofChan ms c) := by
  obtain ⟨A, cp, e, hr, _⟩ := (h.row _ hv).form
  exact ⟨A, cp, e, hr⟩

/-- How many entries a range over a map has left. -/
def leftN (w : World) (r it : Nat) : Nat := match w.heap[it]?, w.heap[r]? with
  | some (.mapIter _ _ seen _), some (.map es _) => (leftOf es seen).size
  | _, _ => 0

theorem Ranges.leftN_eq {w : World} {r it : Nat} {M left : List (Chan × Value)} (h : Ranges Chan.v w r it M left) : leftN w r it = left.length := by
  obtain ⟨es, ck, seen, c0, hne, hb, hst, he, hn, hr, hck, hleft⟩ := h
  have := entOf_len hleft
  simp only [Array.length_toList] at this
  simp only [leftN, hr, hb]
  exact this

theorem wpList_nextC_done {w : World} {ops : Array Oper} {rest : List Oper} {o : Oper} {a : Act} {Q : Exit → Act → World → Prop} (hg : o.guard = none) (it : Operand) (hop : o.op = Op.next it false) (b r : Nat) (M : List (Chan × Value))
    (hit : a.eval it = .pointer (some ⟨r, 0, none⟩)) (h : Ranges Chan.v w b r M [])
    (hDone : wpList Try.prog ops Q rest (a.put o.dst (.tuple #[.bool false])) w) :
    wpList Try.prog ops Q (o :: rest) a w :=
  wpList_nextC hg it hop b r M [] hit h (fun _ => hDone) (fun c v L1 L2 w' e => by simp at e)

theorem wpList_nextC_more {w : World} {ops : Array Oper} {rest : List Oper} {o : Oper} {a : Act} {Q : Exit → Act → World → Prop} (hg : o.guard = none) (it : Operand) (hop : o.op = Op.next it false) (b r : Nat) (M left : List (Chan × Value))
    (hit : a.eval it = .pointer (some ⟨r, 0, none⟩)) (h : Ranges Chan.v w b r M left) (hne : left ≠ [])
    (hMore : ∀ (c : Chan) (v : Value) (L1 L2 : List (Chan × Value)) (w' : World), left = L1 ++ (c, v) :: L2 → (c, v) ∈ M → Ranges Chan.v w' b r M (L1 ++ L2) → Chg (fun k => k = r) w w' →
      (Instr.entry (.pointer (some ⟨r, 0, none⟩))).run Try.prog w' = .ok (.tuple #[.agg #[.string c.key, .int .i64 c.frm, .int .i64 c.dst], v]) w' → wpList Try.prog ops Q rest (a.put o.dst (.tuple #[.bool true, .agg #[.string c.key, .int .i64 c.frm, .int .i64 c.dst], v])) w') :
    wpList Try.prog ops Q (o :: rest) a w :=
  wpList_nextC hg it hop b r M left hit h (fun e => absurd e hne) hMore

theorem sel_len {ms : List Msg} {rs D L : List (Chan × Value)} (key : ByteArray) (dst : Int) (hD : (D ++ L).Perm rs) (hn : (rs.map (·.1)).Nodup) (hin : ∀ m ∈ ms, ∃ v, (m.chan, v) ∈ rs) (hfit : ∀ m ∈ ms, 0 ≤ m.frm ∧ m.frm ≤ 63) :
    ((D.filter (selB ms key dst)).map (·.1.frm)).length ≤ 1000000 := by
  have h := congrArg List.length (senders_sorted key dst hD hn hin hfit)
  rw [List.length_mergeSort, List.filter_append, List.map_append, List.length_append] at h
  have := List.length_filter_le (fun f : Nat => ms.any (isB · ⟨key, (f : Int), dst⟩)) (List.range 64)
  simp only [sendersL, List.length_map, List.length_range] at this h ⊢
  omega

theorem Ranges.keep {S : Nat → Prop} {w w' : World} {b r : Nat} {M left : List (Chan × Value)} (h : Ranges Chan.v w b r M left) (hc : Chg S w w') (hb : ¬ S b) (hr : ¬ S r) : Ranges Chan.v w' b r M left :=
  h.of_blocks (hc.block b h.map.lt hb) (hc.block r h.lt hr)

theorem perm_next {D left L1 L2 rs : List (Chan × Value)} {x : Chan × Value} (hp : (D ++ left).Perm rs) (hl : left = L1 ++ x :: L2) : ((D ++ [x]) ++ (L1 ++ L2)).Perm rs := by
  subst hl
  refine List.Perm.trans ?_ hp
  rw [List.append_assoc]
  show (D ++ x :: (L1 ++ L2)).Perm _
  exact (List.perm_middle.symm).append_left D

theorem sel_next (ms : List Msg) (key : ByteArray) (dst : Int) (D : List (Chan × Value)) (x : Chan × Value) (b : Bool) (h : selB ms key dst x = b) :
    ((D ++ [x]).filter (selB ms key dst)).map (·.1.frm) = (D.filter (selB ms key dst)).map (·.1.frm) ++ (if b then [x.1.frm] else []) := by
  subst h
  rw [List.filter_append, List.map_append]
  congr 1
  cases h : selB ms key dst x <;> simp [h]

set_option maxRecDepth 100000 in
set_option maxHeartbeats 1000000 in
theorem senders_any (q r a : Nat) (rs : List (Chan × Value)) (ats : List (Sent × Value)) (ms : List Msg) (key : ByteArray) (dst : Int) (w : World) (h : QR w q r a rs ats ms) (hl : ms.length ≤ 1000) (hfit : ∀ m ∈ ms, 0 ≤ m.frm ∧ m.frm ≤ 63) :
    Calls Try.prog 30 #[.pointer (some ⟨q, 0, none⟩), .string key, .int .i64 dst] w fun e w' => ∃ v', e = .returned v' ∧ RowI w' v' (sendersL ms key dst 64) ∧ Fresh w v' ∧ Chg Non w w' := by
  have hq := h.lt q (by simp [blocksOf])
  have c0 := h.c0 w (Chg.refl _ _)
  have HH := Lib.hid h
  have HFIT := Lib.hid hfit
  have hr := h.rows
  have hrl := h.rows.lt
  clear h hfit
  have HLEN := Lib.hid (fun D L hp => sel_len (D := D) (L := L) key dst hp HH.out.rowsNodup HH.out.chans HFIT.out)
  go_enter Try.func30, Try.ntmps30
  go_wp2_with (first
    | (go_at_call 52; refine (none_no q r _ ?_).mono ?_; (try go_simp); rintro e w1 ⟨rfl, rfl⟩)
    | (refine wpList_rangeC rfl _ rfl r rs rfl hr ?_; intro w1 p1 p2 p3; go_simp))
  have hit : w.heap.size < w1.heap.size := by omega
  have P1 := Lib.hid p1
  have P2 := Lib.hid p2
  generalize hI : w.heap.size = it at *
  clear p1 p2 p3
  go_loopw [7] (fun out wr => ∃ D left, RowI wr out ((D.filter (selB ms key dst)).map (·.1.frm)) ∧ Fresh w1 out ∧ Ranges Chan.v wr r it rs left ∧ (D ++ left).Perm rs ∧ Chg (fun b => b = it) w1 wr) (fun _ wr => leftN wr r it)
  case atStart => exact ⟨[], rs, RowI.nil _, Fresh.nil _, P1.out, by simp, Chg.refl _ _⟩
  case round =>
    obtain ⟨D, left, hrow, hfr, hrg, hperm, hc⟩ := hrel
    have hM := hrg.leftN_eq
    have HR := Lib.hid hrow
    have HF := Lib.hid hfr
    have HC := Lib.hid hc
    have HP := Lib.hid hperm
    have HM := Lib.hid hM
    clear hrow hfr hc hperm hM
    by_cases hne : left = []
    · subst hne
      go_wp2_with (refine wpList_nextC_done rfl _ rfl r it rs rfl hrg ?_; go_simp)
      have hl0 : ((D.filter (selB ms key dst)).map (·.1.frm)).length ≤ 1000000 := HLEN.out D [] HP.out
      refine (sortI u7 _ wr HR.out hl0).mono ?_
      rintro e w2 ⟨rfl, h1, h2⟩
      go_wp2
      go_ret
      have hD : D.Perm rs := by simpa using HP.out
      refine ⟨u7, rfl, ?_, ?_, ?_⟩
      · rw [← senders_sorted key dst hD HH.out.rowsNodup HH.out.chans HFIT.out]; exact h1
      · intro g hg
        have := HF.out g hg
        omega
      · exact (P2.out.trans HC.out (fun b hb e => by subst e; omega)).trans h2 (fun b hb e => by have := HF.out b e; omega)
    · go_wp2_with (refine wpList_nextC_more rfl _ rfl r it rs left rfl hrg hne ?_; intro c v L1 L2 w2 e1 e2 e3 e4 e5; obtain ⟨A, cp, rfl, hrd⟩ := HH.out.rowForm e2; have E1 := Lib.hid e1; have E2 := Lib.hid e2; have E3 := Lib.hid e3; have E4 := Lib.hid e4; have HRD := Lib.hid hrd; clear e1 e2 e3 e4 hrd; go_simp)
      have hc2 : Chg Non w w2 := P2.out.trans (HC.out.same E4.out) (fun b hb e => by subst e; omega)
      have hlc : (ofChan ms c).length ≤ 1000000 := by have := List.length_filter_le (fun x => decide (x.chan = c)) ms; unfold ofChan; omega
      refine (contains_msg 62 enters62 #[] openB A cp _ _ (HRD.out.non (hc2.non ((Chg.refl Non w2).alloc _))) hlc (fun m _ W _ => open_any m W)).mono ?_
      rintro e w3 ⟨rfl, hc3⟩
      have hb : ∀ i, w3.cell? ⟨w2.heap.size, i, none⟩ = #[Value.string c.key, Value.int IntKind.i64 c.frm, Value.int IntKind.i64 c.dst][i]? := fun i => by
        rw [hc3.cell (by simp) (fun e => e)]; simp
      have b0 : w3.cell? ⟨w2.heap.size, 0, none⟩ = some (.string c.key) := hb 0
      have b1 : w3.cell? ⟨w2.heap.size, 1, none⟩ = some (.int .i64 c.frm) := hb 1
      have b2 : w3.cell? ⟨w2.heap.size, 2, none⟩ = some (.int .i64 c.dst) := hb 2
      have HC3 := Lib.hid (((Chg.refl Non w2).alloc _).non hc3)
      clear hb hc3 hlc hc2
      have HNO : selB ms key dst (c, .slice A (ofChan ms c).length cp) = false → (∃ D left, RowI w3 u7 ((D.filter (selB ms key dst)).map (·.1.frm)) ∧ Fresh w1 u7 ∧ Ranges Chan.v w3 r it rs left ∧ (D ++ left).Perm rs ∧ Chg (fun b => b = it) w1 w3) ∧ leftN w3 r it < leftN wr r it := by
        intro hs
        have hrg3 := E3.out.keep HC3.out (fun e => e) (fun e => e)
        have hc23 := E4.out.non HC3.out
        refine ⟨⟨D ++ [(c, .slice A (ofChan ms c).length cp)], L1 ++ L2, ?_, HF.out, hrg3, perm_next HP.out E1.out, HC.out.same hc23⟩, ?_⟩
        · rw [sel_next ms key dst D _ _ hs]
          simpa using HR.out.kept hc23 (fun g hg e => by have := HF.out g hg; omega)
        · rw [hrg3.leftN_eq, HM.out, E1.out]
          simp only [List.length_append, List.length_cons]
          omega
      have HNO := Lib.hid HNO
      by_cases hk : c.key = key
      · by_cases hd : c.dst = dst
        · cases hB : (ofChan ms c).any openB
          · have HB := Lib.hid hB
            clear hB
            go_wp2_with fail
            exact HNO.out (by simp [selB, HB.out])
          · have hs : selB ms key dst (c, .slice A (ofChan ms c).length cp) = true := by
              simp only [selB, hB, Bool.true_and, decide_eq_true_eq]
              rw [← hk, ← hd]
            have HB := Lib.hid hs
            clear hB hs
            subst hk
            subst hd
            go_wp2_with (at_builtin; refine wpList_appendI rfl _ _ rfl u7 _ rfl (HR.out.kept (E4.out.non (HC3.out.non ((Chg.refl Non _).alloc _))) (fun g hg e => by have := HF.out g hg; omega)) w3.heap.size c.frm 1 rfl (heap_alloc_new _ _) (HLEN.out D _ HP.out) ?_; intro gg cc w4 q1 q2 q3 q4)
            have hc23 := Lib.hid (E4.out.non (HC3.out.non ((Chg.refl Non _).alloc (Obj.cells #[Value.int IntKind.i64 c.frm] 3))))
            have hrg4 := (E3.out.keep (HC3.out.non ((Chg.refl Non _).alloc (Obj.cells #[Value.int IntKind.i64 c.frm] 3))) (fun e => e) (fun e => e)).keep q2 (fun e => by have := HF.out _ e; omega) (fun e => by have := HF.out _ e; omega)
            refine ⟨⟨D ++ [(c, .slice A (ofChan ms c).length cp)], L1 ++ L2, ?_, ?_, hrg4, perm_next HP.out E1.out, ?_⟩, ?_⟩
            · rw [sel_next _ _ _ D _ _ HB.out]; simpa only [if_true, List.length_map] using q1
            · intro g' hg'
              have e : gg = g' := by simpa [Value.ownBlock] using hg'
              subst e
              have hz := (HC.out.same hc23.out).size
              rcases q3 with q | q
              · exact HF.out _ q
              · omega
            · exact (HC.out.same hc23.out).trans q2 (fun b hb e => by have := HF.out b e; omega)
            · rw [hrg4.leftN_eq, HM.out, E1.out]
              simp only [List.length_append, List.length_cons]
              omega
        · have HS := Lib.hid (show selB ms key dst (c, .slice A (ofChan ms c).length cp) = false by
            simp only [selB, Bool.and_eq_false_iff, decide_eq_false_iff_not]; exact .inr (fun e => hd (by rw [e])))
          have hd' : decide (c.dst = dst) = false := by simpa using hd
          go_wp2_with fail
          all_goals exact HNO.out HS.out
      · have hkl : ¬ c.key.toList = key.toList := fun e => hk ((bytes_toList_inj _ _).1 e)
        have HS := Lib.hid (show selB ms key dst (c, .slice A (ofChan ms c).length cp) = false by
          simp only [selB, Bool.and_eq_false_iff, decide_eq_false_iff_not]; exact .inr (fun e => hk (by rw [e])))
        clear hk
        go_wp2_with fail
        all_goals exact HNO.out HS.out
end Go.Proofs.Ytgdpapcgghiljaa
