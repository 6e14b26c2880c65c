/- The walk of the law QueueTells: over acts that read as l it returns true and changes no block that was there. -/
import Derived.Test.YtgdpapcgghiljaaPlayK
set_option linter.unusedSimpArgs false
set_option linter.unusedVariables false
namespace Go.Proofs.Ytgdpapcgghiljaa
open Go.RowKit

theorem finds (ms : List Msg) (f c : Int) (hl : ms.length ≤ 1000) : ∃ (x : Msg) (b : Bool),
    (∀ (q r a : Nat) (rs : List (Chan × Value)) (ats : List (Sent × Value)) (w : World), QR w q r a rs ats ms → Calls Try.prog 23 #[.pointer (some ⟨q, 0, none⟩), .int .i64 f, .int .i64 c] w fun e w' => e = .returned (.tuple #[.agg x.cs, .bool b]) ∧ Chg Non w w') ∧
    (∀ (p : Nat) (v : Value) (w : World), RR w p v ms → Calls Try.prog 24 #[.pointer (some ⟨p, 0, none⟩), .int .i64 f, .int .i64 c] w fun e w' => e = .returned (.tuple #[.agg x.cs, .bool b]) ∧ Chg Non w w') := by
  rcases @idx_inv (fun x => x.frm == f && x.call == c) ms with ⟨h1, h2⟩ | ⟨k, m, h1, h2, h3⟩
  · refine ⟨Msg.zero, false, fun q r a rs ats w h => pfind_none q r a rs ats ms f c w h (plc_neg.1 (by unfold plc; rw [h1]; omega)), fun p v w h => rfind_none p v ms f c w h hl h1⟩
  · simp only [Bool.and_eq_true, beq_iff_eq] at h3
    obtain ⟨rfl, rfl⟩ := h3
    exact ⟨m, true, fun q r a rs ats w h => pfind_some q r a rs ats ms m w h (List.mem_of_getElem? h2) hl, fun p v w h => rfind_some p v ms m.frm m.call w k m h hl h1 h2⟩

theorem aheads (ms : List Msg) (m : Msg) (hl : ms.length ≤ 1000) : ∃ L : List Msg, L.length ≤ 1000 ∧
    (∀ (q r a : Nat) (rs : List (Chan × Value)) (ats : List (Sent × Value)) (w : World), QR w q r a rs ats ms → Calls Try.prog 27 #[.pointer (some ⟨q, 0, none⟩), .agg m.cs] w fun e w' => ∃ v', e = .returned v' ∧ Row w' v' L ∧ Chg Non w w') ∧
    (∀ (p : Nat) (v : Value) (w : World), RR w p v ms → Calls Try.prog 28 #[.pointer (some ⟨p, 0, none⟩), .agg m.cs] w fun e w' => ∃ v', e = .returned v' ∧ Row w' v' L ∧ Chg Non w w') := by
  rcases @idx_inv (fun x => x.frm == m.frm && x.call == m.call) ms with ⟨h1, h2⟩ | ⟨k, m0, h1, h2, h3⟩
  · refine ⟨[], by simp, fun q r a rs ats w h => ?_, fun p v w h => ?_⟩
    · refine (pahead_none q r a rs ats ms m w h (plc_neg.1 (by unfold plc; rw [h1]; omega))).mono ?_
      rintro e w' ⟨rfl, hc⟩
      exact ⟨_, rfl, Row.nil _, hc⟩
    · refine (rahead_none p v ms m w h hl h1).mono ?_
      rintro e w' ⟨rfl, hc⟩
      exact ⟨_, rfl, Row.nil _, hc⟩
  · simp only [Bool.and_eq_true, beq_iff_eq] at h3
    have hL : ((ms.take k).filter (fun x => isB x m0.chan)).length ≤ 1000 := by
      have := List.length_filter_le (fun x => isB x m0.chan) (ms.take k)
      simp only [List.length_take] at this
      omega
    refine ⟨(ms.take k).filter (fun x => isB x m0.chan), hL, fun q r a rs ats w h => ?_, fun p v w h => ?_⟩
    · refine (pahead_some q r a rs ats ms m m0 k w h h2 (by simp [Msg.sent, h3.1, h3.2]) hl).mono ?_
      rintro e w' ⟨v', rfl, h1, _, hc⟩
      exact ⟨_, rfl, h1, hc⟩
    · refine (rahead_some p v ms m m0 k w h hl h1 h2).mono ?_
      rintro e w' ⟨v', rfl, h1, _, hc⟩
      exact ⟨_, rfl, h1, hc⟩

theorem deed_fit {l : List Deed} : ∀ m ∈ l.foldl deedL [], 0 ≤ m.frm ∧ m.frm ≤ 63 := by
  suffices h : ∀ (l : List Deed) (ms : List Msg), (∀ m ∈ ms, 0 ≤ m.frm ∧ m.frm ≤ 63) → ∀ m ∈ l.foldl deedL ms, 0 ≤ m.frm ∧ m.frm ≤ 63 from h l [] (by simp)
  intro l
  induction l with
  | nil => intro ms h; exact h
  | cons d l ih =>
    intro ms h
    refine ih _ ?_
    unfold deedL
    split
    · intro m hm
      obtain ⟨x, hx, rfl⟩ := List.mem_map.1 hm
      have : (tkf ⟨d.m.frm, d.m.call⟩ x).frm = x.frm := by unfold tkf; split <;> rfl
      rw [this]; exact h x hx
    · unfold sndL
      split
      · rename_i hok
        intro m hm
        rcases List.mem_append.1 hm with hm | hm
        · exact h m hm
        · simp only [List.mem_singleton] at hm
          subst hm
          exact ⟨hok.1.1, hok.1.2.1⟩
      · exact h

theorem foldl_len (l : List Deed) : (l.foldl deedL []).length ≤ l.length := by
  suffices h : ∀ (l : List Deed) (ms : List Msg), (l.foldl deedL ms).length ≤ ms.length + l.length by simpa using h l []
  intro l
  induction l with
  | nil => intro ms; simp
  | cons d l ih =>
    intro ms
    have := ih (deedL ms d)
    have := deedL_len ms d
    simp only [List.foldl_cons, List.length_cons]
    omega

theorem reads {N : Nat} {x : Msg} {w W5 : World} (b : w.heap[N]? = some (.cells x.cs 31 (0, 0))) (hc : Chg Non w W5) :
    (∀ W, Chg Non W5 W → W.cell? ⟨N, 0, none⟩ = some (.string x.key)) ∧ (∀ W, Chg Non W5 W → ∀ j, j < 7 → W.cell? ⟨N, j + 1, none⟩ = x.cs[j + 1]?) := by
  have hb : ∀ W, Chg Non W5 W → W.heap[N]? = some (.cells x.cs 31 (0, 0)) := fun W h => ((hc.non h).block N (Array.getElem?_eq_some_iff.1 b).1 (fun e => e)).trans b
  exact ⟨fun W h => cell31_0 (hb W h), fun W h => cell31_s (hb W h)⟩

theorem RdI.non {w w' : World} {A : Option Addr} {zs : List Int} (h : RdI w A zs) (hc : Chg Non w w') : RdI w' A zs := by
  rcases h with h | ⟨g, o, rfl, hg, hat⟩
  · exact .inl h
  · exact .inr ⟨g, o, rfl, Nat.lt_of_lt_of_le hg hc.size, fun i z hi => (hc.cell hg (fun e => e)).trans (hat i z hi)⟩

theorem stored_chg {w w1 w2 : World} {cs : Array Value} {t : TypeId} (h : Chg Non w w1) (p2 : Chg (fun b => b = w1.heap.size) (w1.alloc (.cells cs t)) w2) : Chg Non w w2 :=
  (h.alloc _).trans p2 (fun b hb e => by have := h.size; omega)

set_option maxRecDepth 100000 in
set_option maxHeartbeats 2000000 in
theorem tells_any (A : Option Addr) (cp : Nat) (l : List Deed) (key : ByteArray) (f t c tag : Int) (w : World) (h : RdA w A l) :
    Calls Try.prog 4 #[.slice A l.length cp, .string key, .int .i64 f, .int .i64 t, .int .i64 c, .int .i64 tag] w fun e w' => e = .returned (.bool true) ∧ Chg Non w w' := by
  have hG := fun W hc => great_any A cp l W (h.non hc)
  cases hg : great l
  · rw [hg] at hG
    have HG := Lib.hid hG
    clear hG
    have hl : l.length ≤ 200 := by
      unfold great at hg
      rw [Bool.or_eq_false_iff] at hg
      simpa using hg.1
    by_cases hk : 100 < key.size
    · go_enter Try.func4, Try.ntmps4
      go_wp2_with (go_at_call 11; refine (HG.out _ (Chg.refl _ _)).mono ?_; rintro e w1 ⟨rfl, hc1⟩)
      go_ret
      exact ⟨rfl, hc1⟩
    · go_enter Try.func4, Try.ntmps4
      go_wp2_with (first
        | (go_at_call 11; refine (HG.out _ (Chg.refl _ _)).mono ?_; rintro e w1 ⟨rfl, hc1⟩)
        | (go_at_call 12; refine (new_any _).mono ?_; rintro e w2 ⟨rfl, rfl⟩))
      have hW1 : Chg Non w (((w1.alloc (Obj.map #[] 0)).alloc (Obj.map #[] 0)).alloc (Obj.cells #[Value.map (some w1.heap.size), Value.map (some (w1.heap.size + 1))] 98)) := ((hc1.alloc _).alloc _).alloc _
      refine (done_any A cp l _ (h.non hW1) hl).mono ?_
      rintro e w2 ⟨q, r, a, rs, ats, p, v, rfl, hb⟩
      have hc2 := hW1.non hb.chg
      have hms : (l.foldl deedL []).length ≤ 1000 := by have := foldl_len l; omega
      have hfit := @deed_fit l
      have hqr := hb.qr
      have hrr := hb.rr
      generalize l.foldl deedL [] = ms at hqr hrr hms hfit
      clear hb hc1 hW1 HG h hg
      obtain ⟨x, b, f1, f2⟩ := finds ms f c hms
      obtain ⟨L, hL, a1, a2⟩ := aheads ms ⟨key, f, t, c, 0, 0, 0, false⟩ hms
      generalize hy : (ms.find? (fstB ⟨key, f, t⟩ tag)).getD Msg.zero = y
      generalize hb' : (ms.find? (fstB ⟨key, f, t⟩ tag)).isSome = b'
      have g1 := fun w hw => pfirst_any q r a rs ats ms key f t tag w hw hms
      have g2 := fun w hw => rfirst_any p v ms key f t tag w hw hms
      rw [hy, hb'] at g1 g2
      have s1 := fun w hw => senders_any q r a rs ats ms key t w hw hms hfit
      have s2 := fun w hw => rsenders_any p v ms key t w hw hms
      have hZ : (sendersL ms key t 64).length ≤ 64 := by
        have := List.length_filter_le (fun f : Nat => ms.any (isB · ⟨key, (f : Int), t⟩)) (List.range 64)
        simp only [sendersL, List.length_map]
        simpa using this
      generalize sendersL ms key t 64 = Z at s1 s2 hZ
      clear hy hb' hfit
      have F1 := Lib.hid (fun w hw => f1 q r a rs ats w hw)
      have F2 := Lib.hid (fun w hw => f2 p v w hw)
      have A1 := Lib.hid (fun w hw => a1 q r a rs ats w hw)
      have A2 := Lib.hid (fun w hw => a2 p v w hw)
      have G1 := Lib.hid g1
      have G2 := Lib.hid g2
      have S1 := Lib.hid s1
      have S2 := Lib.hid s2
      have HQ := Lib.hid hqr
      have HR := Lib.hid hrr
      have HC2 := Lib.hid hc2
      clear f1 f2 a1 a2 g1 g2 s1 s2 hqr hrr hc2
      go_wp2_with (first
        | (go_at_call 23; refine (F1.out _ HQ.out).mono ?_; rintro e w3 ⟨rfl, hc3⟩)
        | (refine wpList_storeM rfl _ _ rfl w3.heap.size rfl _ rfl x Msg.zero rfl (heap_alloc_new _ _) ?_; intro w4 p1 p2 p3; clear p3))
      have c24 := stored_chg hc3 p2
      have b15 := Lib.hid p1
      have n15 : w3.heap.size < w4.heap.size := (Array.getElem?_eq_some_iff.1 p1).1
      generalize w3.heap.size = N15 at b15 n15 ⊢
      have C24 := Lib.hid c24
      clear c24 p1 p2 hc3
      go_wp2_with (first
        | (go_at_call 24; refine (F2.out _ (HR.out.non C24.out)).mono ?_; rintro e w5 ⟨rfl, hc5⟩)
        | (refine wpList_storeM rfl _ _ rfl w5.heap.size rfl _ rfl x Msg.zero rfl (heap_alloc_new _ _) ?_; intro w6 p1 p2 p3; clear p3))
      have c46 := stored_chg hc5 p2
      have b17 := Lib.hid p1
      have n17 : w5.heap.size < w6.heap.size := (Array.getElem?_eq_some_iff.1 p1).1
      have n16 := c46.size
      generalize w5.heap.size = N17 at b17 n17 ⊢
      have C46 := Lib.hid c46
      have C26 := Lib.hid (C24.out.non c46)
      clear c46 p1 p2 hc5
      go_wp2_with (first
        | (go_at_call 25; refine (G1.out _ (HQ.out.non C26.out)).mono ?_; rintro e w7 ⟨rfl, hc7⟩)
        | (refine wpList_storeM rfl _ _ rfl w7.heap.size rfl _ rfl y Msg.zero rfl (heap_alloc_new _ _) ?_; intro w8 p1 p2 p3; clear p3))
      have c68 := stored_chg hc7 p2
      have b19 := Lib.hid p1
      have n19 : w7.heap.size < w8.heap.size := (Array.getElem?_eq_some_iff.1 p1).1
      have n18 := c68.size
      generalize w7.heap.size = N19 at b19 n19 ⊢
      have C68 := Lib.hid c68
      have C28 := Lib.hid (C26.out.non c68)
      clear c68 p1 p2 hc7
      go_wp2_with (first
        | (go_at_call 26; refine (G2.out _ (HR.out.non C28.out)).mono ?_; rintro e w9 ⟨rfl, hc9⟩)
        | (refine wpList_storeM rfl _ _ rfl w9.heap.size rfl _ rfl y Msg.zero rfl (heap_alloc_new _ _) ?_; intro w10 p1 p2 p3; clear p3))
      have c80 := stored_chg hc9 p2
      have b21 := p1
      have n21 : w9.heap.size < w10.heap.size := (Array.getElem?_eq_some_iff.1 p1).1
      have n20 := c80.size
      generalize w9.heap.size = N21 at b21 n21 ⊢
      have cW : Chg Non w10 (w10.alloc (Obj.cells (Msg.cs ⟨key, f, t, c, 0, 0, 0, false⟩) 31)) := (Chg.refl _ _).alloc _
      have b23 := heap_alloc_new w10 (Obj.cells (Msg.cs ⟨key, f, t, c, 0, 0, 0, false⟩) 31)
      have n23 : w10.heap.size < (w10.alloc (Obj.cells (Msg.cs ⟨key, f, t, c, 0, 0, 0, false⟩) 31)).heap.size := by simp
      have r21 := reads (b := b21) cW
      have r19 := reads (b := b19.out) (c80.non cW)
      have r17 := reads (b := b17.out) (C68.out.non (c80.non cW))
      have r15 := reads (b := b15.out) (C46.out.non (C68.out.non (c80.non cW)))
      have r23 := reads (b := b23) (Chg.refl Non _)
      have hcW : Chg Non w2 (w10.alloc (Obj.cells (Msg.cs ⟨key, f, t, c, 0, 0, 0, false⟩) 31)) := C28.out.non (c80.non cW)
      clear b21 b23 p1 p2 hc9 c80 cW
      clear b15 b17 b19 C24 C46 C26 C68 C28 G1 G2 F1 F2
      change Code.wp _ _ _ _ (w10.alloc (Obj.cells (Msg.cs ⟨key, f, t, c, 0, 0, 0, false⟩) 31))
      generalize w10.heap.size = N23 at r23 n23 ⊢
      generalize (w10.alloc (Obj.cells (Msg.cs ⟨key, f, t, c, 0, 0, 0, false⟩) 31)) = W5 at r15 r17 r19 r21 r23 hcW n23 ⊢
      have HCW := Lib.hid hcW
      obtain ⟨r150, r151⟩ := r15
      obtain ⟨r170, r171⟩ := r17
      obtain ⟨r190, r191⟩ := r19
      obtain ⟨r210, r211⟩ := r21
      obtain ⟨r230, r231⟩ := r23
      clear hcW n15 n16 n17 n18 n19 n20 n21 n23
      go_region_held3 (fun W => Chg Non W5 W) ((repeat (first | assumption | exact Chg.refl _ _ | refine Chg.drew ?_ | refine Chg.alloc ?_ _)))
        ((first
          | (go_at_call 27
             refine (A1.out _ (HQ.out.non (HCW.out.non (by assumption)))).mono ?_
             rintro e wa ⟨va, rfl, ra, hca⟩
             obtain ⟨Aa, ka, rfl, da, _⟩ := ra.form
             have za := Chg.non (S := Non) (by assumption) hca)
          | (go_at_call 28
             refine (A2.out _ (HR.out.non (HCW.out.non (by assumption)))).mono ?_
             rintro e wb ⟨vb, rfl, rb, hcb⟩
             obtain ⟨Ab, kb, rfl, db, _⟩ := rb.form
             have zb := Chg.non (S := Non) (by assumption) hcb)
          | (go_at_call 30
             refine (S1.out _ (HQ.out.non (HCW.out.non (by assumption)))).mono ?_
             rintro e wc ⟨vc, rfl, rc, _, hcc⟩
             obtain ⟨Ac, kc, rfl, dc, _⟩ := rc.form
             have zc := Chg.non (S := Non) (by assumption) hcc)
          | (go_at_call 31
             refine (S2.out _ (HR.out.non (HCW.out.non (by assumption)))).mono ?_
             rintro e wd ⟨vd, rfl, rd, _, hcd⟩
             obtain ⟨Ad, kd, rfl, dd, _⟩ := rd.form
             have zd := Chg.non (S := Non) (by assumption) hcd)
          | (go_at_call 20
             refine (same_any _ _ _ _ L _ (RdM.non (by assumption) (by first | assumption | exact Chg.refl _ _)) (RdM.non (by assumption) (by first | assumption | exact Chg.refl _ _)) (by omega)).mono ?_
             rintro e we ⟨rfl, hce⟩
             have ze := Chg.non (S := Non) (by assumption) hce)
          | (go_at_call 29
             refine (ints_same _ _ _ _ Z _ (RdI.non (by assumption) (by first | assumption | exact Chg.refl _ _)) (RdI.non (by assumption) (by first | assumption | exact Chg.refl _ _)) (by omega)).mono ?_
             rintro e wf ⟨rfl, hcf⟩
             have zf := Chg.non (S := Non) (by assumption) hcf)))
      all_goals
        go_wp2
        go_ret
        exact ⟨rfl, HC2.out.non (HCW.out.non (by assumption))⟩
  · rw [hg] at hG
    have HG := Lib.hid hG
    clear hG
    by_cases hk : 100 < key.size
    · go_enter Try.func4, Try.ntmps4
      go_wp2_with (go_at_call 11; refine (HG.out _ (Chg.refl _ _)).mono ?_; rintro e w1 ⟨rfl, hc1⟩)
      go_ret
      exact ⟨rfl, hc1⟩
    · go_enter Try.func4, Try.ntmps4
      go_wp2_with (go_at_call 11; refine (HG.out _ (by first | exact Chg.refl _ _ | assumption)).mono ?_; rintro e w1 ⟨rfl, hc1⟩)
      go_ret
      exact ⟨rfl, (by assumption : Chg Non w _).non (by assumption)⟩
end Go.Proofs.Ytgdpapcgghiljaa
