/- Contracts of the receives: Match, where it matches. -/
import Derived.Test.YtgdpapcgghiljaaPostK
set_option linter.unusedSimpArgs false
set_option linter.unusedVariables false
namespace Go.Proofs.Ytgdpapcgghiljaa
open Go.RowKit

def Rcv.got (x : Rcv) (f s : Int) : Rcv := { x with done := true, frm := f, seq := s }

theorem flatR_ext (xs ys : List Value) (n : Nat) (h1 : xs.length = n * 9) (h2 : ys.length = n * 9) (h : ∀ i j, i < n → j < 9 → xs[i * 9 + j]? = ys[i * 9 + j]?) : xs = ys := by
  apply List.ext_getElem?
  intro k
  by_cases hk : k < n * 9
  · have := h (k / 9) (k % 9) (by omega) (by omega)
    rwa [show k / 9 * 9 + k % 9 = k by omega] at this
  · rw [List.getElem?_eq_none (by omega), List.getElem?_eq_none (by omega)]

theorem flatR_got (ms : List Rcv) (i : Nat) (x : Rcv) (f s : Int) (h : ms[i]? = some x) : flatR (ms.set i (x.got f s)) = (((flatR ms).set (i * 9 + 6) (.bool true)).set (i * 9 + 7) (.int .i64 f)).set (i * 9 + 8) (.int .i64 s) := by
  have hi : i < ms.length := (List.getElem?_eq_some_iff.1 h).1
  refine flatR_ext _ _ ms.length (by rw [flatR_len]; simp) (by simp only [List.length_set]; rw [flatR_len]) (fun k j hk hj => ?_)
  obtain ⟨y, hy⟩ : ∃ y, ms[k]? = some y := ⟨ms[k], List.getElem?_eq_getElem hk⟩
  by_cases hik : i = k
  · subst hik
    rw [hy] at h
    cases h
    rw [flatR_get (ms.set i (x.got f s)) i (x.got f s) (by rw [List.getElem?_set_self hi]) j hj]
    have hg := flatR_get ms i x hy
    have hlen : (flatR ms).length = ms.length * 9 := flatR_len ms
    simp only [List.getElem?_set, List.length_set]
    rcases (by omega : j = 0 ∨ j = 1 ∨ j = 2 ∨ j = 3 ∨ j = 4 ∨ j = 5 ∨ j = 6 ∨ j = 7 ∨ j = 8) with rfl | rfl | rfl | rfl | rfl | rfl | rfl | rfl | rfl
    · rw [if_neg (by omega), if_neg (by omega), if_neg (by omega), hg 0 (by omega)]; rfl
    · rw [if_neg (by omega), if_neg (by omega), if_neg (by omega), hg 1 (by omega)]; rfl
    · rw [if_neg (by omega), if_neg (by omega), if_neg (by omega), hg 2 (by omega)]; rfl
    · rw [if_neg (by omega), if_neg (by omega), if_neg (by omega), hg 3 (by omega)]; rfl
    · rw [if_neg (by omega), if_neg (by omega), if_neg (by omega), hg 4 (by omega)]; rfl
    · rw [if_neg (by omega), if_neg (by omega), if_neg (by omega), hg 5 (by omega)]; rfl
    · rw [if_neg (by omega), if_neg (by omega), if_pos rfl, if_pos (by omega)]; rfl
    · rw [if_neg (by omega), if_pos rfl, if_pos (by omega)]; rfl
    · rw [if_pos rfl, if_pos (by omega)]; rfl
  · simp only [List.getElem?_set]
    rw [if_neg (by omega), if_neg (by omega), if_neg (by omega), flatR_get (ms.set i (x.got f s)) k y (by rw [List.getElem?_set_ne hik]; exact hy) j hj, flatR_get ms k y hy j hj]

theorem RowR.got {w : World} {g n cap : Nat} {ms : List Rcv} (h : RowR w (.slice (some ⟨g, 0, none⟩) n cap) ms) {i : Nat} {x : Rcv} (hx : ms[i]? = some x) (f s : Int) :
    RowR (((w.setCell ⟨g, i * 9 + 6, none⟩ (.bool true)).setCell ⟨g, i * 9 + 7, none⟩ (.int .i64 f)).setCell ⟨g, i * 9 + 8, none⟩ (.int .i64 s)) (.slice (some ⟨g, 0, none⟩) n cap) (ms.set i (x.got f s)) := by
  obtain ⟨h1, h2⟩ := h
  rcases h2 with ⟨h2, _⟩ | ⟨g', cap', cur, hv, hb, hg, hc, hm', hcs, ht⟩
  · cases h2
  · cases hv
    refine ⟨by rw [flatR_len], .inr ⟨g, cap, ((cur.setIfInBounds (i * 9 + 6) (.bool true)).setIfInBounds (i * 9 + 7) (.int .i64 f)).setIfInBounds (i * 9 + 8) (.int .i64 s), by simp, hb, ?_, by simpa using hc, hm', by simpa using hcs, ?_⟩⟩
    · exact heap_setCell_same _ g _ _ 54 _ (heap_setCell_same _ g _ _ 54 _ (heap_setCell_same w g _ cur 54 _ hg))
    · rw [flatR_got ms i x f s hx, ← ht, List.length_set]
      simp only [Array.toList_setIfInBounds, List.take_set]

set_option maxRecDepth 100000 in
set_option maxHeartbeats 2000000 in
theorem match_yes (p : Nat) (vs : List Value) (L : Nat → List Rcv) (q r a : Nat) (rs : List (Chan × Value)) (ats : List (Sent × Value)) (ms : List Msg) (rank call f s : Int) (w : World) (hp : PR w p vs L) (h : QR w q r a rs ats ms) (hl : ms.length ≤ 1000) (hfit : ∀ m ∈ ms, 0 ≤ m.frm ∧ m.frm ≤ 63) (hlr : (ofL L rank).length ≤ 1000)
    (hdis : ∀ b ∈ blocksP p vs, b ∉ blocksOf q r a rs) (hn : (mayL ms L rank call).any (itsB f s) = true) (k i : Nat) (x : Rcv) (hk : rank = k) (hk64 : k < 64) (hi : (L k)[i]? = some x) (hpl : plcR L rank call = i) :
    Calls Try.prog 38 #[.pointer (some ⟨p, 0, none⟩), .pointer (some ⟨q, 0, none⟩), .int .i64 rank, .int .i64 call, .int .i64 f, .int .i64 s] w fun e w' => e = .returned (.int .i64 0) ∧ QR w' q r a rs ats (tk ⟨f, s⟩ ms) ∧ PR w' p vs (upd L k ((L k).set i (x.got f s))) ∧ Chg (fun b => In (blocksOf q r a rs) b ∨ In (blocksP p vs) b) w w' := by
  subst hk
  have hC0 : Chg Non w ((w.alloc (Obj.cells #[Value.int IntKind.i64 f] 3)).alloc (Obj.cells #[Value.int IntKind.i64 s] 3)) := ((Chg.refl _ _).alloc _).alloc _
  have c0 := hp.c0 _ hC0
  have hm := may_any p vs L q r a rs ats ms k call _ (hp.non hC0) (h.non hC0) hl hfit hlr
  have hx1 := fun i => box_cell w #[Value.int IntKind.i64 f] 3 (S := Non) (fun e => e) i
  have hx2 := fun i => box_cell (w.alloc (Obj.cells #[Value.int IntKind.i64 f] 3)) #[Value.int IntKind.i64 s] 3 (S := Non) (fun e => e) i
  have htk : tkC ms ⟨f, s⟩ = 0 := by
    obtain ⟨m, hm1, hm2⟩ := List.any_eq_true.1 hn
    obtain ⟨i', r', _, _, _, hm3⟩ := may_mem hm1
    obtain ⟨e1, e2, _⟩ := free_mem hm3
    unfold tkC
    rw [if_pos]
    simp only [itsB, Bool.and_eq_true, beq_iff_eq] at hm2
    exact List.any_eq_true.2 ⟨m, e1, by simp [Msg.sent, hm2.1, hm2.2, e2]⟩
  have HP := Lib.hid hp
  have HQ := Lib.hid h
  have HM := Lib.hid hm
  have X1 := Lib.hid hx1
  have X2 := Lib.hid hx2
  have HC0 := Lib.hid hC0
  have HN := Lib.hid hn
  have HTK := Lib.hid htk
  have HI := Lib.hid hi
  have HPL := Lib.hid hpl
  clear hi hpl
  have hlm := @may_len ms L k call
  clear hm hp h hfit hx1 hx2 hC0 hn htk
  go_enter Try.func38, Try.ntmps38
  go_wp2_with fail
  refine HM.out.mono ?_
  rintro e w1 ⟨v', rfl, h1, h2, h3⟩
  obtain ⟨A, c, rfl, hr, _⟩ := h1.form
  have HR := Lib.hid hr
  have H3 := Lib.hid h3
  clear h1 h2 h3 hr
  go_wp2_with fail
  have hsz : (w.alloc (Obj.cells #[Value.int IntKind.i64 f] 3)).heap.size = w.heap.size + 1 := by simp
  have b10 : ∀ W, Chg Non w1 W → W.cell? ⟨w.heap.size, 0, none⟩ = some (.int .i64 f) := fun W hW => X1.out 0 W (((Chg.refl _ _).alloc _).non (H3.out.non hW))
  have b11 : ∀ W, Chg Non w1 W → W.cell? ⟨w.heap.size + 1, 0, none⟩ = some (.int .i64 s) := fun W hW => by rw [← hsz]; exact X2.out 0 W (H3.out.non hW)
  clear hsz
  have hits : ∀ m ∈ mayL ms L k call, ∀ W, Chg Non w1 W → Calls Try.prog 68 (#[.agg m.cs] ++ #[.pointer (some ⟨w.heap.size, 0, none⟩), .pointer (some ⟨w.heap.size + 1, 0, none⟩)]) W fun e w' => e = .returned (.bool (itsB f s m)) ∧ Chg Non W w' := fun m _ W hW => its_any m f s _ _ W (b10 W hW) (b11 W hW)
  refine (contains_msg 68 enters68 #[.pointer (some ⟨w.heap.size, 0, none⟩), .pointer (some ⟨w.heap.size + 1, 0, none⟩)] (itsB f s) A c (mayL ms L k call) w1 HR.out (by omega) hits).mono ?_
  rintro e w2 ⟨rfl, hc2⟩
  rw [HN.out]
  have d10 := b10 w2 hc2
  have d11 := b11 w2 hc2
  have HC2 := Lib.hid (HC0.out.non (H3.out.non hc2))
  have z2 : w.heap.size + 2 ≤ w2.heap.size := by have := (H3.out.non hc2).size; simpa using this
  clear hc2 hits b10 b11
  go_wp2_with fail
  refine (ptake_any q r a rs ats ms f s w2 (HQ.out.non HC2.out) hl).mono ?_
  rintro e w3 ⟨rfl, hq3, hc3⟩
  rw [HTK.out]
  go_wp2_with fail
  have hp3 := (HP.out.non HC2.out).kept hc3 (fun b hb e => hdis b hb e)
  obtain ⟨v, hv, hrow⟩ := hp3.at_ hk64
  have hil : i < (L k).length := (List.getElem?_eq_some_iff.1 HI.out).1
  obtain ⟨A2, c2, rfl, hrd, hA2⟩ := hrow.form
  obtain ⟨g, o, rfl, hg, _, _⟩ := hrd.at_ HI.out
  have ho : o = 0 := by
    rcases hrow.2 with ⟨e, _⟩ | ⟨g', cap', cur, e, _⟩
    · cases e
    · cases e; rfl
  subst ho
  have cv := hp3.cv hv
  have hpl3 := fun W (hc : Chg Non w3 W) => HPL.out ▸ pplace_any p vs L (k : Int) call W (hp3.non hc) hlr
  have HPL3 := Lib.hid hpl3
  have HP3 := Lib.hid hp3
  have HROW := Lib.hid hrow
  have HV := Lib.hid hv
  have HQ3 := Lib.hid hq3
  have HC3 := Lib.hid hc3
  have hk64' : (k : Int) < 64 := by omega
  have hk0 : (0 : Int) ≤ k := by omega
  have hgq : g ∉ blocksOf q r a rs := hdis g (by simp only [blocksP, List.mem_cons]; exact .inr (own_mem (p := p) hv rfl))
  have e10 : ∀ W, Chg Non w3 W → W.cell? ⟨w.heap.size, 0, none⟩ = some (.int .i64 f) := fun W hc => by
    have hne : w.heap.size ∉ blocksOf q r a rs := fun hb => by have := HQ.out.lt _ hb; omega
    rw [(hc3.non hc).cell (p := ⟨w.heap.size, 0, none⟩) (by simp only; omega) hne]; exact d10
  have e11 : ∀ W, Chg Non w3 W → W.cell? ⟨w.heap.size + 1, 0, none⟩ = some (.int .i64 s) := fun W hc => by
    have hne : w.heap.size + 1 ∉ blocksOf q r a rs := fun hb => by have := HQ.out.lt _ hb; omega
    rw [(hc3.non hc).cell (p := ⟨w.heap.size + 1, 0, none⟩) (by simp only; omega) hne]; exact d11
  have hgs : g < w3.heap.size := hg
  have E10 := Lib.hid e10
  have E11 := Lib.hid e11
  clear hp3 hrow hrd hpl3 hv hq3 hc3 hlr d10 d11 e10 e11 c0
  go_region_held3 (fun W => Chg Non w3 W) ((repeat (first | assumption | exact Chg.refl _ _ | refine Chg.drew ?_ | refine Chg.alloc ?_ _)))
    ((go_at_call 67
      refine (HPL3.out _ (by assumption)).mono ?_
      rintro e w4 ⟨rfl, hc4⟩
      have hc4' := Chg.non (S := Non) (by assumption) hc4))
  all_goals
    have hcc : Chg Non w3 w4 := by assumption
    have e10 := E10.out w4 hcc
    have e11 := E11.out w4 hcc
    have hrow4 := HROW.out.kept hcc (fun _ _ e => e)
    have hgw : g < w.heap.size := HP.out.lt g (by simp only [blocksP, List.mem_cons]; exact .inr (own_mem (p := p) HV.out rfl))
    obtain ⟨A5, c5, e5, hrd5, _⟩ := hrow4.form
    simp only [Value.slice.injEq, true_and] at e5
    obtain ⟨rfl, rfl⟩ := e5
    obtain ⟨g', o', e5, hg5, e1, e2⟩ := hrd5.at_ HI.out
    simp only [Option.some.injEq, Addr.mk.injEq, and_true] at e5
    obtain ⟨rfl, rfl⟩ := e5
    simp only [Nat.zero_add] at e1 e2
    have d6 : w4.cell? ⟨g, i * 9 + 6, none⟩ = some (.bool x.done) := e2 5 (by omega)
    have d7 : w4.cell? ⟨g, i * 9 + 7, none⟩ = some (.int .i64 x.frm) := e2 6 (by omega)
    have d8 : w4.cell? ⟨g, i * 9 + 8, none⟩ = some (.int .i64 x.seq) := e2 7 (by omega)
    have f6 : w4.frozen? ⟨g, i * 9 + 6, none⟩ = false := hrow4.frozen _
    have f7 : w4.frozen? ⟨g, i * 9 + 7, none⟩ = false := hrow4.frozen _
    have f8 : w4.frozen? ⟨g, i * 9 + 8, none⟩ = false := hrow4.frozen _
    have hne1 : ¬ g = w.heap.size := by omega
    have hne2 : ¬ g = w.heap.size + 1 := by omega
    have HR4 := Lib.hid hrow4
    have HCC := Lib.hid hcc
    clear hrow4 hcc hrd5 e1 e2 hc4 hc4' cv
    go_wp2_with fail
    go_region_held3 (fun W => W.cell? ⟨w.heap.size, 0, none⟩ = some (.int .i64 f) ∧ W.cell? ⟨w.heap.size + 1, 0, none⟩ = some (.int .i64 s)) ((first | exact ⟨by go_simp, by go_simp⟩)) (fail)
    all_goals
      go_wp2
      go_ret
      have hrow8 := HR4.out.got HI.out f s
      have c8 : Chg (fun b => b = g) w4 (((w4.setCell ⟨g, i * 9 + 6, none⟩ (.bool true)).setCell ⟨g, i * 9 + 7, none⟩ (.int .i64 f)).setCell ⟨g, i * 9 + 8, none⟩ (.int .i64 s)) := chg_three w4 g 0 _ _ _ _ _ _
      generalize (((w4.setCell ⟨g, i * 9 + 6, none⟩ (.bool true)).setCell ⟨g, i * 9 + 7, none⟩ (.int .i64 f)).setCell ⟨g, i * 9 + 8, none⟩ (.int .i64 s)) = w8 at hrow8 c8 ⊢
      have c8o : Chg (fun b => (Value.slice (some ⟨g, 0, none⟩) (L k).length c2).ownBlock = some b) w3 w8 := (HCC.out.any.same (c8.mono (fun b _ e => by rw [e]; rfl)))
      have hpr := HP3.out.mark HV.out _ hrow8 c8o
      refine ⟨rfl, ?_, hpr.non (Chg.refl _ _).drew, ?_⟩
      · exact ((HQ3.out.non HCC.out).kept c8 (fun b hb e => hgq (e ▸ hb))).non (Chg.refl _ _).drew
      · refine Chg.drew ?_
        refine (HC2.out.any.trans (HC3.out.mono (S' := fun b => In (blocksOf q r a rs) b ∨ In (blocksP p vs) b) (fun b _ e => .inl e)) (fun b _ e => e)).trans c8o (fun b _ e => .inr ?_)
        simp only [In, blocksP, List.mem_cons]
        exact .inr (own_mem (p := p) HV.out e)
end Go.Proofs.Ytgdpapcgghiljaa
