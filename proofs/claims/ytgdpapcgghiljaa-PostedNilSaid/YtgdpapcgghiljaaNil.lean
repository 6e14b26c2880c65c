/- The walk of the law PostedNil: over an act it returns true and changes no block that was there. -/
import Derived.Test.YtgdpapcgghiljaaNilB
set_option linter.unusedSimpArgs false
set_option linter.unusedVariables false
namespace Go.Proofs.Ytgdpapcgghiljaa
open Go.RowKit

set_option maxRecDepth 100000 in
set_option maxHeartbeats 8000000 in
theorem nil_any (d : Deed2) (w : World) :
    Calls Try.prog 9 #[.agg d.cs] w fun e w' => e = .returned (.bool true) ∧ Chg Non w w' := by
  have hC0 : Chg Non w (w.alloc (Obj.cells d.cs 72)) := (Chg.refl _ _).alloc _
  have hbx : ∀ i W, Chg Non (w.alloc (Obj.cells d.cs 72)) W → W.cell? ⟨w.heap.size, i, none⟩ = d.cs[i]? := fun i => box_cell w d.cs 72 (S := Non) (fun e => e) i
  have HC0 := Lib.hid hC0
  have HBX := Lib.hid hbx
  have hcs : ∀ j, j < 18 → (w.alloc (Obj.cells d.cs 72)).cell? ⟨w.heap.size, 0 + j, none⟩ = d.cs[j]? := fun j _ => by rw [Nat.zero_add]; exact hbx j _ (Chg.refl _ _)
  have HCS := Lib.hid hcs
  clear hC0 hbx hcs
  go_enter Try.func9, Try.ntmps9
  go_wp2_with (refine wpList_load_at rfl 72 _ rfl w.heap.size 0 rfl #[.int .u8 d.kind, .string d.m.key, .int .i64 d.m.frm, .int .i64 d.m.dst, .int .i64 d.m.call, .int .i64 d.m.tag, .int .i64 d.m.value, .int .i64 d.m.size, .bool d.m.taken,
  .string d.r.key, .int .i64 d.r.rank, .int .i64 d.r.call, .int .i64 d.r.peer, .int .i64 d.r.tag, .int .i64 d.r.req, .bool d.r.done, .int .i64 d.r.frm, .int .i64 d.r.seq] _ HCS.out Try.underlying72 rfl size72 ?_)
  have hB : ∀ i W, Chg Non ((w.alloc (Obj.cells d.cs 72)).alloc (.cells #[.int .u8 d.kind, .string d.m.key, .int .i64 d.m.frm, .int .i64 d.m.dst, .int .i64 d.m.call, .int .i64 d.m.tag, .int .i64 d.m.value, .int .i64 d.m.size, .bool d.m.taken, .string d.r.key, .int .i64 d.r.rank, .int .i64 d.r.call, .int .i64 d.r.peer, .int .i64 d.r.tag, .int .i64 d.r.req, .bool d.r.done, .int .i64 d.r.frm, .int .i64 d.r.seq] 72)) W → W.cell? ⟨w.heap.size, i, none⟩ = d.cs[i]? := fun i W hc => HBX.out i W (((Chg.refl Non _).alloc _).non hc)
  have hcc : Chg Non w ((w.alloc (Obj.cells d.cs 72)).alloc (.cells #[.int .u8 d.kind, .string d.m.key, .int .i64 d.m.frm, .int .i64 d.m.dst, .int .i64 d.m.call, .int .i64 d.m.tag, .int .i64 d.m.value, .int .i64 d.m.size, .bool d.m.taken, .string d.r.key, .int .i64 d.r.rank, .int .i64 d.r.call, .int .i64 d.r.peer, .int .i64 d.r.tag, .int .i64 d.r.req, .bool d.r.done, .int .i64 d.r.frm, .int .i64 d.r.seq] 72)) := HC0.out.alloc _
  have hrd : RdP ((w.alloc (Obj.cells d.cs 72)).alloc (.cells #[.int .u8 d.kind, .string d.m.key, .int .i64 d.m.frm, .int .i64 d.m.dst, .int .i64 d.m.call, .int .i64 d.m.tag, .int .i64 d.m.value, .int .i64 d.m.size, .bool d.m.taken, .string d.r.key, .int .i64 d.r.rank, .int .i64 d.r.call, .int .i64 d.r.peer, .int .i64 d.r.tag, .int .i64 d.r.req, .bool d.r.done, .int .i64 d.r.frm, .int .i64 d.r.seq] 72)) (some ⟨w.heap.size + 1, 0, none⟩) [d] := by
    have hk : ((w.alloc (Obj.cells d.cs 72)).alloc (.cells #[.int .u8 d.kind, .string d.m.key, .int .i64 d.m.frm, .int .i64 d.m.dst, .int .i64 d.m.call, .int .i64 d.m.tag, .int .i64 d.m.value, .int .i64 d.m.size, .bool d.m.taken, .string d.r.key, .int .i64 d.r.rank, .int .i64 d.r.call, .int .i64 d.r.peer, .int .i64 d.r.tag, .int .i64 d.r.req, .bool d.r.done, .int .i64 d.r.frm, .int .i64 d.r.seq] 72)).heap[w.heap.size + 1]? = some (.cells d.cs 72 (0, 0)) := by
      have hsz : w.heap.size + 1 = (w.alloc (Obj.cells d.cs 72)).heap.size := by simp
      rw [hsz]
      exact heap_alloc_new _ _
    have hcell : ∀ j, ((w.alloc (Obj.cells d.cs 72)).alloc (.cells #[.int .u8 d.kind, .string d.m.key, .int .i64 d.m.frm, .int .i64 d.m.dst, .int .i64 d.m.call, .int .i64 d.m.tag, .int .i64 d.m.value, .int .i64 d.m.size, .bool d.m.taken, .string d.r.key, .int .i64 d.r.rank, .int .i64 d.r.call, .int .i64 d.r.peer, .int .i64 d.r.tag, .int .i64 d.r.req, .bool d.r.done, .int .i64 d.r.frm, .int .i64 d.r.seq] 72)).cell? ⟨w.heap.size + 1, j, none⟩ = d.cs[j]? := fun j => cell_of_row _ _ j _ 72 (0, 0) hk
    refine .inr ⟨_, 0, rfl, (Array.getElem?_eq_some_iff.1 hk).1, fun i x hi => ?_⟩
    have hi0 : i = 0 := by have := (List.getElem?_eq_some_iff.1 hi).1; simp at this; omega
    subst hi0
    cases hi
    refine ⟨hcell _, ⟨(hcell _).trans (d.cs_m 0 (by omega)), fun j hj => ?_⟩, ⟨(hcell _).trans (d.cs_r 0 (by omega)), fun j hj => ?_⟩⟩
    · rw [hcell, ← d.cs_m (j + 1) (by omega)]
    · rw [hcell, ← d.cs_r (j + 1) (by omega)]
  generalize ((w.alloc (Obj.cells d.cs 72)).alloc (.cells #[.int .u8 d.kind, .string d.m.key, .int .i64 d.m.frm, .int .i64 d.m.dst, .int .i64 d.m.call, .int .i64 d.m.tag, .int .i64 d.m.value, .int .i64 d.m.size, .bool d.m.taken, .string d.r.key, .int .i64 d.r.rank, .int .i64 d.r.call, .int .i64 d.r.peer, .int .i64 d.r.tag, .int .i64 d.r.req, .bool d.r.done, .int .i64 d.r.frm, .int .i64 d.r.seq] 72)) = W1 at hB hcc hrd ⊢
  generalize w.heap.size = B at hB hrd ⊢
  have HB1 := Lib.hid hB
  have HCC := Lib.hid hcc
  have hgr := pgreat_any (some ⟨B + 1, 0, none⟩) 1 [d] W1 hrd
  have HGR := Lib.hid hgr
  clear hB hcc hrd hgr HC0 HBX HCS
  refine HGR.out.mono ?_
  rintro e w1 ⟨rfl, rfl⟩
  cases hg : pgreat [d]
  · clear hg
    go_wp2_with fail
    refine (qnew_any W1).mono ?_
    rintro e w2 ⟨q, r, a, rfl, h2, n2, c2⟩
    have H2 := Lib.hid h2
    have N2 := Lib.hid n2
    have C2 := Lib.hid c2
    have r1 : ∀ W, Chg Non W1 W → W.cell? ⟨B, 1, none⟩ = some (.string d.m.key) := fun W hc => HB1.out 1 W hc
    have r2 : ∀ W, Chg Non W1 W → W.cell? ⟨B, 2, none⟩ = some (.int .i64 d.m.frm) := fun W hc => HB1.out 2 W hc
    have r3 : ∀ W, Chg Non W1 W → W.cell? ⟨B, 3, none⟩ = some (.int .i64 d.m.dst) := fun W hc => HB1.out 3 W hc
    have r4 : ∀ W, Chg Non W1 W → W.cell? ⟨B, 4, none⟩ = some (.int .i64 d.m.call) := fun W hc => HB1.out 4 W hc
    have r5 : ∀ W, Chg Non W1 W → W.cell? ⟨B, 5, none⟩ = some (.int .i64 d.m.tag) := fun W hc => HB1.out 5 W hc
    have r6 : ∀ W, Chg Non W1 W → W.cell? ⟨B, 6, none⟩ = some (.int .i64 d.m.value) := fun W hc => HB1.out 6 W hc
    have r7 : ∀ W, Chg Non W1 W → W.cell? ⟨B, 7, none⟩ = some (.int .i64 d.m.size) := fun W hc => HB1.out 7 W hc
    have r8 : ∀ W, Chg Non W1 W → W.cell? ⟨B, 8, none⟩ = some (.bool d.m.taken) := fun W hc => HB1.out 8 W hc
    have r9 : ∀ W, Chg Non W1 W → W.cell? ⟨B, 9, none⟩ = some (.string d.r.key) := fun W hc => HB1.out 9 W hc
    have r10 : ∀ W, Chg Non W1 W → W.cell? ⟨B, 10, none⟩ = some (.int .i64 d.r.rank) := fun W hc => HB1.out 10 W hc
    have r11 : ∀ W, Chg Non W1 W → W.cell? ⟨B, 11, none⟩ = some (.int .i64 d.r.call) := fun W hc => HB1.out 11 W hc
    have r12 : ∀ W, Chg Non W1 W → W.cell? ⟨B, 12, none⟩ = some (.int .i64 d.r.peer) := fun W hc => HB1.out 12 W hc
    have r13 : ∀ W, Chg Non W1 W → W.cell? ⟨B, 13, none⟩ = some (.int .i64 d.r.tag) := fun W hc => HB1.out 13 W hc
    have r14 : ∀ W, Chg Non W1 W → W.cell? ⟨B, 14, none⟩ = some (.int .i64 d.r.req) := fun W hc => HB1.out 14 W hc
    have r15 : ∀ W, Chg Non W1 W → W.cell? ⟨B, 15, none⟩ = some (.bool d.r.done) := fun W hc => HB1.out 15 W hc
    have r16 : ∀ W, Chg Non W1 W → W.cell? ⟨B, 16, none⟩ = some (.int .i64 d.r.frm) := fun W hc => HB1.out 16 W hc
    have r17 : ∀ W, Chg Non W1 W → W.cell? ⟨B, 17, none⟩ = some (.int .i64 d.r.seq) := fun W hc => HB1.out 17 W hc
    have x1 := r1 _ C2.out
    have x2 := r2 _ C2.out
    have x3 := r3 _ C2.out
    have x4 := r4 _ C2.out
    have x5 := r5 _ C2.out
    have x6 := r6 _ C2.out
    have x7 := r7 _ C2.out
    have x8 := r8 _ C2.out
    have HR : Hid (∀ W, Chg Non W1 W → ∀ i, W.cell? ⟨B, i, none⟩ = d.cs[i]?) := Lib.hid (fun W hc i => HB1.out i W hc)
    clear h2 n2 c2 r1 r2 r3 r4 r5 r6 r7 r8 r9 r10 r11 r12 r13 r14 r15 r16 r17
    go_wp2_with fail
    refine (psend_any q r a [] [] [] d.m w2 H2.out (by simp)).mono ?_
    rintro e w3 ⟨rfl, rs', ats', _, c3, _⟩
    have hc3 : Chg Non W1 w3 := C2.out.trans c3 (fun b hb e => by have := N2.out b e; omega)
    have HC3 := Lib.hid hc3
    clear c3 hc3 x1 x2 x3 x4 x5 x6 x7 x8 H2 N2 C2
    go_wp2_with fail
    go_loopw [6] (fun i wr => ∃ k : Nat, i = .int .i64 k ∧ k ≤ 2 ∧ Chg Non w3 wr ∧ NoP wr (.pointer (some ⟨w3.heap.size, 0, none⟩)) ∧ w3.heap.size + 1 < wr.heap.size ∧ wr.cell? ⟨w3.heap.size + 1, 0, none⟩ = some (.pointer none) ∧ wr.cell? ⟨w3.heap.size + 1, 1, none⟩ = some (.pointer (some ⟨w3.heap.size, 0, none⟩))) (fun i _ => 2 - (intOf i).toNat)
    case atStart =>
      refine ⟨0, rfl, by omega, ((Chg.refl _ _).alloc _).alloc _, .inr ⟨_, rfl, by simp; omega, ?_⟩, by simp, ?_, ?_⟩
      · simp [go_sem]; rfl
      · simp [go_sem]
      · simp [go_sem]
    case round =>
      obtain ⟨k, rfl, hk, hc, hnp, hsz, q0, q1⟩ := hrel
      have HC := Lib.hid hc
      have HQ0 := Lib.hid q0
      have HQ1 := Lib.hid q1
      have HNP := Lib.hid hnp
      clear hc hnp q0 q1
      by_cases hlt : k < 2
      · obtain ⟨pv, hpv, hno⟩ : ∃ pv, wr.cell? ⟨w3.heap.size + 1, k, none⟩ = some pv ∧ NoP wr pv := by
          rcases (by omega : k = 0 ∨ k = 1) with rfl | rfl
          · exact ⟨_, HQ0.out, .inl rfl⟩
          · exact ⟨_, HQ1.out, HNP.out⟩
        have hCW := HC3.out.non HC.out
        have HCW := Lib.hid hCW
        have HNO := Lib.hid hno
        have y10 : wr.cell? ⟨B, 10, none⟩ = some (.int .i64 d.r.rank) := HR.out wr hCW 10
        have y11 : wr.cell? ⟨B, 11, none⟩ = some (.int .i64 d.r.call) := HR.out wr hCW 11
        clear hno hCW
        go_wp2_with (first
          | (go_at_call 42; refine (at_nil pv d.r.rank d.r.call _ HNO.out).mono ?_; rintro e w7 ⟨rfl, c7⟩)
          | (with_reducible change wpList _ _ _ (Oper.mk _ (Op.store _ _ _) _ _ _ _ :: _) _ _
             refine wpList_storeR rfl _ _ rfl w7.heap.size rfl _ rfl Rcv.zero Rcv.zero rfl (heap_alloc_new _ _) ?_; intro w8 p1 p2 p3; clear p3
             have C8 : Hid (Chg Non wr w8) := Lib.hid ((c7.alloc _).trans p2 (fun b hb e => by have := c7.size; omega))
             clear p1 p2 c7))
        have hW8 := HCW.out.non C8.out
        have HW8 := Lib.hid hW8
        clear y10 y11 hpv hW8
        have r2 : ∀ W, Chg Non w8 W → W.cell? ⟨B, 2, none⟩ = some (.int .i64 d.m.frm) := fun W hc => HR.out W (HW8.out.non hc) 2
        have r4 : ∀ W, Chg Non w8 W → W.cell? ⟨B, 4, none⟩ = some (.int .i64 d.m.call) := fun W hc => HR.out W (HW8.out.non hc) 4
        have r9 : ∀ W, Chg Non w8 W → W.cell? ⟨B, 9, none⟩ = some (.string d.r.key) := fun W hc => HR.out W (HW8.out.non hc) 9
        have r10 : ∀ W, Chg Non w8 W → W.cell? ⟨B, 10, none⟩ = some (.int .i64 d.r.rank) := fun W hc => HR.out W (HW8.out.non hc) 10
        have r11 : ∀ W, Chg Non w8 W → W.cell? ⟨B, 11, none⟩ = some (.int .i64 d.r.call) := fun W hc => HR.out W (HW8.out.non hc) 11
        have r12 : ∀ W, Chg Non w8 W → W.cell? ⟨B, 12, none⟩ = some (.int .i64 d.r.peer) := fun W hc => HR.out W (HW8.out.non hc) 12
        have r13 : ∀ W, Chg Non w8 W → W.cell? ⟨B, 13, none⟩ = some (.int .i64 d.r.tag) := fun W hc => HR.out W (HW8.out.non hc) 13
        have r14 : ∀ W, Chg Non w8 W → W.cell? ⟨B, 14, none⟩ = some (.int .i64 d.r.req) := fun W hc => HR.out W (HW8.out.non hc) 14
        have r15 : ∀ W, Chg Non w8 W → W.cell? ⟨B, 15, none⟩ = some (.bool d.r.done) := fun W hc => HR.out W (HW8.out.non hc) 15
        have r16 : ∀ W, Chg Non w8 W → W.cell? ⟨B, 16, none⟩ = some (.int .i64 d.r.frm) := fun W hc => HR.out W (HW8.out.non hc) 16
        have r17 : ∀ W, Chg Non w8 W → W.cell? ⟨B, 17, none⟩ = some (.int .i64 d.r.seq) := fun W hc => HR.out W (HW8.out.non hc) 17
        have HNP8 : Hid (∀ W, Chg Non w8 W → NoP W pv) := Lib.hid (fun W hc => HNO.out.non (C8.out.non hc))
        refine region_calm (by kernel_rfl) (by kernel_rfl) ?_
        repeat (go_big_quiet_step ((first
          | (go_at_call 36; exact calls_calm (post_nil pv d.r _ (HNP8.out _ (calm_prop _))))
          | (go_at_call 38; exact calls_calm (match_nil pv _ d.r.rank d.r.call d.m.frm d.m.call _ (HNP8.out _ (calm_prop _))))
          | (go_at_call 39; exact calls_calm (waiting_nil pv d.r.rank _ (HNP8.out _ (calm_prop _))))
          | (go_at_call 37; exact calls_calm (may_nil pv _ d.r.rank d.r.call _ (HNP8.out _ (calm_prop _))))
          | (go_at_call 35; exact calls_calm (probe_nil pv _ d.r _ (HNP8.out _ (calm_prop _)))))))
        refine wpQuiet_nil ?_
        rintro _ ⟨z6, rfl⟩
        go_wp2
        go_roundw
        case rel => exact ⟨k + 1, by go_num, by omega, HC.out.non (C8.out.non z6.chg), HNP.out.non (C8.out.non z6.chg), Nat.lt_of_lt_of_le hsz (C8.out.non z6.chg).size, ((C8.out.non z6.chg).cell hsz (fun e => e)).trans HQ0.out, ((C8.out.non z6.chg).cell hsz (fun e => e)).trans HQ1.out⟩
        case measure => simp [intOf]; omega
      · obtain rfl : k = 2 := by omega
        go_wp2_with fail
        refine (pnew_any wr).mono ?_
        rintro e w9 ⟨p, vs, rfl, h9, hp9, hv9, c9⟩
        have H9 := Lib.hid h9
        have HW9 : Hid (Chg Non W1 w9) := Lib.hid ((HC3.out.non HC.out).non c9)
        have HNE : Hid (∀ b, In (blocksP p vs) b → wr.heap.size ≤ b) := Lib.hid (fun b hb => by
          have : b = p := by simpa [In, blocksP, hv9] using hb
          omega)
        have HC9 := Lib.hid c9
        clear h9 hp9 hv9 c9
        have y9 : w9.cell? ⟨B, 9, none⟩ = some (.string d.r.key) := HR.out w9 HW9.out 9
        have y10 : w9.cell? ⟨B, 10, none⟩ = some (.int .i64 d.r.rank) := HR.out w9 HW9.out 10
        have y11 : w9.cell? ⟨B, 11, none⟩ = some (.int .i64 d.r.call) := HR.out w9 HW9.out 11
        have y12 : w9.cell? ⟨B, 12, none⟩ = some (.int .i64 d.r.peer) := HR.out w9 HW9.out 12
        have y13 : w9.cell? ⟨B, 13, none⟩ = some (.int .i64 d.r.tag) := HR.out w9 HW9.out 13
        have y14 : w9.cell? ⟨B, 14, none⟩ = some (.int .i64 d.r.req) := HR.out w9 HW9.out 14
        have y15 : w9.cell? ⟨B, 15, none⟩ = some (.bool d.r.done) := HR.out w9 HW9.out 15
        have y16 : w9.cell? ⟨B, 16, none⟩ = some (.int .i64 d.r.frm) := HR.out w9 HW9.out 16
        have y17 : w9.cell? ⟨B, 17, none⟩ = some (.int .i64 d.r.seq) := HR.out w9 HW9.out 17
        go_wp2_with fail
        refine (post_any p vs (fun _ => []) d.r w9 H9.out (by simp [ofL])).mono ?_
        rintro e w10 ⟨rfl, vs', h10, c10, _⟩
        have hW10 : Chg Non W1 w10 := ((HC3.out.non HC.out)).non (HC9.out.trans c10 (fun b hb e => by have := HNE.out b e; omega))
        have hof : (ofL (postL (fun _ => []) d.r) d.r.rank).length ≤ 1000 := Nat.le_trans ((WF.zero.posted d.r).of d.r.rank) (by omega)
        generalize postL (fun _ => []) d.r = LL at h10 hof
        have H10 := Lib.hid h10
        have HW10 := Lib.hid hW10
        have HOF := Lib.hid hof
        clear h10 c10 hW10 hof y9 y10 y11 y12 y13 y14 y15 y16 y17
        have r2 : ∀ W, Chg Non w10 W → W.cell? ⟨B, 2, none⟩ = some (.int .i64 d.m.frm) := fun W hc => HR.out W (HW10.out.non hc) 2
        have r4 : ∀ W, Chg Non w10 W → W.cell? ⟨B, 4, none⟩ = some (.int .i64 d.m.call) := fun W hc => HR.out W (HW10.out.non hc) 4
        have r9 : ∀ W, Chg Non w10 W → W.cell? ⟨B, 9, none⟩ = some (.string d.r.key) := fun W hc => HR.out W (HW10.out.non hc) 9
        have r10 : ∀ W, Chg Non w10 W → W.cell? ⟨B, 10, none⟩ = some (.int .i64 d.r.rank) := fun W hc => HR.out W (HW10.out.non hc) 10
        have r11 : ∀ W, Chg Non w10 W → W.cell? ⟨B, 11, none⟩ = some (.int .i64 d.r.call) := fun W hc => HR.out W (HW10.out.non hc) 11
        have r12 : ∀ W, Chg Non w10 W → W.cell? ⟨B, 12, none⟩ = some (.int .i64 d.r.peer) := fun W hc => HR.out W (HW10.out.non hc) 12
        have r13 : ∀ W, Chg Non w10 W → W.cell? ⟨B, 13, none⟩ = some (.int .i64 d.r.tag) := fun W hc => HR.out W (HW10.out.non hc) 13
        have r14 : ∀ W, Chg Non w10 W → W.cell? ⟨B, 14, none⟩ = some (.int .i64 d.r.req) := fun W hc => HR.out W (HW10.out.non hc) 14
        have r15 : ∀ W, Chg Non w10 W → W.cell? ⟨B, 15, none⟩ = some (.bool d.r.done) := fun W hc => HR.out W (HW10.out.non hc) 15
        have r16 : ∀ W, Chg Non w10 W → W.cell? ⟨B, 16, none⟩ = some (.int .i64 d.r.frm) := fun W hc => HR.out W (HW10.out.non hc) 16
        have r17 : ∀ W, Chg Non w10 W → W.cell? ⟨B, 17, none⟩ = some (.int .i64 d.r.seq) := fun W hc => HR.out W (HW10.out.non hc) 17
        go_wp2_with fail
        refine region_calm (by kernel_rfl) (by kernel_rfl) ?_
        repeat (go_big_quiet_step ((first
          | (go_at_call 47; exact calls_calm (copy_nil _))
          | (go_at_call 37; exact calls_calm (may_nilq p vs' LL d.r.rank d.r.call _ (H10.out.non (calm_prop _)) HOF.out))
          | (go_at_call 35; exact calls_calm (probe_nilq p vs' LL d.r _ (H10.out.non (calm_prop _)) HOF.out))
          | (go_at_call 38; exact calls_calm (match_nilq p vs' LL d.r.rank d.r.call d.m.frm d.m.call _ (H10.out.non (calm_prop _)) HOF.out)))))
        refine wpQuiet_nil ?_
        rintro _ ⟨z6, rfl⟩
        go_wp2
        go_ret
        exact ⟨rfl, HCC.out.non (HW10.out.non z6.chg)⟩
  · go_wp2
    go_ret
    exact ⟨rfl, HCC.out⟩
end Go.Proofs.Ytgdpapcgghiljaa
