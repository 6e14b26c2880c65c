/- The walk of the law PostedProbes: over acts that read as l it returns true and changes no block that was there. -/
import Derived.Test.YtgdpapcgghiljaaPostY
set_option linter.unusedSimpArgs false
set_option linter.unusedVariables false
namespace Go.Proofs.Ytgdpapcgghiljaa
open Go.RowKit

section
variable {w0 w1 w w' : World} {q r a : Nat} {rs : List (Chan × Value)} {ats : List (Sent × Value)} {p : Nat} {vs : List Value} {ms : List Msg} {L : Nat → List Rcv}
theorem Duo.rebase (h : Duo w1 w q r a rs ats p vs ms L) (c : Chg Non w0 w1) : Duo w0 w q r a rs ats p vs ms L :=
  ⟨h.qr, h.pr, fun b hb => Nat.le_trans c.size (h.newq b hb), fun b hb => Nat.le_trans c.size (h.newp b hb), h.dis, c.non h.chg⟩
theorem Duo.aside {S : Nat → Prop} (h : Duo w0 w q r a rs ats p vs ms L) (c : Chg S w w') (hS : ∀ b, S b → b ∉ blocksOf q r a rs ∧ b ∉ blocksP p vs ∧ w0.heap.size ≤ b) : Duo w0 w' q r a rs ats p vs ms L :=
  ⟨h.qr.kept c (fun b hb e => (hS b e).1 hb), h.pr.kept c (fun b hb e => (hS b e).2.1 hb), h.newq, h.newp, h.dis, h.chg.trans c (fun b hb e => by have := (hS b e).2.2; omega)⟩
end

theorem dpostC {k : Nat} {w0 w : World} {q r a : Nat} {rs : List (Chan × Value)} {ats : List (Sent × Value)} {p : Nat} {vs : List Value} {ms : List Msg} {L : Nat → List Rcv} (h : Duo w0 w q r a rs ats p vs ms L) (hw : WF k ms L) (hk : k ≤ 1000) (x : Rcv) :
    Calls Try.prog 36 #[.pointer (some ⟨p, 0, none⟩), .agg x.cs] w fun e w' => e = .returned (.int .i64 (postC L x)) ∧ ∃ vs', Duo w0 w' q r a rs ats p vs' ms (postL L x) ∧ Chg (In (blocksP p vs)) w w' ∧ (∀ b ∈ blocksP p vs', b ∈ blocksP p vs ∨ w.heap.size ≤ b) := by
  refine (post_any p vs L x w h.pr (Nat.le_trans (hw.of _) hk)).mono ?_
  rintro e w' ⟨rfl, vs', h1, h2, h3⟩
  exact ⟨rfl, vs', h.stepP h1 h2 h3, h2, h3⟩

theorem Row.form2 {w : World} {v : Value} {ms : List Msg} (h : Row w v ms) : ∃ A c, v = .slice A ms.length c ∧ RdM w A ms ∧ (∀ g o, A = some ⟨g, o, none⟩ → v.ownBlock = some g) := by
  obtain ⟨A, c, hv, hrd, _⟩ := h.form
  refine ⟨A, c, hv, hrd, fun g o hA => ?_⟩
  rcases h.2 with ⟨h1, _⟩ | ⟨g', cap, cur, h1, _⟩
  · rw [h1] at hv
    simp only [Value.slice.injEq] at hv
    rw [hA] at hv
    exact absurd hv.1 (by simp)
  · rw [h1] at hv ⊢
    simp only [Value.slice.injEq] at hv
    rw [hA] at hv
    have := hv.1
    simp only [Option.some.injEq, Addr.mk.injEq] at this
    rw [this.1]
    rfl

theorem dmatch_yes {k : Nat} {w0 w : World} {q r a : Nat} {rs : List (Chan × Value)} {ats : List (Sent × Value)} {p : Nat} {vs : List Value} {ms : List Msg} {L : Nat → List Rcv} (h : Duo w0 w q r a rs ats p vs ms L) (hw : WF k ms L) (hk : k ≤ 1000) (rank call f s : Int) (hy : matchB ms L rank call f s = true) :
    Calls Try.prog 38 #[.pointer (some ⟨p, 0, none⟩), .pointer (some ⟨q, 0, none⟩), .int .i64 rank, .int .i64 call, .int .i64 f, .int .i64 s] w fun e w' => e = .returned (.int .i64 0) ∧ Chg Non w0 w' ∧ Chg (fun b => In (blocksOf q r a rs) b ∨ In (blocksP p vs) b) w w' := by
  refine (dmatch h hw hk rank call f s).mono ?_
  rintro e w' ⟨rfl, h1, h2⟩
  exact ⟨by rw [if_pos hy], h1.chg, h2⟩

theorem probe_len (ms : List Msg) (L : Nat → List Rcv) (x : Rcv) : (probeL ms L x).length ≤ 64 := Nat.le_trans (List.length_filterMap_le _ _) (senders_len ms _ _)

theorem wrap_succ' (c : Int) : IntKind.i64.wrap (c + 1) ≠ c := by
  unfold IntKind.wrap
  simp only [IntKind.bits, IntKind.signed]
  simp
  split <;> omega

theorem pgreat_len {l : List Deed2} (h : pgreat l = false) : l.length ≤ 120 := by
  unfold pgreat at h
  rw [Bool.or_eq_false_iff] at h
  simpa using h.1

/-- The probe's call is put behind all others. -/
def Rcv.far (x : Rcv) : Rcv := { x with call := 1099511627776 }

theorem playWF (l : List Deed2) : WF l.length (playS l).ms (playS l).L := by
  have := WF.fold (s := St.zero) WF.zero l
  exact this.mono (by omega)

set_option maxRecDepth 100000 in
set_option maxHeartbeats 2000000 in
theorem probes_any (A : Option Addr) (cp : Nat) (l : List Deed2) (x : Rcv) (w : World) (h : RdP w A l) :
    Calls Try.prog 5 #[.slice A l.length cp, .agg x.cs] w fun e w' => e = .returned (.bool true) ∧ Chg Non w w' := by
  have hG := fun W hc => pgreat_any A cp l W (h.non hc)
  have hC0 : Chg Non w (w.alloc (Obj.cells x.cs 54)) := (Chg.refl _ _).alloc _
  have hbx := fun i => box_cell w x.cs 54 (S := Non) (fun e => e) i
  have hbk : (w.alloc (Obj.cells x.cs 54)).heap[w.heap.size]? = some (.cells x.cs 54 (0, 0)) := heap_alloc_new _ _
  have b0 : ∀ W, Chg Non (w.alloc (Obj.cells x.cs 54)) W → W.cell? ⟨w.heap.size, 0, none⟩ = some (.string x.key) := hbx 0
  have hsz0 : w.heap.size < (w.alloc (Obj.cells x.cs 54)).heap.size := by simp
  have HC0 := Lib.hid hC0
  have HBK := Lib.hid hbk
  clear hC0 hbx hbk
  go_enter Try.func5, Try.ntmps5
  go_wp2_with fail
  generalize w.alloc (Obj.cells x.cs 54) = W0 at b0 HC0 HBK hsz0 ⊢
  have HG := Lib.hid hG
  clear hG
  refine (awake_any W0).mono ?_
  rintro e w1 ⟨rfl, c1⟩
  have B0 := Lib.hid b0
  have C1 := Lib.hid c1
  clear b0 c1
  go_wp2_with fail
  refine (HG.out w1 (HC0.out.non C1.out)).mono ?_
  rintro e w1' ⟨rfl, rfl⟩
  have b0 := B0.out w1 C1.out
  cases hg : pgreat l
  · by_cases hk : 100 < x.key.size
    · go_wp2
      go_ret
      exact ⟨rfl, HC0.out.non C1.out⟩
    · have hlen := pgreat_len hg
      go_wp2_with fail
      refine (made_any A cp l w1 (h.non (HC0.out.non C1.out)) hlen).mono ?_
      rintro e w2 ⟨q, r, a, rs, ats, p, vs, rfl, hd⟩
      have hW := playWF l
      have hc2 := C1.out.non hd.chg
      have hb2 : w2.heap[w.heap.size]? = some (.cells x.cs 54 (0, 0)) := (hc2.block _ hsz0 (fun e => e)).trans HBK.out
      have hnq : ∀ b ∈ blocksOf q r a rs, W0.heap.size ≤ b := fun b hb => Nat.le_trans C1.out.size (hd.newq b hb)
      have hnp : ∀ b ∈ blocksP p vs, W0.heap.size ≤ b := fun b hb => Nat.le_trans C1.out.size (hd.newp b hb)
      have hd1 := hd.rebase (HC0.out.non C1.out)
      have hcS : Chg (fun b => b = w.heap.size) w2 (w2.setCell ⟨w.heap.size, 2, none⟩ (.int .i64 1099511627776)) := Chg.setCell (S := fun b => b = w.heap.size) (Chg.refl _ _) (.inr rfl) _
      have hd2 := hd1.aside hcS (fun b hb => ⟨fun e => by have := hnq b e; omega, fun e => by have := hnp b e; omega, by omega⟩)
      have hb3 : (w2.setCell ⟨w.heap.size, 2, none⟩ (.int .i64 1099511627776)).heap[w.heap.size]? = some (.cells x.far.cs 54 (0, 0)) := by
        rw [heap_setCell_same w2 _ 2 _ 54 _ hb2]; rfl
      have bb2 : w2.cell? ⟨w.heap.size, 2, none⟩ = some (.int .i64 x.call) := by rw [cell_of_row w2 _ 2 _ 54 (0, 0) hb2]; rfl
      have hf2 : w2.frozen? ⟨w.heap.size, 2, none⟩ = false := by simp [World.frozen?, hb2]
      have y : ∀ j, w2.cell? ⟨w.heap.size, j, none⟩ = x.cs[j]? := fun j => cell_of_row w2 _ j _ 54 (0, 0) hb2
      have y0 : w2.cell? ⟨w.heap.size, 0, none⟩ = some (.string x.key) := y 0
      have y1 : w2.cell? ⟨w.heap.size, 1, none⟩ = some (.int .i64 x.rank) := y 1
      have y3 : w2.cell? ⟨w.heap.size, 3, none⟩ = some (.int .i64 x.peer) := y 3
      have y4 : w2.cell? ⟨w.heap.size, 4, none⟩ = some (.int .i64 x.tag) := y 4
      have y5 : w2.cell? ⟨w.heap.size, 5, none⟩ = some (.int .i64 x.req) := y 5
      have y6 : w2.cell? ⟨w.heap.size, 6, none⟩ = some (.bool x.done) := y 6
      have y7 : w2.cell? ⟨w.heap.size, 7, none⟩ = some (.int .i64 x.frm) := y 7
      have y8 : w2.cell? ⟨w.heap.size, 8, none⟩ = some (.int .i64 x.seq) := y 8
      generalize hST : playS l = st at hd2 hW
      obtain ⟨ms, L⟩ := st
      simp only at hd2 hW
      have HD2 := Lib.hid hd2
      have HW := Lib.hid hW
      have HB3 := Lib.hid hb3
      have HNQ := Lib.hid (fun (e : w.heap.size ∈ blocksOf q r a rs) => Nat.lt_irrefl _ (Nat.lt_of_lt_of_le hsz0 (hnq _ e)))
      have HNP := Lib.hid (fun (e : w.heap.size ∈ blocksP p vs) => Nat.lt_irrefl _ (Nat.lt_of_lt_of_le hsz0 (hnp _ e)))
      clear hd hd1 hd2 hW hb2 hb3 hcS hnq hnp hc2 y b0 hST
      go_wp2_with fail
      clear y0 y1 y3 y4 y5 y6 y7 y8 bb2 hf2
      generalize (w2.setCell ⟨w.heap.size, 2, none⟩ (.int .i64 1099511627776)) = W5 at HD2 HB3 ⊢
      generalize hB : w.heap.size = B at HB3 hsz0 HNQ HNP ⊢
      have HBB := Lib.hid hB
      clear hB
      refine (dprobe HD2.out HW.out (by omega) x.far).mono ?_
      rintro e w3 ⟨v3, rfl, r3, f3, c3⟩
      have Z : Hid (∀ W, Chg Non w3 W → ∀ j, W.cell? ⟨B, j, none⟩ = x.far.cs[j]?) := Lib.hid (fun W hc j => cell_of_row W B j _ 54 (0, 0) (((c3.non hc).block B (Array.getElem?_eq_some_iff.1 HB3.out).1 (fun e => e)).trans HB3.out))
      have LB3 : Hid (B < w3.heap.size) := Lib.hid (Nat.lt_of_lt_of_le (Array.getElem?_eq_some_iff.1 HB3.out).1 c3.size)
      have HD3 := Lib.hid (HD2.out.non c3)
      have R3 := Lib.hid r3
      have F3 := Lib.hid (HD2.out.freshQ f3)
      clear r3 f3 c3 HD2
      have y0 : w3.cell? ⟨B, 0, none⟩ = some (.string x.key) := Z.out w3 (Chg.refl _ _) 0
      have y1 : w3.cell? ⟨B, 1, none⟩ = some (.int .i64 x.rank) := Z.out w3 (Chg.refl _ _) 1
      have y2 : w3.cell? ⟨B, 2, none⟩ = some (.int .i64 1099511627776) := Z.out w3 (Chg.refl _ _) 2
      have y3 : w3.cell? ⟨B, 3, none⟩ = some (.int .i64 x.peer) := Z.out w3 (Chg.refl _ _) 3
      have y4 : w3.cell? ⟨B, 4, none⟩ = some (.int .i64 x.tag) := Z.out w3 (Chg.refl _ _) 4
      have y5 : w3.cell? ⟨B, 5, none⟩ = some (.int .i64 x.req) := Z.out w3 (Chg.refl _ _) 5
      have y6 : w3.cell? ⟨B, 6, none⟩ = some (.bool x.done) := Z.out w3 (Chg.refl _ _) 6
      have y7 : w3.cell? ⟨B, 7, none⟩ = some (.int .i64 x.frm) := Z.out w3 (Chg.refl _ _) 7
      have y8 : w3.cell? ⟨B, 8, none⟩ = some (.int .i64 x.seq) := Z.out w3 (Chg.refl _ _) 8
      go_wp2_with fail
      clear y0 y1 y2 y3 y4 y5 y6 y7 y8
      refine (dpostC HD3.out HW.out (by omega) x.far).mono ?_
      rintro e w4 ⟨rfl, vs4, h4, c4, n4⟩
      have HD4 := Lib.hid h4
      have Z4 : Hid (∀ W, Chg Non w4 W → ∀ j, W.cell? ⟨B, j, none⟩ = x.far.cs[j]?) := Lib.hid (fun W hc j => by
        rw [hc.cell (p := ⟨B, j, none⟩) (Nat.lt_of_lt_of_le LB3.out c4.size) (fun e => e), c4.cell (p := ⟨B, j, none⟩) LB3.out HNP.out]
        exact Z.out w3 (Chg.refl _ _) j)
      have R4 := Lib.hid (R3.out.kept c4 (fun g hg e => F3.out g hg (.inr e)))
      have N4 := Lib.hid n4
      have C4 := Lib.hid c4
      have LB4 : Hid (B < w4.heap.size) := Lib.hid (Nat.lt_of_lt_of_le LB3.out c4.size)
      clear h4 c4 n4
      by_cases ho : PostOk L x.far
      · have hpc : postC L x.far = 0 := by unfold postC; rw [if_pos ho]
        have hpm := probe_may HW.out ho
        rw [hpc]
        have HO := Lib.hid ho
        have HPM := Lib.hid hpm
        have HW4 := Lib.hid (HW.out.posted x.far)
        clear ho hpm hpc
        have y1 : w4.cell? ⟨B, 1, none⟩ = some (.int .i64 x.rank) := Z4.out w4 (Chg.refl _ _) 1
        have y2 : w4.cell? ⟨B, 2, none⟩ = some (.int .i64 1099511627776) := Z4.out w4 (Chg.refl _ _) 2
        go_wp2_with fail
        refine (dmay HD4.out HW4.out (by omega) x.rank 1099511627776).mono ?_
        rintro e w5 ⟨v5, rfl, r5, f5, c5⟩
        have e5 : mayL ms (postL L x.far) x.rank 1099511627776 = probeL ms L x.far := HPM.out
        rw [e5] at r5
        obtain ⟨A5, k5, rfl, d5, _⟩ := r5.form
        obtain ⟨A3, k3, rfl, d3, o3⟩ := (R4.out.kept c5 (fun _ _ e => e)).form2
        have hpl := probe_len ms L x.far
        have HD5 := Lib.hid (HD4.out.non c5)
        have F5 : Hid (∀ g o, A3 = some ⟨g, o, none⟩ → ¬ (In (blocksOf q r a rs) g ∨ In (blocksP p vs4) g)) := Lib.hid (by
          intro g o hA
          have hb := o3 g o hA
          rintro (e | e)
          · exact F3.out g hb (.inl e)
          · rcases N4.out g e with e | e
            · exact F3.out g hb (.inr e)
            · have := R3.out.lt g hb; omega)
        have D3 := Lib.hid d3
        have C5 := Lib.hid c5
        clear r5 f5 c5 e5 o3 y1 y2
        go_wp2_with fail
        refine (same_any A3 A5 k3 k5 (probeL ms L x.far) w5 D3.out d5 (by omega)).mono ?_
        rintro e w6 ⟨rfl, c6⟩
        have HD6 := Lib.hid (HD5.out.non c6)
        have D6 := Lib.hid (D3.out.non c6)
        have ZC : Hid (∀ W, Chg Non w6 W → ∀ j, W.cell? ⟨B, j, none⟩ = x.far.cs[j]?) := Lib.hid (fun W hc j => Z4.out W ((C5.out.non c6).non hc) j)
        have EM : Hid (mayL ms (postL L x.far) x.rank 1099511627776 = probeL ms L x.far) := Lib.hid HPM.out
        have LB6 : Hid (B < w6.heap.size) := Lib.hid (Nat.lt_of_lt_of_le LB4.out (C5.out.non c6).size)
        have HN : Hid (B ∉ blocksOf q r a rs ∧ B ∉ blocksP p vs4) := Lib.hid ⟨HNQ.out, fun e => by
          rcases N4.out B e with e | e
          · exact HNP.out e
          · exact absurd LB3.out (Nat.not_lt.2 e)⟩
        generalize probeL ms L x.far = Y at D6 EM hpl ⊢
        generalize postL L x.far = L5 at HD6 HW4 EM
        clear d5 d3 c6 D3 C5 R3 R4 Z Z4 HPM HD3 HD4 HD5 HO HB3 F3
        clear HNQ HNP LB3 LB4 N4 C4
        have SX := F5.out
        have HLY := Lib.hid hpl
        go_wp2_with fail
        go_loopw [8] (fun i wr => ∃ k : Nat, i = .int .i64 k ∧ k ≤ Y.length ∧ Chg Non w6 wr) (fun i _ => Y.length - (intOf i).toNat)
        case atStart => exact ⟨0, rfl, by omega, Chg.refl _ _⟩
        case round =>
          obtain ⟨k, rfl, hk, hc⟩ := hrel
          have HC := Lib.hid hc
          clear hc
          by_cases hlt : k < Y.length
          · obtain ⟨m, hm⟩ : ∃ m, Y[k]? = some m := ⟨Y[k], List.getElem?_eq_getElem hlt⟩
            obtain ⟨g, o, rfl, hg, e1, e2⟩ := (D6.out.non HC.out).at_ hm
            obtain ⟨c', hs, hne⟩ : ∃ c', IntKind.i64.wrap (m.call + 1) = c' ∧ c' ≠ m.call := ⟨_, rfl, wrap_succ' m.call⟩
            have HNO := Lib.hid (probe_no (c := c') (EM.out ▸ List.mem_of_getElem? hm) hne)
            have z1 : ∀ W, Chg Non wr W → W.cell? ⟨B, 1, none⟩ = some (.int .i64 x.rank) := fun W hc => ZC.out W (HC.out.non hc) 1
            have z2 : ∀ W, Chg Non wr W → W.cell? ⟨B, 2, none⟩ = some (.int .i64 1099511627776) := fun W hc => ZC.out W (HC.out.non hc) 2
            have s1 : ∀ W, Chg Non wr W → W.cell? ⟨g, o + k * 8 + 1, none⟩ = some (.int .i64 m.frm) := fun W hc => (hc.cell hg (fun e => e)).trans (e2 0 (by omega))
            have s3 : ∀ W, Chg Non wr W → W.cell? ⟨g, o + k * 8 + 3, none⟩ = some (.int .i64 m.call) := fun W hc => (hc.cell hg (fun e => e)).trans (e2 2 (by omega))
            clear e1 e2 hm SX hne
            go_wp2_with fail
            go_region_held3 (fun W => Chg Non wr W) ((repeat (first | assumption | exact Chg.refl _ _ | refine Chg.drew ?_ | refine Chg.alloc ?_ _)))
              ((go_at_call 38
                refine (dmatch_no (HD6.out.non (HC.out.non (by assumption))) HW4.out (by omega) _ _ _ _ HNO.out).mono ?_
                rintro e w7 ⟨rfl, c7⟩
                have z7 := Chg.non (S := Non) (by assumption) c7))
            all_goals
              go_wp2
              go_roundw
              case rel => exact ⟨k + 1, by go_num, by omega, HC.out.non (by assumption)⟩
              case measure => simp [intOf]; omega
          · obtain rfl : k = Y.length := by omega
            cases hY : Y with
            | nil =>
              subst hY
              clear SX
              go_wp2_with fail
              go_quiet (fail)
              go_wp2
              go_ret
              exact ⟨rfl, HD6.out.chg.non (HC.out.drewN _)⟩
            | cons m Y' =>
              subst hY
              have hm : (m :: Y')[0]? = some m := rfl
              obtain ⟨g, o, rfl, hg, e1, e2⟩ := (D6.out.non HC.out).at_ hm
              have HYES := Lib.hid (probe_yes (EM.out ▸ List.mem_of_getElem? hm))
              have hgn := SX g o rfl
              generalize hSS : (fun b => In (blocksOf q r a rs) b ∨ In (blocksP p vs4) b) = SS at hgn
              have hnB : ¬ SS B := by rw [← hSS]; rintro (e | e); exact HN.out.1 e; exact HN.out.2 e
              have hgn' : ¬ SS g := by rw [← hSS]; exact hgn
              have HSS := Lib.hid hSS
              clear hSS
              have z1 : ∀ W, Chg SS wr W → W.cell? ⟨B, 1, none⟩ = some (.int .i64 x.rank) := fun W hc => (hc.cell (Nat.lt_of_lt_of_le LB6.out HC.out.size) hnB).trans (ZC.out wr HC.out 1)
              have z2 : ∀ W, Chg SS wr W → W.cell? ⟨B, 2, none⟩ = some (.int .i64 1099511627776) := fun W hc => (hc.cell (Nat.lt_of_lt_of_le LB6.out HC.out.size) hnB).trans (ZC.out wr HC.out 2)
              have s1 : ∀ W, Chg SS wr W → W.cell? ⟨g, o + 1, none⟩ = some (.int .i64 m.frm) := fun W hc => (hc.cell hg hgn').trans (by have := e2 0 (by omega); rw [Nat.zero_mul] at this; exact this)
              have s3 : ∀ W, Chg SS wr W → W.cell? ⟨g, o + 3, none⟩ = some (.int .i64 m.call) := fun W hc => (hc.cell hg hgn').trans (by have := e2 2 (by omega); rw [Nat.zero_mul] at this; exact this)
              have hpos : 0 < (m :: Y').length := by simp
              have hpos2 : decide (0 < (m :: Y').length) = true := by simp
              have hlen : ((m :: Y').length : Int) ≠ 0 := by simp; omega
              have hdec : ((((m :: Y').length : Nat) : Int) == 0) = false := by simp; omega
              generalize (m :: Y').length = n at hdec hlen hpos hpos2
              clear e1 e2 hm SX hgn
              go_wp2_with fail
              go_region_held3 (fun W => Chg SS wr W) ((repeat (first | assumption | exact Chg.refl _ _ | refine Chg.drew ?_ | refine Chg.alloc ?_ _)))
                ((go_at_call 38
                  refine (dmatch_yes (HD6.out.non (HC.out.non (by first | assumption | exact (Chg.refl Non wr).drew | exact (Chg.refl Non wr)))) HW4.out (by omega) _ _ _ _ HYES.out).mono ?_
                  rintro e w7 ⟨rfl, d7, c7⟩
                  have D7 := Lib.hid d7
                  clear d7
                  have z7 : Chg SS wr w7 := Chg.same (by first | assumption | exact (Chg.refl _ _).drew | exact Chg.refl _ _) (HSS.out ▸ c7)))
              all_goals
                go_wp2
                go_ret
                exact ⟨rfl, D7.out⟩
      · have hpc : postC L x.far = 2 := by unfold postC; rw [if_neg ho]
        rw [hpc]
        have HO := Lib.hid ho
        clear ho hpc
        go_wp2
        go_ret
        exact ⟨rfl, HD4.out.chg⟩
  · go_wp2
    go_ret
    exact ⟨rfl, HC0.out.non C1.out⟩
end Go.Proofs.Ytgdpapcgghiljaa
