/- Contracts of the receives: Post, where it takes. -/
import Derived.Test.YtgdpapcgghiljaaPostG
set_option linter.unusedSimpArgs false
set_option linter.unusedVariables false
namespace Go.Proofs.Ytgdpapcgghiljaa
open Go.RowKit

set_option maxRecDepth 100000 in
set_option maxHeartbeats 400000 in
theorem of_is (p : Nat) (vs : List Value) (L : Nat → List Rcv) (k : Nat) (v : Value) (w : World) (h : PR w p vs L) (hr : k < 64) (hv : vs[k]? = some v) :
    ∀ W, Chg Non w W → Calls Try.prog 65 #[.pointer (some ⟨p, 0, none⟩), .int .i64 k] W fun e w' => e = .returned v ∧ W = w' := by
  intro W hW
  obtain ⟨A, c, rfl, hrd, _⟩ := (h.row k v hv).form
  have c0 := h.c0 W hW
  have cv := h.cv hv W hW
  have hk : decide ((0 : Int) ≤ k ∧ (k : Int) ≤ 63) = true := by simp; omega
  have hk64 : (k : Int) < 64 := by omega
  have hk0 : (0 : Int) ≤ k := by omega
  have HK := Lib.hid (hk ▸ inp_any k 0 63 W)
  clear h hv hr hk hrd
  go_enter Try.func65, Try.ntmps65
  go_wp2_with (go_at_call 66; refine HK.out.mono ?_; rintro e w1 ⟨rfl, rfl⟩)
  go_ret
  exact ⟨rfl, rfl⟩

theorem chg_three (W : World) (N nq i j k : Nat) (a b c : Value) : Chg (fun b => b = N) W ((((W.drewN nq).setCell ⟨N, i, none⟩ a).setCell ⟨N, j, none⟩ b).setCell ⟨N, k, none⟩ c) := by
  refine Chg.setCell (S := fun b => b = N) ?_ (.inr rfl) _
  refine Chg.setCell (S := fun b => b = N) ?_ (.inr rfl) _
  refine Chg.setCell (S := fun b => b = N) ?_ (.inr rfl) _
  exact (Chg.refl _ _).drewN _

set_option maxRecDepth 100000 in
set_option maxHeartbeats 2000000 in
theorem post_yes (p : Nat) (vs : List Value) (L : Nat → List Rcv) (x : Rcv) (w : World) (h : PR w p vs L) (hlr : (ofL L x.rank).length ≤ 1000) (hn : PostOk L x) :
    Calls Try.prog 36 #[.pointer (some ⟨p, 0, none⟩), .agg x.cs] w fun e w' => e = .returned (.int .i64 0) ∧ ∃ vs', PR w' p vs' (upd L x.rank.toNat (L x.rank.toNat ++ [x.fresh])) ∧ Chg (In (blocksP p vs)) w w' ∧ (∀ b ∈ blocksP p vs', b ∈ blocksP p vs ∨ w.heap.size ≤ b) := by
  obtain ⟨n1, n2, n3, n4, n5, n6⟩ := hn
  obtain ⟨k, hk⟩ : ∃ k : Nat, x.rank = k := ⟨x.rank.toNat, by omega⟩
  have hk64 : k < 64 := by omega
  obtain ⟨v, hv, hrow⟩ := h.at_ hk64
  have hofL : ofL L x.rank = L k := by unfold ofL; rw [if_pos n1, hk]; rfl
  rw [hofL] at hlr n6
  have hkn : x.rank.toNat = k := by omega
  rw [hkn]
  obtain ⟨A, c, hvA, hrd, _⟩ := hrow.form
  have hC0 : Chg Non w (w.alloc (Obj.cells x.cs 54)) := (Chg.refl _ _).alloc _
  have c0 := h.c0 _ hC0
  have cv := h.cv hv _ hC0
  have hbx := fun i => box_cell w x.cs 54 (S := Non) (fun e => e) i
  have hN : (w.alloc (Obj.cells x.cs 54)).heap[w.heap.size]? = some (.cells x.cs 54 (0, 0)) := heap_alloc_new w _
  have hof := of_is p vs L k v w h hk64 hv
  rw [← hk] at hof
  have HO := Lib.hid hof
  have HH := Lib.hid h
  have hp := h.lt p (by simp [blocksP])
  have hnp := h.notp hv
  have hvw := hrow.lt
  have HV := Lib.hid hv
  have HROW := Lib.hid hrow
  generalize hnl : (L k).length = n at hvA hlr
  have HNL := Lib.hid hnl
  have HRD := Lib.hid hrd
  have HC0 := Lib.hid hC0
  have HBX := Lib.hid hbx
  have HN := Lib.hid hN
  have hb1 : (w.alloc (Obj.cells x.cs 54)).cell? ⟨w.heap.size, 1, none⟩ = some (.int .i64 x.rank) := HBX.out 1 _ (Chg.refl _ _)
  have hb2 : (w.alloc (Obj.cells x.cs 54)).cell? ⟨w.heap.size, 2, none⟩ = some (.int .i64 x.call) := HBX.out 2 _ (Chg.refl _ _)
  have hb3 : (w.alloc (Obj.cells x.cs 54)).cell? ⟨w.heap.size, 3, none⟩ = some (.int .i64 x.peer) := HBX.out 3 _ (Chg.refl _ _)
  have hb4 : (w.alloc (Obj.cells x.cs 54)).cell? ⟨w.heap.size, 4, none⟩ = some (.int .i64 x.tag) := HBX.out 4 _ (Chg.refl _ _)
  have hb5 : (w.alloc (Obj.cells x.cs 54)).cell? ⟨w.heap.size, 5, none⟩ = some (.int .i64 x.req) := HBX.out 5 _ (Chg.refl _ _)
  have I1 : ∀ W, Calls Try.prog 66 #[.int .i64 x.rank, .int .i64 0, .int .i64 63] W fun e w' => e = .returned (.bool true) ∧ w' = W := fun W => by
    obtain ⟨B, hB, I⟩ := in_bool x.rank 0 63; rw [decide_eq_true n1] at hB; subst hB; exact I W
  have I2 : ∀ W, Calls Try.prog 66 #[.int .i64 x.peer, .int .i64 (-1), .int .i64 63] W fun e w' => e = .returned (.bool true) ∧ w' = W := fun W => by
    obtain ⟨B, hB, I⟩ := in_bool x.peer (-1) 63; rw [decide_eq_true n2] at hB; subst hB; exact I W
  have I3 : ∀ W, Calls Try.prog 66 #[.int .i64 x.tag, .int .i64 (-1), .int .i64 32767] W fun e w' => e = .returned (.bool true) ∧ w' = W := fun W => by
    obtain ⟨B, hB, I⟩ := in_bool x.tag (-1) 32767; rw [decide_eq_true n3] at hB; subst hB; exact I W
  have hB4 : decide (x.req < -1) = false := by simpa using n4
  have hB5 : decide (x.call < 0) = false := by simpa using n5
  have hK := Lib.hid hk
  have N1 := Lib.hid n1
  have N6 := Lib.hid n6
  clear hof h hv hrow hnl hrd hC0 hbx hN n1 n2 n3 n4 n5 n6 hofL hkn hk
  go_enter Try.func36, Try.ntmps36
  go_wp2_with (go_at_call 65; refine (HO.out _ HC0.out).mono ?_; rintro e w1 ⟨rfl, rfl⟩)
  have hsz : (w.alloc (Obj.cells x.cs 54)).heap.size = w.heap.size + 1 := by simp
  have hb6 : (w.alloc (Obj.cells x.cs 54)).cell? ⟨w.heap.size, 6, none⟩ = some (.bool x.done) := HBX.out 6 _ (Chg.refl _ _)
  have hb7 : (w.alloc (Obj.cells x.cs 54)).cell? ⟨w.heap.size, 7, none⟩ = some (.int .i64 x.frm) := HBX.out 7 _ (Chg.refl _ _)
  have hb8 : (w.alloc (Obj.cells x.cs 54)).cell? ⟨w.heap.size, 8, none⟩ = some (.int .i64 x.seq) := HBX.out 8 _ (Chg.refl _ _)
  have hf6 : (w.alloc (Obj.cells x.cs 54)).frozen? ⟨w.heap.size, 6, none⟩ = false := frozen_of_row _ _ _ _ 54 HN.out
  have hf7 : (w.alloc (Obj.cells x.cs 54)).frozen? ⟨w.heap.size, 7, none⟩ = false := frozen_of_row _ _ _ _ 54 HN.out
  have hf8 : (w.alloc (Obj.cells x.cs 54)).frozen? ⟨w.heap.size, 8, none⟩ = false := frozen_of_row _ _ _ _ 54 HN.out
  generalize w.alloc (Obj.cells x.cs 54) = W0 at *
  have HSZ := Lib.hid hsz
  clear hsz
  subst hvA
  by_cases hl : L k = []
  · have hn0 : n = 0 := by rw [← HNL.out, hl]; rfl
    subst hn0
    go_quiet ((go_at_call 66; first | with_reducible exact Calls.quiet_of_same (I1 _) | with_reducible exact Calls.quiet_of_same (I2 _) | with_reducible exact Calls.quiet_of_same (I3 _)))
    go_wp2_with fail
    clear hl
    have hW6 : ((((W0.drewN nq).setCell ⟨w.heap.size, 6, none⟩ (Value.bool false)).setCell ⟨w.heap.size, 7, none⟩ (Value.int IntKind.i64 0)).setCell ⟨w.heap.size, 8, none⟩ (Value.int IntKind.i64 0)).heap[w.heap.size]? = some (.cells x.fresh.cs 54 (0, 0)) := heap_setCell_same _ _ _ _ 54 _ (heap_setCell_same _ _ _ _ 54 _ (heap_setCell_same (W0.drewN nq) _ _ _ 54 _ HN.out))
    have c6 : Chg (fun b => b = w.heap.size) W0 ((((W0.drewN nq).setCell ⟨w.heap.size, 6, none⟩ (Value.bool false)).setCell ⟨w.heap.size, 7, none⟩ (Value.int IntKind.i64 0)).setCell ⟨w.heap.size, 8, none⟩ (Value.int IntKind.i64 0)) := chg_three W0 w.heap.size nq 6 7 8 _ _ _
    have c6' := HC0.out.trans c6 (fun b hb e => by omega)
    have z6 := c6.size
    generalize ((((W0.drewN nq).setCell ⟨w.heap.size, 6, none⟩ (Value.bool false)).setCell ⟨w.heap.size, 7, none⟩ (Value.int IntKind.i64 0)).setCell ⟨w.heap.size, 8, none⟩ (Value.int IntKind.i64 0)) = W6 at hW6 c6 c6' z6 ⊢
    have HC6 := Lib.hid c6'
    have HR6 := Lib.hid (HROW.out.kept c6' (fun _ _ e => e))
    have hk := hK.out
    have hk64' : (k : Int) < 64 := by omega
    have hk0 : (0 : Int) ≤ k := by omega
    have cv6 := (HH.out.non c6').cv HV.out W6 (Chg.refl _ _)
    have cf6 : W6.frozen? ⟨p, 1 + k, none⟩ = false := frozen_of_row W6 _ _ _ 83 (HH.out.non c6').head
    have hNw : ¬ (w.heap.size = p ∨ (Value.slice A 0 c).ownBlock = some w.heap.size) := by
      rintro (e | e)
      · omega
      · have := hvw _ e; omega
    have hbx6 : ∀ W, Chg (fun b => b = p ∨ (Value.slice A 0 c).ownBlock = some b) W6 W → ∀ i, W.cell? ⟨w.heap.size, i, none⟩ = x.fresh.cs[i]? := fun W hc i => by
      rw [hc.cell (by have := HSZ.out; simp only; omega) hNw, cell_of_row W6 _ _ _ 54 (0, 0) hW6]
    have r0 : ∀ W, Chg (fun b => b = p ∨ (Value.slice A 0 c).ownBlock = some b) W6 W → W.cell? ⟨w.heap.size, 0, none⟩ = some (.string x.fresh.key) := fun W hc => hbx6 W hc 0
    have r1 : ∀ W, Chg (fun b => b = p ∨ (Value.slice A 0 c).ownBlock = some b) W6 W → ∀ j, j < 8 → W.cell? ⟨w.heap.size, j + 1, none⟩ = x.fresh.cs[j + 1]? := fun W hc j _ => hbx6 W hc (j + 1)
    have r2 : ∀ W, Chg (fun b => b = p ∨ (Value.slice A 0 c).ownBlock = some b) W6 W → W.cell? ⟨w.heap.size, 1, none⟩ = some (.int .i64 k) := fun W hc => by rw [← hk]; exact hbx6 W hc 1
    have hkf : x.fresh.rank = (k : Int) := hk
    have hp6 : p < W6.heap.size := Nat.lt_of_lt_of_le hp c6'.size
    have hl6 : (L k).length ≤ 1000000 := by rw [HNL.out]; omega
    clear hbx6 hb1 hb2 hb3 hb4 hb5 hb6 hb7 hb8 hf6 hf7 hf8 cv c0 I1 I2 I3 hB4 hB5 c6 c6' hk hvw
    go_region_held_law (fun W => Chg (fun b => b = p ∨ (Value.slice A 0 c).ownBlock = some b) W6 W) ((repeat (first | assumption | exact Chg.refl _ _ | refine Chg.drew ?_ | refine Chg.alloc ?_ _ | refine Chg.setCell ?_ (.inr (.inl rfl)) _)))
      ((
        refine step_appendR (by rfl) _ _ (by rfl) (Value.slice A 0 c) (L k) (by rfl) (HR6.out.kept (S := Non) (by repeat (first | exact Chg.refl _ _ | refine Chg.drew ?_ | refine Chg.alloc ?_ _)) (fun _ _ e => e)) _ x.fresh 1 (by rfl) _ (by exact heap_alloc_new _ _) (by simp [Rcv.cs, Rcv.fresh, hK.out]) (by omega) ?_
        intro g2 cap w3 q1 q2 q3 q4
        have zO : Chg (fun b => (Value.slice A 0 c).ownBlock = some b) W6 w3 := (show Chg (fun b => (Value.slice A 0 c).ownBlock = some b) W6 _ by repeat (first | exact Chg.refl _ _ | refine Chg.drew ?_ | refine Chg.alloc ?_ _)).same q2
        have zW : Chg (fun b => b = p ∨ (Value.slice A 0 c).ownBlock = some b) W6 w3 := zO.mono (fun _ _ e => .inr e)
        have k3 := (zO.cell (p := ⟨p, 1 + k, none⟩) hp6 hnp).trans cv6
        have f3 := (zO.frozen (p := ⟨p, 1 + k, none⟩) hp6 hnp).trans cf6
        have Q3 := Lib.hid (show (Value.slice A 0 c).ownBlock = some g2 ∨ W6.heap.size ≤ g2 by
          rcases q3 with e | e
          · exact .inl e
          · exact .inr (by rw [e]; simp))
        have Q1 := Lib.hid q1
        have ZO := Lib.hid zO
        clear q1 q2 q3 q4 zO))
    all_goals
      go_wp2
      go_ret
      obtain ⟨e1, e2⟩ := (HH.out.non HC6.out).put HV.out x.fresh g2 _ cap Q1.out Q3.out ZO.out
      refine ⟨rfl, _, e1, ?_, fun b hb => ?_⟩
      · refine (HC6.out.any.trans (ZO.out.mono (S' := In (blocksP p vs)) (fun b _ e => ?_)) (fun b _ e => e)).setCell (.inr (by simp [In, blocksP])) _
        simp only [In, blocksP, List.mem_cons]
        exact .inr (own_mem (p := p) HV.out e)
      · rcases e2 b hb with e | e
        · exact .inl e
        · exact .inr (Nat.le_trans HC6.out.size e)
  · obtain ⟨y, hy, hy1⟩ := last_at hl
    rw [HNL.out] at hy1
    have hB7 : decide (x.call ≤ y.call) = false := by have := N6.out y hy; simpa using this
    have hn0 : 0 < n := by
      have := List.length_pos_iff.2 hl
      rw [HNL.out] at this
      exact this
    have hd6 : decide (0 < n) = true := by simpa using hn0
    obtain ⟨g, o, rfl, hg, e1, e2⟩ := (HRD.out.non HC0.out).at_ hy1
    have ey : W0.cell? ⟨g, o + (n - 1) * 9 + 2, none⟩ = some (.int .i64 y.call) := e2 1 (by omega)
    have hw : IntKind.i64.wrap ((n : Int) - 1) = ((n - 1 : Nat) : Int) := by
      rw [IntWalk.i64_in _ (by omega)]
      omega
    have hlt : n - 1 < n := by omega
    clear hy1 hl hy e1 e2
    go_quiet ((go_at_call 66; first | with_reducible exact Calls.quiet_of_same (I1 _) | with_reducible exact Calls.quiet_of_same (I2 _) | with_reducible exact Calls.quiet_of_same (I3 _)))
    go_wp2_with fail
    clear hB7 hn0 hd6 ey hw hlt hg
    have hW6 : ((((W0.drewN nq).setCell ⟨w.heap.size, 6, none⟩ (Value.bool false)).setCell ⟨w.heap.size, 7, none⟩ (Value.int IntKind.i64 0)).setCell ⟨w.heap.size, 8, none⟩ (Value.int IntKind.i64 0)).heap[w.heap.size]? = some (.cells x.fresh.cs 54 (0, 0)) := heap_setCell_same _ _ _ _ 54 _ (heap_setCell_same _ _ _ _ 54 _ (heap_setCell_same (W0.drewN nq) _ _ _ 54 _ HN.out))
    have c6 : Chg (fun b => b = w.heap.size) W0 ((((W0.drewN nq).setCell ⟨w.heap.size, 6, none⟩ (Value.bool false)).setCell ⟨w.heap.size, 7, none⟩ (Value.int IntKind.i64 0)).setCell ⟨w.heap.size, 8, none⟩ (Value.int IntKind.i64 0)) := chg_three W0 w.heap.size nq 6 7 8 _ _ _
    have c6' := HC0.out.trans c6 (fun b hb e => by omega)
    have z6 := c6.size
    generalize ((((W0.drewN nq).setCell ⟨w.heap.size, 6, none⟩ (Value.bool false)).setCell ⟨w.heap.size, 7, none⟩ (Value.int IntKind.i64 0)).setCell ⟨w.heap.size, 8, none⟩ (Value.int IntKind.i64 0)) = W6 at hW6 c6 c6' z6 ⊢
    have HC6 := Lib.hid c6'
    have HR6 := Lib.hid (HROW.out.kept c6' (fun _ _ e => e))
    have hk := hK.out
    have hk64' : (k : Int) < 64 := by omega
    have hk0 : (0 : Int) ≤ k := by omega
    have cv6 := (HH.out.non c6').cv HV.out W6 (Chg.refl _ _)
    have cf6 : W6.frozen? ⟨p, 1 + k, none⟩ = false := frozen_of_row W6 _ _ _ 83 (HH.out.non c6').head
    have hNw : ¬ (w.heap.size = p ∨ (Value.slice (some ⟨g, o, none⟩) n c).ownBlock = some w.heap.size) := by
      rintro (e | e)
      · omega
      · have := hvw _ e; omega
    have hbx6 : ∀ W, Chg (fun b => b = p ∨ (Value.slice (some ⟨g, o, none⟩) n c).ownBlock = some b) W6 W → ∀ i, W.cell? ⟨w.heap.size, i, none⟩ = x.fresh.cs[i]? := fun W hc i => by
      rw [hc.cell (by have := HSZ.out; simp only; omega) hNw, cell_of_row W6 _ _ _ 54 (0, 0) hW6]
    have r0 : ∀ W, Chg (fun b => b = p ∨ (Value.slice (some ⟨g, o, none⟩) n c).ownBlock = some b) W6 W → W.cell? ⟨w.heap.size, 0, none⟩ = some (.string x.fresh.key) := fun W hc => hbx6 W hc 0
    have r1 : ∀ W, Chg (fun b => b = p ∨ (Value.slice (some ⟨g, o, none⟩) n c).ownBlock = some b) W6 W → ∀ j, j < 8 → W.cell? ⟨w.heap.size, j + 1, none⟩ = x.fresh.cs[j + 1]? := fun W hc j _ => hbx6 W hc (j + 1)
    have r2 : ∀ W, Chg (fun b => b = p ∨ (Value.slice (some ⟨g, o, none⟩) n c).ownBlock = some b) W6 W → W.cell? ⟨w.heap.size, 1, none⟩ = some (.int .i64 k) := fun W hc => by rw [← hk]; exact hbx6 W hc 1
    have hkf : x.fresh.rank = (k : Int) := hk
    have hp6 : p < W6.heap.size := Nat.lt_of_lt_of_le hp c6'.size
    have hl6 : (L k).length ≤ 1000000 := by rw [HNL.out]; omega
    clear hbx6 hb1 hb2 hb3 hb4 hb5 hb6 hb7 hb8 hf6 hf7 hf8 cv c0 I1 I2 I3 hB4 hB5 c6 c6' hk hvw
    go_region_held_law (fun W => Chg (fun b => b = p ∨ (Value.slice (some ⟨g, o, none⟩) n c).ownBlock = some b) W6 W) ((repeat (first | assumption | exact Chg.refl _ _ | refine Chg.drew ?_ | refine Chg.alloc ?_ _ | refine Chg.setCell ?_ (.inr (.inl rfl)) _)))
      ((
        refine step_appendR (by rfl) _ _ (by rfl) (Value.slice (some ⟨g, o, none⟩) n c) (L k) (by rfl) (HR6.out.kept (S := Non) (by repeat (first | exact Chg.refl _ _ | refine Chg.drew ?_ | refine Chg.alloc ?_ _)) (fun _ _ e => e)) _ x.fresh 1 (by rfl) _ (by exact heap_alloc_new _ _) (by simp [Rcv.cs, Rcv.fresh, hK.out]) (by omega) ?_
        intro g2 cap w3 q1 q2 q3 q4
        have zO : Chg (fun b => (Value.slice (some ⟨g, o, none⟩) n c).ownBlock = some b) W6 w3 := (show Chg (fun b => (Value.slice (some ⟨g, o, none⟩) n c).ownBlock = some b) W6 _ by repeat (first | exact Chg.refl _ _ | refine Chg.drew ?_ | refine Chg.alloc ?_ _)).same q2
        have zW : Chg (fun b => b = p ∨ (Value.slice (some ⟨g, o, none⟩) n c).ownBlock = some b) W6 w3 := zO.mono (fun _ _ e => .inr e)
        have k3 := (zO.cell (p := ⟨p, 1 + k, none⟩) hp6 hnp).trans cv6
        have f3 := (zO.frozen (p := ⟨p, 1 + k, none⟩) hp6 hnp).trans cf6
        have Q3 := Lib.hid (show (Value.slice (some ⟨g, o, none⟩) n c).ownBlock = some g2 ∨ W6.heap.size ≤ g2 by
          rcases q3 with e | e
          · exact .inl e
          · exact .inr (by rw [e]; simp))
        have Q1 := Lib.hid q1
        have ZO := Lib.hid zO
        clear q1 q2 q3 q4 zO))
    all_goals
      go_wp2
      go_ret
      obtain ⟨e1, e2⟩ := (HH.out.non HC6.out).put HV.out x.fresh g2 _ cap Q1.out Q3.out ZO.out
      refine ⟨rfl, _, e1, ?_, fun b hb => ?_⟩
      · refine (HC6.out.any.trans (ZO.out.mono (S' := In (blocksP p vs)) (fun b _ e => ?_)) (fun b _ e => e)).setCell (.inr (by simp [In, blocksP])) _
        simp only [In, blocksP, List.mem_cons]
        exact .inr (own_mem (p := p) HV.out e)
      · rcases e2 b hb with e | e
        · exact .inl e
        · exact .inr (Nat.le_trans HC6.out.size e)
end Go.Proofs.Ytgdpapcgghiljaa
