/- Contracts over receives, of no queue. -/
import Derived.Test.YtgdpapcgghiljaaNilA
set_option linter.unusedSimpArgs false
set_option linter.unusedVariables false
namespace Go.Proofs.Ytgdpapcgghiljaa
open Go.RowKit

set_option maxRecDepth 100000 in
set_option maxHeartbeats 1000000 in
theorem may_nilq (p : Nat) (vs : List Value) (L : Nat → List Rcv) (rank call : Int) (w : World) (hp : PR w p vs L) (hlr : (ofL L rank).length ≤ 1000) :
    Calls Try.prog 37 #[.pointer (some ⟨p, 0, none⟩), .pointer none, .int .i64 rank, .int .i64 call] w fun e w' => e = .returned (.slice none 0 0) ∧ Chg Non w w' := by
  have hpl := pplace_any p vs L rank call w hp hlr
  have HPP := Lib.hid hp
  clear hp
  rcases @idxR_inv (fun r => r.call == call) (ofL L rank) with ⟨h1, h2⟩ | ⟨k, x, h1, h2, h3⟩
  · unfold plcR at hpl
    rw [h1] at hpl
    have HPL := Lib.hid hpl
    clear hpl h1 h2
    go_enter Try.func37, Try.ntmps37
    go_wp2_with (go_at_call 67; refine HPL.out.mono ?_; rintro e w1 ⟨rfl, hc⟩)
    go_ret
    exact ⟨rfl, hc⟩
  · unfold plcR at hpl
    rw [h1] at hpl
    have HPL := Lib.hid hpl
    have hkl : k < (ofL L rank).length := (List.getElem?_eq_some_iff.1 h2).1
    have H2 := Lib.hid h2
    clear hpl h1 h2 h3
    go_enter Try.func37, Try.ntmps37
    go_wp2_with fail
    refine HPL.out.mono ?_
    rintro e w1 ⟨rfl, hc1⟩
    obtain ⟨A, c, hrd, hcap, hcall⟩ := of_any p vs L rank w1 (HPP.out.non hc1)
    obtain ⟨g, o, rfl, hg, e1, e2⟩ := hrd.at_ H2.out
    have HO := Lib.hid hcall
    have HRD := Lib.hid hrd
    have HC1 := Lib.hid hc1
    have d6 : w1.cell? ⟨g, o + k * 9 + 6, none⟩ = some (.bool x.done) := e2 5 (by omega)
    cases hd : x.done
    · rw [hd] at d6
      have s0 : ∀ W, Chg Non w1 W → W.cell? ⟨g, o + k * 9, none⟩ = some (.string x.key) := fun W hc => (hc.cell hg (fun e => e)).trans e1
      have s1 : ∀ W, Chg Non w1 W → ∀ j, j < 8 → W.cell? ⟨g, o + k * 9 + (j + 1), none⟩ = x.cs[j + 1]? := fun W hc j hj => (hc.cell hg (fun e => e)).trans (e2 j hj)
      have hkc : (k : Int) ≤ (c : Int) := by omega
      have htk : ((ofL L rank).take k).length = k := by rw [List.length_take]; omega
      have HFR := Lib.hid (fun W (hc : Chg Non w1 W) => htk ▸ free_nil x (some ⟨g, o, none⟩) c ((ofL L rank).take k) W ((HRD.out.non hc).take k) (by rw [htk]; omega))
      clear hcall hrd hc1 e1 e2 hd htk
      go_wp2_with (go_at_call 65; refine HO.out.mono ?_; rintro e w2 ⟨rfl, rfl⟩)
      clear d6
      go_region_held3 (fun W => Chg Non w1 W) ((repeat (first | assumption | exact Chg.refl _ _ | refine Chg.drew ?_ | refine Chg.alloc ?_ _)))
        ((go_at_call 64
          refine (HFR.out _ (by assumption)).mono ?_
          rintro e w3 ⟨rfl, f3⟩
          have hc3 := Chg.non (S := Non) (by assumption) f3))
      all_goals
        go_wp2
        go_ret
        exact ⟨rfl, HC1.out.non hc3⟩
    · rw [hd] at d6
      clear hcall hrd hc1 e1 e2 hd
      go_wp2_with (go_at_call 65; refine HO.out.mono ?_; rintro e w2 ⟨rfl, rfl⟩)
      go_ret
      exact ⟨rfl, HC1.out⟩

set_option maxRecDepth 100000 in
set_option maxHeartbeats 1000000 in
theorem probe_nilq (p : Nat) (vs : List Value) (L : Nat → List Rcv) (x : Rcv) (w : World) (hp : PR w p vs L) (hlr : (ofL L x.rank).length ≤ 1000) :
    Calls Try.prog 35 #[.pointer (some ⟨p, 0, none⟩), .pointer none, .agg x.cs] w fun e w' => e = .returned (.slice none 0 0) ∧ Chg Non w w' := by
  have c0' := hp.c0
  obtain ⟨A, c, hrd, _, hcall⟩ := of_all p vs L x.rank w hp
  have HO := Lib.hid hcall
  have HFR := Lib.hid (fun W (hc : Chg Non w W) => free_nil x A c (ofL L x.rank) W (hrd.non hc) hlr)
  clear hcall hrd hp
  go_enter Try.func35, Try.ntmps35
  have hC0 : Chg Non w (w.alloc (Obj.cells x.cs 54)) := (Chg.refl _ _).alloc _
  have c0 := c0' _ hC0
  have hbx := fun i => box_cell w x.cs 54 (S := Non) (fun e => e) i
  have b0 : ∀ W, Chg Non (w.alloc (Obj.cells x.cs 54)) W → W.cell? ⟨w.heap.size, 0, none⟩ = some (.string x.key) := hbx 0
  have b1 : ∀ W, Chg Non (w.alloc (Obj.cells x.cs 54)) W → ∀ j, j < 8 → W.cell? ⟨w.heap.size, j + 1, none⟩ = x.cs[j + 1]? := fun W hc j _ => hbx (j + 1) W hc
  have HB0 := Lib.hid b0
  have HB1 := Lib.hid b1
  have HC0 := Lib.hid hC0
  clear hbx hC0 c0' b0 b1
  go_wp2_with fail
  have b0 := HB0.out
  have b1 := HB1.out
  generalize w.alloc (Obj.cells x.cs 54) = W0 at b0 b1 HC0 c0 ⊢
  go_region_held3 (fun W => Chg Non W0 W) ((repeat (first | assumption | exact Chg.refl _ _ | refine Chg.drew ?_ | refine Chg.alloc ?_ _)))
    ((first
      | (go_at_call 65
         refine (HO.out _ (HC0.out.non (by assumption))).mono ?_
         rintro e w2 ⟨rfl, rfl⟩)
      | (go_at_call 64
         refine (HFR.out _ (HC0.out.non (by assumption))).mono ?_
         rintro e w3 ⟨rfl, f3⟩
         have hc3 := Chg.non (S := Non) (by assumption) f3)))
  all_goals
    go_wp2
    go_ret
    exact ⟨rfl, HC0.out.non hc3⟩

set_option maxRecDepth 100000 in
set_option maxHeartbeats 1000000 in
theorem match_nilq (p : Nat) (vs : List Value) (L : Nat → List Rcv) (rank call f s : Int) (w : World) (hp : PR w p vs L) (hlr : (ofL L rank).length ≤ 1000) :
    Calls Try.prog 38 #[.pointer (some ⟨p, 0, none⟩), .pointer none, .int .i64 rank, .int .i64 call, .int .i64 f, .int .i64 s] w fun e w' => e = .returned (.int .i64 2) ∧ Chg Non w w' := by
  have hC0 : Chg Non w ((w.alloc (Obj.cells #[Value.int IntKind.i64 f] 3)).alloc (Obj.cells #[Value.int IntKind.i64 s] 3)) := ((Chg.refl _ _).alloc _).alloc _
  have c0 := hp.c0 _ hC0
  have HM := Lib.hid (may_nilq p vs L rank call _ (hp.non hC0) hlr)
  have HC0 := Lib.hid hC0
  clear hp hC0
  go_enter Try.func38, Try.ntmps38
  go_wp2_with fail
  refine HM.out.mono ?_
  rintro e w1 ⟨rfl, h3⟩
  have H3 := Lib.hid h3
  clear h3
  go_wp2_with fail
  refine (contains_msg 68 enters68 #[.pointer (some ⟨w.heap.size, 0, none⟩), .pointer (some ⟨w.heap.size + 1, 0, none⟩)] (itsB f s) none 0 [] w1 (.inl rfl) (by simp) (by simp)).mono ?_
  rintro e w2 ⟨rfl, hc2⟩
  have HC2 := Lib.hid hc2
  clear hc2
  rw [show ([] : List Msg).any (itsB f s) = false from rfl]
  go_wp2
  go_ret
  exact ⟨rfl, HC0.out.non (H3.out.non HC2.out)⟩
end Go.Proofs.Ytgdpapcgghiljaa
