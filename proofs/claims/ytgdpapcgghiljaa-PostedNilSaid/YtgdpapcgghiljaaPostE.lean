/- Contracts of the receives: May, Probe. -/
import Derived.Test.YtgdpapcgghiljaaPostD
set_option linter.unusedSimpArgs false
set_option linter.unusedVariables false
namespace Go.Proofs.Ytgdpapcgghiljaa
open Go.RowKit

/-- The messages that may be the receive's of a rank and call. -/
def mayL (ms : List Msg) (L : Nat → List Rcv) (rank call : Int) : List Msg := match (ofL L rank).findIdx? (fun r => r.call == call) with
  | none => []
  | some i => match (ofL L rank)[i]? with
    | none => []
    | some r => if r.done then [] else freeL ms r ((ofL L rank).take i)

set_option maxRecDepth 100000 in
set_option maxHeartbeats 1000000 in
theorem may_any (p : Nat) (vs : List Value) (L : Nat → List Rcv) (q r a : Nat) (rs : List (Chan × Value)) (ats : List (Sent × Value)) (ms : List Msg) (rank call : Int) (w : World) (hp : PR w p vs L) (h : QR w q r a rs ats ms) (hl : ms.length ≤ 1000) (hfit : ∀ m ∈ ms, 0 ≤ m.frm ∧ m.frm ≤ 63) (hlr : (ofL L rank).length ≤ 1000) :
    Calls Try.prog 37 #[.pointer (some ⟨p, 0, none⟩), .pointer (some ⟨q, 0, none⟩), .int .i64 rank, .int .i64 call] w fun e w' => ∃ v', e = .returned v' ∧ Row w' v' (mayL ms L rank call) ∧ Fresh w v' ∧ Chg Non w w' := by
  have hpl := pplace_any p vs L rank call w hp hlr
  have HPP := Lib.hid hp
  have HH := Lib.hid h
  have HFIT := Lib.hid hfit
  clear hp h hfit
  rcases @idxR_inv (fun r => r.call == call) (ofL L rank) with ⟨h1, h2⟩ | ⟨k, x, h1, h2, h3⟩
  · have e : mayL ms L rank call = [] := by
      have : (ofL L rank).findIdx? (fun r => r.call == call) = none := List.findIdx?_eq_none_iff.2 h2
      simp [mayL, this]
    rw [e]
    unfold plcR at hpl
    rw [h1] at hpl
    have HPL := Lib.hid hpl
    clear hpl h1 h2 e
    go_enter Try.func37, Try.ntmps37
    go_wp2_with (go_at_call 67; refine HPL.out.mono ?_; rintro e w1 ⟨rfl, hc⟩)
    go_ret
    exact ⟨_, rfl, Row.nil _, Fresh.nil _, hc⟩
  · have hmay : mayL ms L rank call = if x.done then [] else freeL ms x ((ofL L rank).take k) := by
      have : (ofL L rank).findIdx? (fun r => r.call == call) = some k := by
        unfold idxR at h1
        split at h1
        · rename_i j hj; rw [hj]; congr 1; omega
        · omega
      simp [mayL, this, h2]
    unfold plcR at hpl
    rw [h1] at hpl
    have HPL := Lib.hid hpl
    have HM := Lib.hid hmay
    have hkl : k < (ofL L rank).length := (List.getElem?_eq_some_iff.1 h2).1
    have H2 := Lib.hid h2
    clear hpl h1 h2 h3 hmay
    go_enter Try.func37, Try.ntmps37
    go_wp2_with fail
    refine HPL.out.mono ?_
    rintro e w1 ⟨rfl, hc1⟩
    obtain ⟨A, c, hrd, hcap, hcall⟩ := of_any p vs L rank w1 (HPP.out.non hc1)
    obtain ⟨g, o, rfl, hg, e1, e2⟩ := hrd.at_ H2.out
    have HO := Lib.hid hcall
    have HRD := Lib.hid hrd
    have HC1 := Lib.hid hc1
    have d6 : w1.cell? ⟨g, o + k * 9 + 6, none⟩ = some (.bool x.done) := e2 5 (by omega)
    cases hd : x.done
    · rw [hd] at d6
      have s0 : ∀ W, Chg Non w1 W → W.cell? ⟨g, o + k * 9, none⟩ = some (.string x.key) := fun W hc => (hc.cell hg (fun e => e)).trans e1
      have s1 : ∀ W, Chg Non w1 W → ∀ j, j < 8 → W.cell? ⟨g, o + k * 9 + (j + 1), none⟩ = x.cs[j + 1]? := fun W hc j hj => (hc.cell hg (fun e => e)).trans (e2 j hj)
      have HM2 := Lib.hid (show mayL ms L rank call = freeL ms x ((ofL L rank).take k) by rw [HM.out, hd]; rfl)
      have hkc : (k : Int) ≤ (c : Int) := by omega
      have htk : ((ofL L rank).take k).length = k := by rw [List.length_take]; omega
      have HFR := Lib.hid (fun W (hc : Chg Non w1 W) => htk ▸ free_any q r a rs ats ms x (some ⟨g, o, none⟩) c ((ofL L rank).take k) W (HH.out.non (HC1.out.non hc)) hl HFIT.out ((HRD.out.non hc).take k) (by rw [htk]; omega))
      clear hcall hrd hc1 e1 e2 hd htk
      go_wp2_with (go_at_call 65; refine HO.out.mono ?_; rintro e w2 ⟨rfl, rfl⟩)
      clear d6
      go_region_held3 (fun W => Chg Non w1 W) ((repeat (first | assumption | exact Chg.refl _ _ | refine Chg.drew ?_ | refine Chg.alloc ?_ _)))
        ((go_at_call 64
          refine (HFR.out _ (by assumption)).mono ?_
          rintro e w3 ⟨v', rfl, f1, f2, f3⟩
          have hc3 := Chg.non (S := Non) (by assumption) f3))
      all_goals
        go_wp2
        go_ret
        exact ⟨v', rfl, by rw [HM2.out]; exact f1, fun g hg => Nat.le_trans (Nat.le_trans HC1.out.size (Chg.size (S := Non) (w := w1) (by first | assumption | exact (Chg.refl _ _).drew))) (f2 g hg), HC1.out.non hc3⟩
    · rw [hd] at d6
      have HM2 := Lib.hid (show mayL ms L rank call = [] by rw [HM.out, hd]; rfl)
      clear hcall hrd hc1 e1 e2 hd
      go_wp2_with (go_at_call 65; refine HO.out.mono ?_; rintro e w2 ⟨rfl, rfl⟩)
      go_ret
      exact ⟨_, rfl, by rw [HM2.out]; exact Row.nil _, Fresh.nil _, HC1.out⟩

/-- The messages that may be a probe's. -/
def probeL (ms : List Msg) (L : Nat → List Rcv) (x : Rcv) : List Msg := freeL ms x (ofL L x.rank)

set_option maxRecDepth 100000 in
set_option maxHeartbeats 1000000 in
theorem probe_any (p : Nat) (vs : List Value) (L : Nat → List Rcv) (q r a : Nat) (rs : List (Chan × Value)) (ats : List (Sent × Value)) (ms : List Msg) (x : Rcv) (w : World) (hp : PR w p vs L) (h : QR w q r a rs ats ms) (hl : ms.length ≤ 1000) (hfit : ∀ m ∈ ms, 0 ≤ m.frm ∧ m.frm ≤ 63) (hlr : (ofL L x.rank).length ≤ 1000) :
    Calls Try.prog 35 #[.pointer (some ⟨p, 0, none⟩), .pointer (some ⟨q, 0, none⟩), .agg x.cs] w fun e w' => ∃ v', e = .returned v' ∧ Row w' v' (probeL ms L x) ∧ Fresh w v' ∧ Chg Non w w' := by
  have c0' := hp.c0
  obtain ⟨A, c, hrd, _, hcall⟩ := of_all p vs L x.rank w hp
  have HO := Lib.hid hcall
  have HFR := Lib.hid (fun W (hc : Chg Non w W) => free_any q r a rs ats ms x A c (ofL L x.rank) W (h.non hc) hl hfit (hrd.non hc) hlr)
  clear hcall hrd h hp hfit
  go_enter Try.func35, Try.ntmps35
  have hC0 : Chg Non w (w.alloc (Obj.cells x.cs 54)) := (Chg.refl _ _).alloc _
  have c0 := c0' _ hC0
  have hbx := fun i => box_cell w x.cs 54 (S := Non) (fun e => e) i
  have b0 : ∀ W, Chg Non (w.alloc (Obj.cells x.cs 54)) W → W.cell? ⟨w.heap.size, 0, none⟩ = some (.string x.key) := hbx 0
  have b1 : ∀ W, Chg Non (w.alloc (Obj.cells x.cs 54)) W → ∀ j, j < 8 → W.cell? ⟨w.heap.size, j + 1, none⟩ = x.cs[j + 1]? := fun W hc j _ => hbx (j + 1) W hc
  have HB0 := Lib.hid b0
  have HB1 := Lib.hid b1
  have HC0 := Lib.hid hC0
  clear hbx hC0 c0' b0 b1
  go_wp2_with fail
  have b0 := HB0.out
  have b1 := HB1.out
  generalize w.alloc (Obj.cells x.cs 54) = W0 at b0 b1 HC0 c0 ⊢
  go_region_held3 (fun W => Chg Non W0 W) ((repeat (first | assumption | exact Chg.refl _ _ | refine Chg.drew ?_ | refine Chg.alloc ?_ _)))
    ((first
      | (go_at_call 65
         refine (HO.out _ (HC0.out.non (by assumption))).mono ?_
         rintro e w2 ⟨rfl, rfl⟩)
      | (go_at_call 64
         refine (HFR.out _ (HC0.out.non (by assumption))).mono ?_
         rintro e w3 ⟨v', rfl, f1, f2, f3⟩
         have hc3 := Chg.non (S := Non) (by assumption) f3)))
  all_goals
    go_wp2
    go_ret
    exact ⟨v', rfl, f1, fun g hg => Nat.le_trans (Nat.le_trans HC0.out.size (Chg.size (S := Non) (w := W0) (by first | assumption | exact (Chg.refl _ _).drew))) (f2 g hg), HC0.out.non hc3⟩
end Go.Proofs.Ytgdpapcgghiljaa
