/- Contracts of the receives: Post. -/
import Derived.Test.YtgdpapcgghiljaaPostF
set_option linter.unusedSimpArgs false
set_option linter.unusedVariables false
namespace Go.Proofs.Ytgdpapcgghiljaa
open Go.RowKit

/-- May this be posted? -/
def PostOk (L : Nat → List Rcv) (x : Rcv) : Prop := (0 ≤ x.rank ∧ x.rank ≤ 63) ∧ (-1 ≤ x.peer ∧ x.peer ≤ 63) ∧ (-1 ≤ x.tag ∧ x.tag ≤ 32767) ∧ -1 ≤ x.req ∧ 0 ≤ x.call ∧ ∀ y, (ofL L x.rank).getLast? = some y → y.call < x.call

def Rcv.fresh (x : Rcv) : Rcv := { x with done := false, frm := 0, seq := 0 }

theorem last_at {l : List Rcv} (h : l ≠ []) : ∃ y, l.getLast? = some y ∧ l[l.length - 1]? = some y := by
  refine ⟨l.getLast h, List.getLast?_eq_some_getLast h, ?_⟩
  rw [← List.getLast?_eq_getElem?]
  exact List.getLast?_eq_some_getLast h

theorem in_bool (a b c : Int) : ∃ B, B = decide (b ≤ a ∧ a ≤ c) ∧ ∀ W, Calls Try.prog 66 #[.int .i64 a, .int .i64 b, .int .i64 c] W fun e w' => e = .returned (.bool B) ∧ w' = W :=
  ⟨_, rfl, fun W => (inp_any a b c W).mono fun e w' ⟨h1, h2⟩ => ⟨h1, h2.symm⟩⟩

set_option maxRecDepth 100000 in
set_option maxHeartbeats 2000000 in
theorem post_no (p : Nat) (vs : List Value) (L : Nat → List Rcv) (x : Rcv) (w : World) (h : PR w p vs L) (hlr : (ofL L x.rank).length ≤ 1000) (hn : ¬ PostOk L x) :
    Calls Try.prog 36 #[.pointer (some ⟨p, 0, none⟩), .agg x.cs] w fun e w' => e = .returned (.int .i64 2) ∧ Chg Non w w' := by
  have c0' := h.c0
  have hcall := of_any p vs L x.rank
  have hC0 : Chg Non w (w.alloc (Obj.cells x.cs 54)) := (Chg.refl _ _).alloc _
  obtain ⟨A, c, hrd, hcap, hcall⟩ := hcall (w.alloc (Obj.cells x.cs 54)) (h.non hC0)
  generalize hnl : (ofL L x.rank).length = n at hcap hcall
  have HNL := Lib.hid hnl
  clear hnl
  have HO := Lib.hid hcall
  have c0 := c0' _ hC0
  have hbx := fun i => box_cell w x.cs 54 (S := Non) (fun e => e) i
  have HC0 := Lib.hid hC0
  have HRD := Lib.hid hrd
  have HN := Lib.hid hn
  have HBX := Lib.hid hbx
  clear hcall hrd h hn hbx hC0 c0'
  have fin : ∀ W, Chg Non (w.alloc (Obj.cells x.cs 54)) W → Ending.returned (.int .i64 2) = Ending.returned (.int .i64 2) ∧ Chg Non w W := fun W hc => ⟨rfl, HC0.out.non hc⟩
  have FIN := Lib.hid fin
  clear fin
  go_enter Try.func36, Try.ntmps36
  have b1 := HBX.out 1 (w.alloc (Obj.cells x.cs 54)) (Chg.refl _ _)
  have hb1 : (w.alloc (Obj.cells x.cs 54)).cell? ⟨w.heap.size, 1, none⟩ = some (.int .i64 x.rank) := b1
  clear b1
  go_wp2_with (go_at_call 65; refine HO.out.mono ?_; rintro e w1 ⟨rfl, rfl⟩)
  obtain ⟨B1, hB1, I1⟩ := in_bool x.rank 0 63
  obtain ⟨B2, hB2, I2⟩ := in_bool x.peer (-1) 63
  obtain ⟨B3, hB3, I3⟩ := in_bool x.tag (-1) 32767
  have hb2 : (w.alloc (Obj.cells x.cs 54)).cell? ⟨w.heap.size, 2, none⟩ = some (.int .i64 x.call) := HBX.out 2 _ (Chg.refl _ _)
  have hb3 : (w.alloc (Obj.cells x.cs 54)).cell? ⟨w.heap.size, 3, none⟩ = some (.int .i64 x.peer) := HBX.out 3 _ (Chg.refl _ _)
  have hb4 : (w.alloc (Obj.cells x.cs 54)).cell? ⟨w.heap.size, 4, none⟩ = some (.int .i64 x.tag) := HBX.out 4 _ (Chg.refl _ _)
  have hb5 : (w.alloc (Obj.cells x.cs 54)).cell? ⟨w.heap.size, 5, none⟩ = some (.int .i64 x.req) := HBX.out 5 _ (Chg.refl _ _)
  have HB1 := Lib.hid hB1
  have HB2 := Lib.hid hB2
  have HB3 := Lib.hid hB3
  clear hB1 hB2 hB3 c0
  generalize w.alloc (Obj.cells x.cs 54) = W0 at *
  cases B1
  · go_quiet ((go_at_call 66; first | with_reducible exact Calls.quiet_of_same (I1 _) | with_reducible exact Calls.quiet_of_same (I2 _) | with_reducible exact Calls.quiet_of_same (I3 _)))
    go_wp2
    go_ret
    exact ⟨rfl, (FIN.out _ ((Chg.refl _ _).drewN _)).2⟩
  · cases B2
    · go_quiet ((go_at_call 66; first | with_reducible exact Calls.quiet_of_same (I1 _) | with_reducible exact Calls.quiet_of_same (I2 _) | with_reducible exact Calls.quiet_of_same (I3 _)))
      go_wp2
      go_ret
      exact ⟨rfl, (FIN.out _ ((Chg.refl _ _).drewN _)).2⟩
    · cases B3
      · go_quiet ((go_at_call 66; first | with_reducible exact Calls.quiet_of_same (I1 _) | with_reducible exact Calls.quiet_of_same (I2 _) | with_reducible exact Calls.quiet_of_same (I3 _)))
        go_wp2
        go_ret
        exact ⟨rfl, (FIN.out _ ((Chg.refl _ _).drewN _)).2⟩
      · cases hB4 : decide (x.req < -1)
        · cases hB5 : decide (x.call < 0)
          · by_cases hl : ofL L x.rank = []
            · exfalso
              refine HN.out ⟨of_decide_eq_true HB1.out.symm, of_decide_eq_true HB2.out.symm, of_decide_eq_true HB3.out.symm, by simpa using hB4, by simpa using hB5, fun y hy => by rw [hl] at hy; cases hy⟩
            · obtain ⟨y, hy, hy1⟩ := last_at hl
              cases hB7 : decide (x.call ≤ y.call)
              · exfalso
                refine HN.out ⟨of_decide_eq_true HB1.out.symm, of_decide_eq_true HB2.out.symm, of_decide_eq_true HB3.out.symm, by simpa using hB4, by simpa using hB5, fun y' hy' => by rw [hy] at hy'; cases hy'; simpa using hB7⟩
              · have hpos : (0 : Int) < (n : Int) := by
                  have := List.length_pos_iff.2 hl
                  rw [HNL.out] at this
                  omega
                rw [HNL.out] at hy1
                have hn0 : 0 < n := by omega
                have hd6 : decide (0 < n) = true := by simpa using hn0
                obtain ⟨g, o, rfl, hg, e1, e2⟩ := HRD.out.at_ hy1
                have ey : W0.cell? ⟨g, o + (n - 1) * 9 + 2, none⟩ = some (.int .i64 y.call) := e2 1 (by omega)
                have hw : IntKind.i64.wrap ((n : Int) - 1) = ((n - 1 : Nat) : Int) := by
                  have hn1 : n ≤ 1000 := by rw [← HNL.out]; exact hlr
                  rw [IntWalk.i64_in _ (by omega)]
                  omega
                have hlt : n - 1 < n := by omega
                clear hy1 hl hy e1 e2

                go_quiet ((go_at_call 66; first | with_reducible exact Calls.quiet_of_same (I1 _) | with_reducible exact Calls.quiet_of_same (I2 _) | with_reducible exact Calls.quiet_of_same (I3 _)))
                go_wp2
                go_ret
                exact ⟨rfl, (FIN.out _ ((Chg.refl _ _).drewN _)).2⟩
          · go_quiet ((go_at_call 66; first | with_reducible exact Calls.quiet_of_same (I1 _) | with_reducible exact Calls.quiet_of_same (I2 _) | with_reducible exact Calls.quiet_of_same (I3 _)))
            go_wp2
            go_ret
            exact ⟨rfl, (FIN.out _ ((Chg.refl _ _).drewN _)).2⟩
        · go_quiet ((go_at_call 66; first | with_reducible exact Calls.quiet_of_same (I1 _) | with_reducible exact Calls.quiet_of_same (I2 _) | with_reducible exact Calls.quiet_of_same (I3 _)))
          go_wp2
          go_ret
          exact ⟨rfl, (FIN.out _ ((Chg.refl _ _).drewN _)).2⟩
end Go.Proofs.Ytgdpapcgghiljaa
