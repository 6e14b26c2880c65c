/- The walk of the law PostedOne: over acts that read as l it returns true and changes no block that was there. -/
import Derived.Test.YtgdpapcgghiljaaProbes
set_option linter.unusedSimpArgs false
set_option linter.unusedVariables false
namespace Go.Proofs.Ytgdpapcgghiljaa
open Go.RowKit

theorem take_snoc_flat {α β : Type} (f : α → List β) (l : List α) (k : Nat) (x : α) (hx : l[k]? = some x) : (l.take (k + 1)).flatMap f = (l.take k).flatMap f ++ f x := by
  rw [List.take_add_one, hx, List.flatMap_append]
  simp

theorem flat_le {α β : Type} (f : α → List β) (l : List α) (n : Nat) (h : ∀ x, (f x).length ≤ n) : (l.flatMap f).length ≤ l.length * n := by
  induction l with
  | nil => simp
  | cons x l ih =>
    have := h x
    simp only [List.flatMap_cons, List.length_append, List.length_cons, Nat.succ_mul]
    omega

theorem gathereds {w wr w1 W : World} {v : Value} {A : Option Addr} {n c : Nat} (hf : Fresh w v) (hc : Chg Non w wr) (hw : Chg Non wr W) (q2 : Chg (fun b => v.ownBlock = some b) W w1) (q3 : (Value.slice A n c).ownBlock = v.ownBlock ∨ (Value.slice A n c).ownBlock = some W.heap.size) :
    Fresh w (.slice A n c) ∧ Chg Non w w1 := by
  have h0 := hc.non hw
  refine ⟨fun g hg => ?_, h0.trans q2 (fun b hb e => by have := hf b e; omega)⟩
  rcases q3 with q | q
  · exact hf g (by rw [← q]; exact hg)
  · rw [q] at hg
    have := h0.size
    cases hg
    exact this

theorem fits_yes (x : Rcv) (y : Msg) (h : fitsB x y = true) (w : World) : Calls Try.prog 40 #[.agg x.cs, .agg y.cs] w fun e w' => e = .returned (.bool true) ∧ Chg Non w w' := by
  have := pfits_any x y w
  rwa [h] at this

theorem wait_mem {k : Nat} {ms : List Msg} {L : Nat → List Rcv} (h : WF k ms L) {rank : Int} {x : Rcv} (hx : x ∈ (ofL L rank).filter waitB) {m : Msg} (hm : m ∈ mayL ms L x.rank x.call) : m.taken = false ∧ fitsB x m = true := by
  have h1 := (List.mem_filter.1 hx).1
  rw [rank_of h h1] at hm
  obtain ⟨i, hi, rfl⟩ := List.mem_iff_getElem.1 h1
  have := may_fits h (List.getElem?_eq_getElem hi) hm
  exact ⟨this.2.1, this.2.2.1⟩

set_option maxRecDepth 100000 in
set_option maxHeartbeats 2000000 in
theorem one_any (A : Option Addr) (cp : Nat) (l : List Deed2) (rk : Int) (w : World) (h : RdP w A l) :
    Calls Try.prog 6 #[.slice A l.length cp, .int .u8 rk] w fun e w' => e = .returned (.bool true) ∧ Chg Non w w' := by
  have hG := fun W hc => pgreat_any A cp l W (h.non hc)
  have HG := Lib.hid hG
  clear hG
  go_enter Try.func6, Try.ntmps6
  go_wp2_with fail
  refine (awake_any w).mono ?_
  rintro e w1 ⟨rfl, c1⟩
  have C1 := Lib.hid c1
  clear c1
  go_wp2_with fail
  refine (HG.out w1 C1.out).mono ?_
  rintro e w1' ⟨rfl, rfl⟩
  cases hg : pgreat l
  · have hlen := pgreat_len hg
    go_wp2_with fail
    refine (made_any A cp l w1 (h.non C1.out) hlen).mono ?_
    rintro e w2 ⟨q, r, a, rs, ats, p, vs, rfl, hd⟩
    have hW := (playWF l).mono hlen
    have hd1 := hd.rebase C1.out
    generalize playS l = st at hd1 hW
    obtain ⟨ms, L⟩ := st
    simp only at hd1 hW
    have HD := Lib.hid hd1
    have HW := Lib.hid hW
    clear hd hd1 hW hg
    go_wp2_with fail
    refine (dwait HD.out HW.out (by omega) (wrap64 (rk.tmod 64))).mono ?_
    rintro e w3 ⟨v3, rfl, r3, f3, c3⟩
    generalize wrap64 (rk.tmod 64) = rank at r3
    have HT := Lib.hid (fun x hx m hm => @wait_mem _ _ _ HW.out rank x hx m hm)
    have HO := Lib.hid (all_once HW.out rank)
    have hX : ((ofL L rank).filter waitB).length ≤ 120 := Nat.le_trans (List.length_filter_le _ _) (HW.out.of _)
    obtain ⟨A3, k3, rfl, d3, _⟩ := r3.form
    generalize (ofL L rank).filter waitB = X at d3 HT HO hX ⊢
    have HD3 := Lib.hid (HD.out.non c3)
    have D3 := Lib.hid d3
    clear r3 f3 c3 d3 HD HG
    have hfl : ∀ k, ((X.take k).flatMap fun x => mayL ms L x.rank x.call).length ≤ 7680 := fun k => by
      have h1 := flat_le (fun x => mayL ms L x.rank x.call) (X.take k) 64 (fun x => may_len)
      have h2 : (X.take k).length ≤ 120 := by rw [List.length_take]; omega
      omega
    obtain ⟨F, hF⟩ : ∃ F : Nat → List Msg, F = fun k => (X.take k).flatMap fun x => mayL ms L x.rank x.call := ⟨_, rfl⟩
    have F0 : Hid (F 0 = []) := Lib.hid (by rw [hF]; rfl)
    have FS : Hid (∀ k x, X[k]? = some x → F (k + 1) = F k ++ mayL ms L x.rank x.call) := Lib.hid (by rw [hF]; exact fun k x hx => take_snoc_flat (fun x => mayL ms L x.rank x.call) X k x hx)
    have FE : Hid ((F X.length).Pairwise (fun a b => a.sent ≠ b.sent)) := Lib.hid (by rw [hF]; simp only [List.take_length]; exact HO.out)
    have HFL : Hid (∀ k, (F k).length ≤ 7680) := Lib.hid (by rw [hF]; exact hfl)
    have HLX := Lib.hid hX
    clear hfl hF HO
    go_wp2_with fail
    go_loopw [7, 9] (fun all i wr => ∃ k : Nat, i = .int .i64 k ∧ k ≤ X.length ∧ Row wr all (F k) ∧ Fresh w3 all ∧ Chg Non w3 wr) (fun _ i _ => X.length - (intOf i).toNat)
    case atStart => exact ⟨0, rfl, by omega, by rw [F0.out]; exact Row.nil w3, Fresh.nil w3, Chg.refl _ _⟩
    case round =>
      obtain ⟨k, rfl, hk, hrow, hfr, hc⟩ := hrel
      have HR := Lib.hid hrow
      have HF := Lib.hid hfr
      have HC := Lib.hid hc
      clear hrow hfr hc
      by_cases hlt : k < X.length
      · obtain ⟨x, hx⟩ : ∃ x, X[k]? = some x := ⟨X[k], List.getElem?_eq_getElem hlt⟩
        obtain ⟨g, o, rfl, hg, e1, e2⟩ := (D3.out.non HC.out).at_ hx
        have HX := Lib.hid hx
        have HE := Lib.hid (show AtR wr g (o + k * 9) x from ⟨e1, e2⟩)
        have t1 : ∀ W, Chg Non wr W → W.cell? ⟨g, o + k * 9 + 1, none⟩ = some (.int .i64 x.rank) := fun W hc => (hc.cell hg (fun e => e)).trans (e2 0 (by omega))
        have t2 : ∀ W, Chg Non wr W → W.cell? ⟨g, o + k * 9 + 2, none⟩ = some (.int .i64 x.call) := fun W hc => (hc.cell hg (fun e => e)).trans (e2 1 (by omega))
        clear e1 e2 hx
        go_wp2_with fail
        go_region_held3 (fun W => Chg Non wr W) ((repeat (first | assumption | exact Chg.refl _ _ | refine Chg.drew ?_ | refine Chg.alloc ?_ _)))
          ((go_at_call 37
            refine (dmay (HD3.out.non (HC.out.non (by assumption))) HW.out (by omega) _ _).mono ?_
            rintro e w4 ⟨v4, rfl, r4, f4, c4⟩
            have z4 := Chg.non (S := Non) (by assumption) c4))
        all_goals
          obtain ⟨A4, k4, rfl, d4, _⟩ := r4.form
          have hmx := HT.out x (List.mem_of_getElem? HX.out)
          have hrise := may_rise ms L x.rank x.call
          have hln := @may_len ms L x.rank x.call
          have HS := Lib.hid (FS.out k x HX.out)
          generalize mayL ms L x.rank x.call = Y at d4 hmx hrise hln HS ⊢
          have HMX := Lib.hid hmx
          have HRI := Lib.hid hrise
          have D4 := Lib.hid d4
          have HC4 : Hid (Chg Non wr w4) := Lib.hid (by assumption)
          clear d4 hmx hrise r4 f4 t1 t2
          go_wp2_with fail
          go_loopw [11] (fun j wq => ∃ m : Nat, j = .int .i64 m ∧ m ≤ Y.length ∧ Chg Non w4 wq) (fun j _ => Y.length - (intOf j).toNat)
          case atStart => exact ⟨0, rfl, by omega, Chg.refl _ _⟩
          case round =>
            obtain ⟨m, rfl, hm, hcq⟩ := hrel
            have HQ := Lib.hid hcq
            clear hcq
            by_cases hlt2 : m < Y.length
            · obtain ⟨y, hy⟩ : ∃ y, Y[m]? = some y := ⟨Y[m], List.getElem?_eq_getElem hlt2⟩
              obtain ⟨g', o', rfl, hg', y1, y2⟩ := (D4.out.non HQ.out).at_ hy
              obtain ⟨htk, hfit⟩ := HMX.out y (List.mem_of_getElem? hy)
              obtain ⟨yk, yf, yd, yc, yt, yv, yz, yb⟩ := y
              obtain rfl : yb = false := htk
              have HY := Lib.hid hy
              have hgq : g < wr.heap.size := Nat.lt_of_lt_of_le hg (HC4.out.non HQ.out).size
              have x0 : ∀ W, Chg Non wr W → W.cell? ⟨g, o + k * 9, none⟩ = some (.string x.key) := fun W hc => (((HC4.out.non HQ.out).non hc).cell hg (fun e => e)).trans HE.out.1
              have x1 : ∀ W, Chg Non wr W → ∀ j, j < 8 → W.cell? ⟨g, o + k * 9 + (j + 1), none⟩ = x.cs[j + 1]? := fun W hc j hj => (((HC4.out.non HQ.out).non hc).cell hg (fun e => e)).trans (HE.out.2 j hj)
              have s0 : ∀ W, Chg Non wr W → W.cell? ⟨g', o' + m * 8, none⟩ = some (.string yk) := fun W hc => (hc.cell hg' (fun e => e)).trans y1
              have s1 : ∀ W, Chg Non wr W → ∀ j, j < 7 → W.cell? ⟨g', o' + m * 8 + (j + 1), none⟩ = (Msg.mk yk yf yd yc yt yv yz false).cs[j + 1]? := fun W hc j hj => (hc.cell hg' (fun e => e)).trans (y2 j hj)
              clear y1 y2 hy
              have HFI := Lib.hid hfit
              clear hfit
              by_cases hm0 : 0 < m
              · have hd0 : decide (0 < m) = true := decide_eq_true hm0
                obtain ⟨z, hz⟩ : ∃ z, Y[m - 1]? = some z := ⟨Y[m - 1], List.getElem?_eq_getElem (by omega)⟩
                obtain ⟨g2, o2, e2, _, zz1, zz2⟩ := (D4.out.non HQ.out).at_ hz
                simp only [Option.some.injEq, Addr.mk.injEq] at e2
                obtain ⟨e2, e3, _⟩ := e2
                subst e2 e3
                have p1 : ∀ W, Chg Non wr W → W.cell? ⟨g', o' + (m - 1) * 8 + 1, none⟩ = some (.int .i64 z.frm) := fun W hc => (hc.cell hg' (fun e => e)).trans (zz2 0 (by omega))
                have hlt3 : ¬ yf ≤ z.frm := by
                  have h1 := List.pairwise_iff_getElem.1 HRI.out (m - 1) m (by omega) hlt2 (by omega)
                  rw [(List.getElem?_eq_some_iff.1 hz).2, (List.getElem?_eq_some_iff.1 HY.out).2] at h1
                  simp only at h1
                  omega
                have hw1 : IntKind.i64.wrap ((m : Int) - 1) = ((m - 1 : Nat) : Int) := by rw [IntWalk.i64_in _ (by omega)]; omega
                have hdl : decide (yf ≤ z.frm) = false := decide_eq_false hlt3
                have hm1 : m - 1 < Y.length := by omega
                clear zz1 zz2 hz
                go_wp2_with fail
                refine region_calm (by kernel_rfl) (by kernel_rfl) ?_
                repeat (go_big_quiet_step ((go_at_call 40; exact calls_calm (fits_yes x ⟨yk, yf, yd, yc, yt, yv, yz, false⟩ HFI.out _))))
                refine wpQuiet_nil ?_
                rintro _ ⟨z6, rfl⟩
                go_wp2
                go_roundw
                case rel => exact ⟨m + 1, by go_num, by omega, HQ.out.non z6.chg⟩
                case measure => simp [intOf]; omega
              · have hd0 : decide (0 < m) = false := decide_eq_false hm0
                go_wp2_with fail
                refine region_calm (by kernel_rfl) (by kernel_rfl) ?_
                repeat (go_big_quiet_step ((go_at_call 40; exact calls_calm (fits_yes x ⟨yk, yf, yd, yc, yt, yv, yz, false⟩ HFI.out _))))
                refine wpQuiet_nil ?_
                rintro _ ⟨z6, rfl⟩
                all_goals
                  go_wp2
                  go_roundw
                  case rel => exact ⟨m + 1, by go_num, by omega, HQ.out.non z6.chg⟩
                  case measure => simp [intOf]; omega
            · obtain rfl : m = Y.length := by omega
              have HCW := Lib.hid (HC4.out.non HQ.out)
              have HRW := Lib.hid (HR.out.kept HCW.out (fun _ _ e => e))
              have D5 := Lib.hid (D4.out.non HQ.out)
              have h1 := HFL.out k
              go_wp2_with (at_builtin; refine wpList_appendMs rfl _ _ rfl u7 _ rfl HRW.out A4 k4 _ Y rfl rfl D5.out (by omega) ?_; intro A6 k6 w6 q1 q2 q3)
              have hgt := gathereds HF.out HC.out HCW.out q2 q3
              go_roundw
              case rel => exact ⟨k + 1, by go_num, by omega, by rw [HS.out]; exact q1, hgt.1, hgt.2⟩
              case measure => simp [intOf]; omega
      · obtain rfl : k = X.length := by omega
        have hrow := HR.out
        have hle := HFL.out X.length
        have hone := FE.out
        generalize F X.length = Z at hrow hle hone
        obtain ⟨A7, k7, hu7, d7, _⟩ := hrow.form
        subst hu7
        have D7 := Lib.hid d7
        have HZ := Lib.hid hone
        have HCE := Lib.hid (HD3.out.chg.non HC.out)
        clear hrow d7 hone
        go_wp2_with fail
        go_loopw [12] (fun i wq => ∃ k : Nat, i = .int .i64 k ∧ k ≤ Z.length ∧ Chg Non wr wq) (fun i _ => Z.length - (intOf i).toNat)
        case atStart => exact ⟨0, rfl, by omega, Chg.refl _ _⟩
        case round =>
          obtain ⟨i, rfl, hi, hci⟩ := hrel
          have HI := Lib.hid hci
          clear hci
          by_cases hlt3 : i < Z.length
          · go_wp2_with fail
            go_loopw [13] (fun j wq => ∃ k : Nat, j = .int .i64 k ∧ k ≤ i ∧ Chg Non wr wq) (fun j _ => i - (intOf j).toNat)
            case atStart => exact ⟨0, rfl, by omega, Chg.refl _ _⟩
            case round =>
              obtain ⟨j, rfl, hj, hcj⟩ := hrel
              have HJ := Lib.hid hcj
              clear hcj
              by_cases hlt4 : j < i
              · obtain ⟨x, hx⟩ : ∃ x, Z[i]? = some x := ⟨Z[i], List.getElem?_eq_getElem hlt3⟩
                obtain ⟨y, hy⟩ : ∃ y, Z[j]? = some y := ⟨Z[j], List.getElem?_eq_getElem (by omega)⟩
                have hd := (D7.out.non HI.out).non HJ.out
                obtain ⟨g, o, rfl, hg, _, e1⟩ := hd.at_ hx
                obtain ⟨g2, o2, e2, _, _, e3⟩ := hd.at_ hy
                simp only [Option.some.injEq, Addr.mk.injEq] at e2
                obtain ⟨e2, e4, _⟩ := e2
                subst e2 e4
                have hne : x.sent ≠ y.sent := by
                  have h1 := List.pairwise_iff_getElem.1 HZ.out j i (by omega) hlt3 hlt4
                  rw [(List.getElem?_eq_some_iff.1 hx).2, (List.getElem?_eq_some_iff.1 hy).2] at h1
                  exact fun e => h1 e.symm
                have x1 : wr.cell? ⟨g, o + i * 8 + 1, none⟩ = some (.int .i64 x.frm) := e1 0 (by omega)
                have x3 : wr.cell? ⟨g, o + i * 8 + 3, none⟩ = some (.int .i64 x.call) := e1 2 (by omega)
                have y1 : wr.cell? ⟨g, o + j * 8 + 1, none⟩ = some (.int .i64 y.frm) := e3 0 (by omega)
                have y3 : wr.cell? ⟨g, o + j * 8 + 3, none⟩ = some (.int .i64 y.call) := e3 2 (by omega)
                have hjZ : j < Z.length := by omega
                clear e1 e3 hx hy hd
                by_cases hf : x.frm = y.frm
                · have hc : (x.call == y.call) = false := by
                    rw [beq_eq_false_iff_ne]
                    intro e
                    exact hne (by simp [Msg.sent, hf, e])
                  have hf2 : (x.frm == y.frm) = true := by simpa using hf
                  clear hne hf
                  go_wp2_with fail
                  go_quiet (fail)
                  go_wp2
                  go_roundw
                  case rel => exact ⟨j + 1, by go_num, by omega, HJ.out.drewN _⟩
                  case measure => simp [intOf]; omega
                · have hf2 : (x.frm == y.frm) = false := by simpa using hf
                  clear hne hf
                  go_wp2_with fail
                  go_quiet (fail)
                  go_wp2
                  go_roundw
                  case rel => exact ⟨j + 1, by go_num, by omega, HJ.out.drewN _⟩
                  case measure => simp [intOf]; omega
              · obtain rfl : j = i := by omega
                go_wp2
                go_roundw
                case rel => exact ⟨j + 1, by go_num, by omega, HI.out.non HJ.out⟩
                case measure => simp [intOf]; omega
          · obtain rfl : i = Z.length := by omega
            go_wp2
            go_ret
            exact ⟨rfl, HCE.out.non HI.out⟩
  · go_wp2
    go_ret
    exact ⟨rfl, C1.out⟩
end Go.Proofs.Ytgdpapcgghiljaa
