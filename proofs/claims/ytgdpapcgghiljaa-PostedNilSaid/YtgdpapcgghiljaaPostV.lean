/- Contract of the law's own awake: the chapter's example. -/
import Derived.Test.YtgdpapcgghiljaaPostU
set_option linter.unusedSimpArgs false
set_option linter.unusedVariables false
namespace Go.Proofs.Ytgdpapcgghiljaa
open Go.RowKit

theorem mg_any (call tag : Int) (w : World) : Calls Try.prog 45 #[.int .i64 call, .int .i64 tag] w fun e w' => e = .returned (.agg (mg call tag).cs) ∧ Chg Non w w' := message_any call tag w
theorem rc_any (call peer tag : Int) (w : World) : Calls Try.prog 46 #[.int .i64 call, .int .i64 peer, .int .i64 tag] w fun e w' => e = .returned (.agg (rc call peer tag).cs) ∧ Chg Non w w' := receive_any call peer tag w

set_option maxRecDepth 100000 in
set_option maxHeartbeats 2000000 in
theorem awake_any (w : World) : Calls Try.prog 32 #[] w fun e w' => e = .returned (.bool true) ∧ Chg Non w w' := by
  have W0 : Hid (WF 0 [] (fun _ => [])) := Lib.hid WF.zero
  have W1 : Hid (WF 1 [] (aL 1)) := Lib.hid (by have := W0.out.posted (rc 0 (-1) 5); rwa [posts0.2] at this)
  have W2 : Hid (WF 2 [] (aL 2)) := Lib.hid (by have := W1.out.posted (rc 1 1 (-1)); rwa [posts1.2] at this)
  have W3 : Hid (WF 3 [mg 0 5] (aL 2)) := Lib.hid (by have := W2.out.snd (mg 0 5); rwa [snds0] at this)
  have W4 : Hid (WF 4 [mg 0 5, mg 1 6] (aL 2)) := Lib.hid (by have := W3.out.snd (mg 1 6); rwa [snds1] at this)
  have W5 : Hid (WF 4 (matchM [mg 0 5, mg 1 6] (aL 2) 0 0 1 0) (matchR [mg 0 5, mg 1 6] (aL 2) 0 0 1 0)) := Lib.hid (W4.out.matched _ _ _ _)
  go_enter Try.func32, Try.ntmps32
  go_wp2_with fail
  refine (qnew_any w).mono ?_
  rintro e w1 ⟨q, r, a, rfl, h1, n1, c1⟩
  have H1 := Lib.hid h1
  have N1 := Lib.hid n1
  have C1 := Lib.hid c1
  clear h1 n1 c1
  go_wp2_with fail
  refine (pnew_any w1).mono ?_
  rintro e w2 ⟨p, vs, rfl, h2, hp, hv, c2⟩
  have HB := Lib.hid (Duo.start H1.out N1.out C1.out h2 hp hv c2)
  clear h2 hp hv c2 H1 N1 C1
  go_wp2_with fail
  refine (rc_any 0 (-1) 5 _).mono ?_
  rintro e w3 ⟨rfl, c3⟩
  have HB3 := Lib.hid (HB.out.non c3)
  clear c3 HB
  go_wp2_with fail
  refine (dpost HB3.out W0.out (by omega) (rc 0 (-1) 5)).mono ?_
  rintro e w4 ⟨rfl, vs4, h4⟩
  rw [posts0.1]
  rw [posts0.2] at h4
  have HB4 := Lib.hid h4
  clear h4 HB3
  go_wp2_with fail
  refine (rc_any 1 1 (-1) _).mono ?_
  rintro e w5 ⟨rfl, c5⟩
  have HB5 := Lib.hid (HB4.out.non c5)
  clear c5 HB4
  go_wp2_with fail
  refine (dpost HB5.out W1.out (by omega) (rc 1 1 (-1))).mono ?_
  rintro e w6 ⟨rfl, vs6, h6⟩
  rw [posts1.1]
  rw [posts1.2] at h6
  have HB6 := Lib.hid h6
  clear h6 HB5
  go_wp2_with fail
  refine (rc_any 1 1 1 _).mono ?_
  rintro e w7 ⟨rfl, c7⟩
  have HB7 := Lib.hid (HB6.out.non c7)
  clear c7 HB6
  go_wp2_with fail
  refine (dpost HB7.out W2.out (by omega) (rc 1 1 1)).mono ?_
  rintro e w8 ⟨rfl, vs8, h8⟩
  rw [posts2.1]
  rw [posts2.2] at h8
  have HB8 := Lib.hid h8
  clear h8 HB7
  go_wp2_with fail
  refine (mg_any 0 5 _).mono ?_
  rintro e w9 ⟨rfl, c9⟩
  have HB9 := Lib.hid (HB8.out.non c9)
  clear c9 HB8
  go_wp2_with fail
  refine (dsend HB9.out W2.out (by omega) (mg 0 5)).mono ?_
  rintro e w10 ⟨rfl, rs10, ats10, h10⟩
  rw [snds0] at h10
  have HB10 := Lib.hid h10
  clear h10 HB9
  go_wp2_with fail
  refine (mg_any 1 6 _).mono ?_
  rintro e w11 ⟨rfl, c11⟩
  have HB11 := Lib.hid (HB10.out.non c11)
  clear c11 HB10
  go_wp2_with fail
  refine (dsend HB11.out W3.out (by omega) (mg 1 6)).mono ?_
  rintro e w12 ⟨rfl, rs12, ats12, h12⟩
  rw [snds1] at h12
  have HB12 := Lib.hid h12
  clear h12 HB11
  go_wp2_with fail
  refine (dmay HB12.out W4.out (by omega) 0 0).mono ?_
  rintro e w13 ⟨v1, rfl, r1, f1, c13⟩
  rw [mays0] at r1
  have FA := Lib.hid (HB12.out.freshQ f1)
  have RA := Lib.hid r1
  have HB13 := Lib.hid (HB12.out.non c13)
  clear r1 f1 c13 HB12
  go_wp2_with fail
  refine (dmay HB13.out W4.out (by omega) 0 1).mono ?_
  rintro e w14 ⟨v2, rfl, r2, f2, c14⟩
  rw [mays1] at r2
  obtain ⟨A2, k2, rfl, _, _⟩ := r2.form
  have RA1 := Lib.hid (RA.out.kept c14 (fun _ _ e => e))
  have HB14 := Lib.hid (HB13.out.non c14)
  clear r2 f2 c14 HB13 RA
  go_wp2_with fail
  refine (rc_any 9 1 6 _).mono ?_
  rintro e w15 ⟨rfl, c15⟩
  have HB15 := Lib.hid (HB14.out.non c15)
  have RA2 := Lib.hid (RA1.out.kept c15 (fun _ _ e => e))
  clear c15 HB14 RA1
  go_wp2_with fail
  refine (dprobe HB15.out W4.out (by omega) (rc 9 1 6)).mono ?_
  rintro e w16 ⟨v3, rfl, r3, f3, c16⟩
  rw [prob1] at r3
  obtain ⟨A3, k3, rfl, _, _⟩ := r3.form
  have RA3 := Lib.hid (RA2.out.kept c16 (fun _ _ e => e))
  have HB16 := Lib.hid (HB15.out.non c16)
  clear r3 f3 c16 HB15 RA2
  go_wp2_with fail
  refine (dmatch_no HB16.out W4.out (by omega) 0 1 1 1 mat0).mono ?_
  rintro e w17 ⟨rfl, c17⟩
  have RA4 := Lib.hid (RA3.out.kept c17 (fun _ _ e => e))
  have HB17 := Lib.hid (HB16.out.non c17)
  clear c17 HB16 RA3
  go_wp2_with fail
  refine (dmatch HB17.out W4.out (by omega) 0 0 1 0).mono ?_
  rintro e w18 ⟨rfl, h18, c18⟩
  rw [mat1, if_pos rfl]
  have RA5 := Lib.hid (RA4.out.kept c18 FA.out)
  have HB18 := Lib.hid h18
  clear c18 h18 HB17 RA4 FA
  go_wp2_with fail
  refine (dmay HB18.out W5.out (by omega) 0 1).mono ?_
  rintro e w19 ⟨v4, rfl, r4, f4, c19⟩
  rw [mays2] at r4
  have HB19 := Lib.hid (HB18.out.non c19)
  obtain ⟨A1, k1, rfl, d1, _⟩ := (RA5.out.kept c19 (fun _ _ e => e)).form
  obtain ⟨A4, k4, rfl, d4, _⟩ := r4.form
  obtain ⟨g1, o1, rfl, _, _, e1⟩ := d1.at_ (i := 0) rfl
  obtain ⟨g4, o4, rfl, _, _, e4⟩ := d4.at_ (i := 0) rfl
  have x1 : w19.cell? ⟨g1, o1 + 3, none⟩ = some (.int .i64 0) := e1 2 (by omega)
  have x4 : w19.cell? ⟨g4, o4 + 3, none⟩ = some (.int .i64 1) := e4 2 (by omega)
  clear r4 f4 c19 HB18 RA5 d1 d4 e1 e4
  go_wp2_with fail
  refine (dwait HB19.out W5.out (by omega) 0).mono ?_
  rintro e w20 ⟨v5, rfl, r5, f5, c20⟩
  rw [waits2] at r5
  obtain ⟨A5, k5, rfl, _, _⟩ := r5.form
  have HB20 := Lib.hid (HB19.out.chg.non c20)
  clear r5 f5 c20
  go_wp2
  go_ret
  exact ⟨rfl, HB20.out⟩
end Go.Proofs.Ytgdpapcgghiljaa
