/- The walk of the law PostedOvertakes: over bytes that read as l it returns true and changes no block that was there. -/
import Derived.Test.YtgdpapcgghiljaaOverA
set_option linter.unusedSimpArgs false
set_option linter.unusedVariables false
namespace Go.Proofs.Ytgdpapcgghiljaa
open Go.RowKit

/-- The slice at A reads as the bytes l. -/
def RdB (w : World) (A : Option Addr) (l : List Int) : Prop := l = [] ∨ ∃ g o, A = some ⟨g, o, none⟩ ∧ g < w.heap.size ∧ ∀ (i : Nat) (z : Int), l[i]? = some z → w.cell? ⟨g, o + i, none⟩ = some (.int .u8 z)
theorem RdB.at_ {w w' : World} {A : Option Addr} {l : List Int} (h : RdB w A l) (hc : Chg Non w w') {i : Nat} {z : Int} (hi : l[i]? = some z) : ∃ g o, A = some ⟨g, o, none⟩ ∧ g < w'.heap.size ∧ w'.cell? ⟨g, o + i, none⟩ = some (.int .u8 z) := by
  rcases h with rfl | ⟨g, o, rfl, hg, hat⟩
  · simp at hi
  · exact ⟨g, o, rfl, Nat.lt_of_lt_of_le hg hc.size, (hc.cell hg (fun e => e)).trans (hat i z hi)⟩

/-- What stays between the steps. -/
structure Ov (w0 w : World) (q p n s dn : Nat) (pe : List Int) : Prop where
  has : ∃ S, Has w0 w q p S (msgsO s dn) (LO pe dn)
  wf : WF n (msgsO s dn) (LO pe dn)
  sum : s + pe.length ≤ n
  d1 : dn ≤ s
  d2 : dn ≤ pe.length
  peers : ∀ p ∈ pe, p = -1 ∨ p = 1

theorem Ov.non {w0 w w' : World} {q p n s dn : Nat} {pe : List Int} (h : Ov w0 w q p n s dn pe) (c : Chg Non w w') : Ov w0 w' q p n s dn pe := by
  obtain ⟨S, hS⟩ := h.has
  exact ⟨⟨S, hS.non c⟩, h.wf, h.sum, h.d1, h.d2, h.peers⟩
theorem Ov.chg {w0 w : World} {q p n s dn : Nat} {pe : List Int} (h : Ov w0 w q p n s dn pe) : Chg Non w0 w := by
  obtain ⟨S, hS⟩ := h.has
  exact hS.chg

theorem ov_send {w0 w : World} {q p n s dn : Nat} {pe : List Int} (h : Ov w0 w q p n s dn pe) (hn : n ≤ 100) :
    Calls Try.prog 13 #[.pointer (some ⟨q, 0, none⟩), .agg (mg s 5).cs] w fun e w' => e = .returned (.int .i64 0) ∧ Ov w0 w' q p (n + 1) (s + 1) dn pe := by
  obtain ⟨S, hS⟩ := h.has
  obtain ⟨h1, h2⟩ := sendO h.d1
  refine (hsend hS h.wf (by omega) (mg s 5)).mono ?_
  rintro e w' ⟨rfl, S', h3⟩
  rw [h2] at h3
  have hw := h.wf.snd (mg s 5)
  rw [h2] at hw
  exact ⟨by rw [h1], ⟨S', h3⟩, hw, by have := h.sum; omega, by have := h.d1; omega, h.d2, h.peers⟩

theorem ov_post {w0 w : World} {q p n s dn : Nat} {pe : List Int} (h : Ov w0 w q p n s dn pe) (hn : n ≤ 100) {x : Int} (hx : x = -1 ∨ x = 1) :
    Calls Try.prog 36 #[.pointer (some ⟨p, 0, none⟩), .agg (rc pe.length x (-1)).cs] w fun e w' => e = .returned (.int .i64 0) ∧ Ov w0 w' q p (n + 1) s dn (pe ++ [x]) := by
  obtain ⟨S, hS⟩ := h.has
  obtain ⟨h1, h2⟩ := postO h.d2 hx
  refine (hpost hS h.wf (by omega) (rc pe.length x (-1))).mono ?_
  rintro e w' ⟨rfl, S', h3⟩
  rw [h2] at h3
  have hw := h.wf.posted (rc pe.length x (-1))
  rw [h2] at hw
  refine ⟨by rw [h1], ⟨S', h3⟩, hw, by have := h.sum; simp; omega, h.d1, by have := h.d2; simp; omega, fun y hy => ?_⟩
  rcases List.mem_append.1 hy with hy | hy
  · exact h.peers y hy
  · simp at hy; subst hy; exact hx

theorem ov_may {w0 w : World} {q p n s dn : Nat} {pe : List Int} (h : Ov w0 w q p n s dn pe) (hn : n ≤ 100) {k : Nat} (hk : k < pe.length) (hd : k < dn ∨ dn = min k s) :
    Calls Try.prog 37 #[.pointer (some ⟨p, 0, none⟩), .pointer (some ⟨q, 0, none⟩), .int .i64 0, .int .i64 k] w fun e w' => ∃ v', e = .returned v' ∧ Row w' v' (if ¬ k < dn ∧ k < s then [mg k 5] else []) ∧ Chg Non w w' := by
  obtain ⟨S, hS⟩ := h.has
  refine (hmay hS h.wf (by omega) 0 k).mono ?_
  rintro e w' ⟨v', rfl, h1, h2, h3⟩
  rw [mayO h.wf h.peers hk hd] at h1
  exact ⟨v', rfl, h1, h3⟩

theorem ov_match {w0 w : World} {q p n s k : Nat} {pe : List Int} (h : Ov w0 w q p n s k pe) (hn : n ≤ 100) (hk : k < pe.length) (hs : k < s) :
    Calls Try.prog 38 #[.pointer (some ⟨p, 0, none⟩), .pointer (some ⟨q, 0, none⟩), .int .i64 0, .int .i64 k, .int .i64 1, .int .i64 k] w fun e w' => e = .returned (.int .i64 0) ∧ Ov w0 w' q p n s (k + 1) pe := by
  obtain ⟨S, hS⟩ := h.has
  obtain ⟨h1, h2, h3⟩ := matchO h.wf h.peers hk hs
  refine (hmatch_yes hS h.wf (by omega) 0 k 1 k h1).mono ?_
  rintro e w' ⟨rfl, h4⟩
  rw [h2, h3] at h4
  have hw := h.wf.matched 0 k 1 k
  rw [h2, h3] at hw
  exact ⟨rfl, ⟨S, h4⟩, hw, h.sum, by omega, by omega, h.peers⟩

theorem ov_at {w0 w : World} {q p n s dn : Nat} {pe : List Int} (h : Ov w0 w q p n s dn pe) (hn : n ≤ 100) {k : Nat} (hk : k < pe.length) :
    Calls Try.prog 42 #[.pointer (some ⟨p, 0, none⟩), .int .i64 0, .int .i64 k] w fun e w' => e = .returned (.tuple #[.agg (rcvO pe dn k).cs, .bool true]) ∧ Chg Non w w' := by
  obtain ⟨S, hS⟩ := h.has
  have hx : (ofL (LO pe dn) 0)[k]? = some (rcvO pe dn k) := by rw [ofO]; exact rcvsO_get hk
  have hf := find_call (calls_of h.wf 0) hx
  rw [(rcvO_is pe dn k).2.1] at hf
  exact hat hS h.wf (by omega) 0 k k _ hf hx

theorem ov_start {w0 w1 w2 : World} {q r a p : Nat} {vs : List Value} (h : Duo w0 w2 q r a [] [] p vs [] (fun _ => [])) : Ov w0 w2 q p 0 0 0 [] := by
  have e : (fun _ => []) = LO [] 0 := by funext j; unfold LO rcvsO; simp
  refine ⟨⟨_, r, a, [], [], vs, by rw [← e]; exact h, rfl⟩, by rw [← e]; exact WF.zero, by simp, by simp, by simp, by simp⟩

set_option maxRecDepth 100000 in
set_option maxHeartbeats 8000000 in
theorem over_any (A : Option Addr) (cp : Nat) (l : List Int) (w : World) (h : RdB w A l) :
    Calls Try.prog 8 #[.slice A l.length cp] w fun e w' => e = .returned (.bool true) ∧ Chg Non w w' := by
  have HL := Lib.hid h
  clear h
  go_enter Try.func8, Try.ntmps8
  go_wp2_with fail
  refine (awake_any w).mono ?_
  rintro e w1 ⟨rfl, c1⟩
  have C1 := Lib.hid c1
  clear c1
  by_cases hlen : 60 < l.length
  · go_wp2_with fail
    go_ret
    exact ⟨rfl, C1.out⟩
  · have hdl : decide ((60 : Int) < l.length) = false := decide_eq_false (by omega)
    go_wp2_with fail
    refine (qnew_any w1).mono ?_
    rintro e w2 ⟨q, r, a, rfl, h1, n1, c2⟩
    have H1 := Lib.hid h1
    have N1 := Lib.hid n1
    have C2 := Lib.hid c2
    clear h1 n1 c2
    go_wp2_with fail
    refine (pnew_any w2).mono ?_
    rintro e w3 ⟨p, vs, rfl, h2, hp, hv, c3⟩
    have HO := Lib.hid (@ov_start w w3 w3 q r a p vs ((Duo.start H1.out N1.out C2.out h2 hp hv c3).rebase C1.out))
    clear h2 hp hv c3 H1 N1 C2
    go_wp2_with fail
    go_loopw [5, 6, 7] (fun a b i wr => ∃ (n s dn : Nat) (pe : List Int), a = .int .i64 s ∧ b = .int .i64 pe.length ∧ i = .int .i64 n ∧ n ≤ l.length ∧ Ov w wr q p n s dn pe) (fun _ _ i _ => l.length - (intOf i).toNat)
    case atStart => exact ⟨0, 0, 0, [], rfl, rfl, rfl, by omega, HO.out⟩
    case round =>
      obtain ⟨n, s, dn, pe, rfl, rfl, rfl, hn, hov⟩ := hrel
      have OV := Lib.hid hov
      have hsum := hov.sum
      have hd1 := hov.d1
      have hd2 := hov.d2
      clear hov
      by_cases hlt : n < l.length
      · obtain ⟨z, hz⟩ : ∃ z, l[n]? = some z := ⟨l[n], List.getElem?_eq_getElem hlt⟩
        obtain ⟨g, o, rfl, hg, e1⟩ := HL.out.at_ OV.out.chg hz
        clear hz
        by_cases h0 : z.tmod 4 = 0
        · go_wp2_with fail
          refine (mg_any s 5 _).mono ?_
          rintro e w4 ⟨rfl, c4⟩
          have OV4 := Lib.hid (OV.out.non c4)
          clear c4
          go_wp2_with fail
          refine (ov_send OV4.out (by omega)).mono ?_
          rintro e w5 ⟨rfl, h5⟩
          have OV5 := Lib.hid h5
          clear h5
          go_wp2_with fail
          go_roundw
          case rel => exact ⟨n + 1, s + 1, dn, pe, by go_num, rfl, by go_num, by omega, OV5.out⟩
          case measure => simp [intOf]; omega
        · by_cases h1 : z.tmod 4 = 1
          · go_wp2_with fail
            refine (rc_any pe.length (-1) (-1) _).mono ?_
            rintro e w4 ⟨rfl, c4⟩
            have OV4 := Lib.hid (OV.out.non c4)
            clear c4
            go_wp2_with fail
            refine (ov_post OV4.out (by omega) (.inl rfl)).mono ?_
            rintro e w5 ⟨rfl, h5⟩
            have OV5 := Lib.hid h5
            clear h5
            go_wp2_with fail
            go_roundw
            case rel => exact ⟨n + 1, s, dn, pe ++ [-1], rfl, by simp, by go_num, by omega, OV5.out⟩
            case measure => simp [intOf]; omega
          · by_cases h2 : z.tmod 4 = 2
            · go_wp2_with fail
              refine (rc_any pe.length 1 (-1) _).mono ?_
              rintro e w4 ⟨rfl, c4⟩
              have OV4 := Lib.hid (OV.out.non c4)
              clear c4
              go_wp2_with fail
              refine (ov_post OV4.out (by omega) (.inr rfl)).mono ?_
              rintro e w5 ⟨rfl, h5⟩
              have OV5 := Lib.hid h5
              clear h5
              go_wp2_with fail
              go_roundw
              case rel => exact ⟨n + 1, s, dn, pe ++ [1], rfl, by simp, by go_num, by omega, OV5.out⟩
              case measure => simp [intOf]; omega
            · generalize hG : pe.length = G at hsum hd2 ⊢
              have HG := Lib.hid hG
              clear hG
              have z0 : (z.tmod 4 == 0) = false := by simpa using h0
              have z1 : (z.tmod 4 == 1) = false := by simpa using h1
              have z2 : (z.tmod 4 == 2) = false := by simpa using h2
              go_wp2_with fail
              go_loopw [9] (fun j wq => ∃ k : Nat, j = .int .i64 k ∧ k ≤ G ∧ Ov w wq q p n s (max dn (min k s)) pe) (fun j _ => G - (intOf j).toNat)
              case atStart => exact ⟨0, rfl, by omega, by rw [Nat.zero_min, Nat.max_zero]; exact OV.out⟩
              case round =>
                obtain ⟨k, rfl, hk, hov⟩ := hrel
                have OVk := Lib.hid hov
                clear hov
                by_cases hlt2 : k < G
                · by_cases hc : dn ≤ k ∧ k < s
                  · have OVm : Hid (Ov w wr q p n s k pe) := Lib.hid (by have := OVk.out; rwa [show max dn (min k s) = k by omega] at this)
                    have hmay := ov_may OVm.out (by omega) (k := k) (by rw [HG.out]; exact hlt2) (.inr (by omega))
                    rw [if_pos ⟨by omega, hc.2⟩] at hmay
                    have HM := Lib.hid hmay
                    clear hmay
                    go_wp2_with fail
                    refine HM.out.mono ?_
                    rintro e w4 ⟨v4, rfl, r4, c4⟩
                    obtain ⟨A4, k4, rfl, d4, _⟩ := r4.form
                    obtain ⟨g4, o4, rfl, _, _, e4⟩ := d4.at_ (i := 0) rfl
                    have x4 : w4.cell? ⟨g4, o4 + 3, none⟩ = some (.int .i64 k) := e4 2 (by omega)
                    have OV4 := Lib.hid (OVm.out.non c4)
                    clear r4 d4 e4 c4
                    go_wp2_with fail
                    refine (ov_match OV4.out (by omega) (by rw [HG.out]; exact hlt2) hc.2).mono ?_
                    rintro e w5 ⟨rfl, h5⟩
                    have OV5 := Lib.hid h5
                    clear h5
                    go_wp2_with fail
                    go_roundw
                    case rel => exact ⟨k + 1, by go_num, by omega, by rw [show max dn (min (k + 1) s) = k + 1 by omega]; exact OV5.out⟩
                    case measure => simp [intOf]; omega
                  · have hmay := ov_may OVk.out (by omega) (k := k) (by rw [HG.out]; exact hlt2) (by omega)
                    rw [if_neg (by omega)] at hmay
                    have HM := Lib.hid hmay
                    clear hmay
                    go_wp2_with fail
                    refine HM.out.mono ?_
                    rintro e w4 ⟨v4, rfl, r4, c4⟩
                    obtain ⟨A4, k4, rfl, d4, _⟩ := r4.form
                    have OV4 := Lib.hid (OVk.out.non c4)
                    clear r4 d4 c4
                    go_wp2_with fail
                    go_roundw
                    case rel => exact ⟨k + 1, by go_num, by omega, by rw [show max dn (min (k + 1) s) = max dn (min k s) by omega]; exact OV4.out⟩
                    case measure => simp [intOf]; omega
                · obtain rfl : k = G := by omega
                  have OVe : Hid (Ov w wr q p n s (min k s) pe) := Lib.hid (by have := OVk.out; rwa [show max dn (min k s) = min k s by omega] at this)
                  go_wp2_with fail
                  go_loopw [11] (fun j wq => ∃ m : Nat, j = .int .i64 m ∧ m ≤ k ∧ Ov w wq q p n s (min k s) pe) (fun j _ => k - (intOf j).toNat)
                  case atStart => exact ⟨0, rfl, by omega, OVe.out⟩
                  case round =>
                    obtain ⟨m, rfl, hm, hov⟩ := hrel
                    have OVm := Lib.hid hov
                    clear hov
                    by_cases hlt3 : m < k
                    · by_cases hms : m < s
                      · have hbox : ∃ y : Rcv, y = rcvO pe (min k s) m ∧ y.done = true ∧ y.frm = 1 ∧ y.seq = m := ⟨_, rfl, by unfold rcvO; rw [if_pos (by omega)]; exact ⟨rfl, rfl, rfl⟩⟩
                        obtain ⟨y, hy, y6, y7, y8⟩ := hbox
                        have hat := ov_at OVm.out (by omega) (k := m) (by rw [HG.out]; exact hlt3)
                        rw [← hy] at hat
                        have HAT := Lib.hid hat
                        have Y6 := Lib.hid y6
                        have Y7 := Lib.hid y7
                        have Y8 := Lib.hid y8
                        clear hat hy y6 y7 y8
                        have hds : decide (m < s) = true := decide_eq_true hms
                        go_wp2_with (first
                          | (go_at_call 42; refine HAT.out.mono ?_; rintro e w7 ⟨rfl, c7⟩)
                          | (with_reducible change wpList _ _ _ (Oper.mk _ (Op.store _ _ _) _ _ _ _ :: _) _ _
                             refine wpList_storeR rfl _ _ rfl w7.heap.size rfl _ rfl y Rcv.zero rfl (heap_alloc_new _ _) ?_; intro w8 p1 p2 p3; clear p3
                             have b6 : w8.cell? ⟨w7.heap.size, 6, none⟩ = some (.bool true) := by (have := cell54_s p1 5 (by omega)); rw [← Y6.out]; exact this
                             have b7 : w8.cell? ⟨w7.heap.size, 7, none⟩ = some (.int .i64 1) := by (have := cell54_s p1 6 (by omega)); rw [← Y7.out]; exact this
                             have b8 : w8.cell? ⟨w7.heap.size, 8, none⟩ = some (.int .i64 m) := by (have := cell54_s p1 7 (by omega)); rw [← Y8.out]; exact this
                             have C8 : Hid (Chg Non wr w8) := Lib.hid ((c7.alloc _).trans p2 (fun b hb e => by have := c7.size; omega))
                             clear p1 p2 c7))
                        go_roundw
                        case rel => exact ⟨m + 1, by go_num, by omega, OVm.out.non C8.out⟩
                        case measure => simp [intOf]; omega
                      · have hbox : ∃ y : Rcv, y = rcvO pe (min k s) m ∧ y.done = false := ⟨_, rfl, by unfold rcvO; rw [if_neg (by omega)]; rfl⟩
                        obtain ⟨y, hy, y6⟩ := hbox
                        have hat := ov_at OVm.out (by omega) (k := m) (by rw [HG.out]; exact hlt3)
                        rw [← hy] at hat
                        have HAT := Lib.hid hat
                        have Y6 := Lib.hid y6
                        clear hat hy y6
                        have hds : decide (m < s) = false := decide_eq_false hms
                        go_wp2_with (first
                          | (go_at_call 42; refine HAT.out.mono ?_; rintro e w7 ⟨rfl, c7⟩)
                          | (with_reducible change wpList _ _ _ (Oper.mk _ (Op.store _ _ _) _ _ _ _ :: _) _ _
                             refine wpList_storeR rfl _ _ rfl w7.heap.size rfl _ rfl y Rcv.zero rfl (heap_alloc_new _ _) ?_; intro w8 p1 p2 p3; clear p3
                             have b6 : w8.cell? ⟨w7.heap.size, 6, none⟩ = some (.bool false) := by (have := cell54_s p1 5 (by omega)); rw [← Y6.out]; exact this
                             have C8 : Hid (Chg Non wr w8) := Lib.hid ((c7.alloc _).trans p2 (fun b hb e => by have := c7.size; omega))
                             clear p1 p2 c7))
                        go_roundw
                        case rel => exact ⟨m + 1, by go_num, by omega, OVm.out.non C8.out⟩
                        case measure => simp [intOf]; omega
                    · obtain rfl : m = k := by omega
                      go_wp2
                      go_roundw
                      case rel => exact ⟨n + 1, s, min m s, pe, rfl, by rw [HG.out], by go_num, by omega, by have := OVm.out; exact ⟨this.has, this.wf.mono (Nat.le_succ _), by have := this.sum; omega, this.d1, this.d2, this.peers⟩⟩
                      case measure => simp [intOf]; omega
      · obtain rfl : n = l.length := by omega
        go_wp2
        go_ret
        exact ⟨rfl, OV.out.chg⟩
end Go.Proofs.Ytgdpapcgghiljaa
