/- The walk of the law PostedGrows: over acts that read as l and more it returns true and changes no block that was there. -/
import Derived.Test.YtgdpapcgghiljaaWas
set_option linter.unusedSimpArgs false
set_option linter.unusedVariables false
namespace Go.Proofs.Ytgdpapcgghiljaa
open Go.RowKit

/-- What a row of messages that was looked at may be. -/
def Seen (s : St) (r : Int) (x : Rcv) (v : List Msg) : Prop := v = [] ∨ v = mayL s.ms s.L r x.call
/-- A receive was posted. -/
def There (s : St) (r : Int) (x : Rcv) : Prop := ∃ (i : Nat) (y : Rcv), (ofL s.L r)[i]? = some y ∧ y.call = x.call

theorem There.act {s : St} {r : Int} {x : Rcv} (h : There s r x) (d : Deed2) : There (s.act d) r x := by
  obtain ⟨i, y, h1, h2⟩ := h
  obtain ⟨y', g1, g2, _⟩ := later_act s.ms s.L d r i y h1
  exact ⟨i, y', g1, by rw [← g2.call]; exact h2⟩

theorem There.fold {s : St} {r : Int} {x : Rcv} (h : There s r x) (l : List Deed2) : There (l.foldl St.act s) r x := by
  induction l generalizing s with
  | nil => exact h
  | cons d l ih => exact ih (h.act d)

theorem Seen.len {s : St} {r : Int} {x : Rcv} {v : List Msg} (h : Seen s r x v) : v.length ≤ 64 := by
  rcases h with rfl | rfl
  · simp
  · exact may_len

theorem There.found {k : Nat} {s : St} {r : Int} {x : Rcv} (h : There s r x) (hw : WF k s.ms s.L) : ∃ (i : Nat) (y : Rcv), (ofL s.L r).findIdx? (fun z => z.call == x.call) = some i ∧ (ofL s.L r)[i]? = some y ∧ y.call = x.call := by
  obtain ⟨i, y, h1, h2⟩ := h
  exact ⟨i, y, by rw [← h2]; exact find_call (calls_of hw r) h1, h1, h2⟩

theorem seen_within {k : Nat} {s : St} {r : Int} {x : Rcv} (h : There s r x) (hw : WF k s.ms s.L) (d : Deed2) {i : Nat} {y : Rcv} (hi : (ofL (s.act d).L r).findIdx? (fun z => z.call == x.call) = some i) (hy : (ofL (s.act d).L r)[i]? = some y) (hd : y.done = false)
    {v : List Msg} (hv : Seen s r x v) : ∀ m ∈ v, m ∈ mayL (s.act d).ms (s.act d).L r x.call := by
  intro m hm
  rcases hv with rfl | rfl
  · cases hm
  · obtain ⟨j, z, h1, h2⟩ := h
    obtain ⟨z', g1, g2, _⟩ := later_act s.ms s.L d r j z h1
    have hc : z'.call = x.call := by rw [← g2.call]; exact h2
    have hj : (ofL (s.act d).L r).findIdx? (fun q => q.call == z'.call) = some j := find_call (calls_of (hw.act d) r) g1
    rw [hc, hi] at hj
    cases hj
    rw [← h2] at hm ⊢
    exact grows hw d h1 hy hd hm

theorem wait_there {s : St} {r : Int} {x : Rcv} (hx : x ∈ (ofL s.L r).filter waitB) : There s r x := by
  obtain ⟨i, hi, rfl⟩ := List.mem_iff_getElem.1 (List.mem_filter.1 hx).1
  exact ⟨i, _, List.getElem?_eq_getElem hi, rfl⟩

/-- Rows looked at: those before j in the state s', the others in s. -/
def Look (s s' : St) (r : Int) (X : List Rcv) (j : Nat) (V : List (List Msg)) : Prop :=
  V.length = X.length ∧ ∀ (k : Nat) (x : Rcv) (v : List Msg), X[k]? = some x → V[k]? = some v → if k < j then Seen s' r x v else Seen s r x v

theorem Look.set {s s' : St} {r : Int} {X : List Rcv} {j : Nat} {V : List (List Msg)} (h : Look s s' r X j V) {x : Rcv} (hx : X[j]? = some x) {v : List Msg} (hv : Seen s' r x v) : Look s s' r X (j + 1) (V.set j v) := by
  refine ⟨by simp [h.1], fun k y u hy hu => ?_⟩
  by_cases hk : j = k
  · subst hk
    rw [List.getElem?_set_self (by rw [h.1]; exact (List.getElem?_eq_some_iff.1 hx).1)] at hu
    cases hu
    rw [hx] at hy
    cases hy
    rw [if_pos (by omega)]
    exact hv
  · rw [List.getElem?_set_ne hk] at hu
    have := h.2 k y u hy hu
    by_cases hkj : k < j
    · rw [if_pos hkj] at this
      rw [if_pos (by omega)]; exact this
    · rw [if_neg hkj] at this
      rw [if_neg (by omega)]; exact this

theorem Look.next {s s' : St} {r : Int} {X : List Rcv} {V : List (List Msg)} (h : Look s s' r X X.length V) (s'' : St) : Look s' s'' r X 0 V := by
  refine ⟨h.1, fun k y u hy hu => ?_⟩
  have := h.2 k y u hy hu
  rw [if_pos (List.getElem?_eq_some_iff.1 hy).1] at this
  rw [if_neg (by omega)]; exact this

/-- A row of receives in a block that is not of S. -/
structure Xr (w : World) (S : Nat → Prop) (v : Value) (X : List Rcv) : Prop where
  row : RowR w v X
  free : ∀ g, v.ownBlock = some g → ¬ S g
theorem Xr.step {w w' : World} {S S' : Nat → Prop} {v : Value} {X : List Rcv} (h : Xr w S v X) (c : Chg S w w') (hS : ∀ b, S' b → S b ∨ w.heap.size ≤ b) : Xr w' S' v X :=
  ⟨h.row.kept c h.free, fun g hg e => by
    rcases hS g e with e | e
    · exact h.free g hg e
    · have := h.row.lt g hg; omega⟩
theorem Xr.non {w w' : World} {S : Nat → Prop} {v : Value} {X : List Rcv} (h : Xr w S v X) (c : Chg Non w w') : Xr w' S v X := h.step c.any (fun b e => .inl e)
theorem Xr.put {w w' : World} {S : Nat → Prop} {v : Value} {X : List Rcv} (h : Xr w S v X) {g : Nat} {cur : Array Value} (hg : w.heap[g]? = some (.cells cur 27 (0, 0))) (c : Chg (fun b => b = g) w w') : Xr w' S v X :=
  ⟨h.row.kept c (fun b hb e => by
    subst e
    rcases h.row.2 with ⟨rfl, _⟩ | ⟨g', cap, cur', rfl, _, hb', _⟩
    · cases hb
    · cases hb
      rw [hg] at hb'
      simp at hb'), h.free⟩

theorem Was.block {w0 w : World} {S : Nat → Prop} {g n c : Nat} {V : List (List Msg)} (h : Was w0 w S (.slice (some ⟨g, 0, none⟩) n c) V) : ∃ cur, w.heap[g]? = some (.cells cur 27 (0, 0)) := by
  obtain ⟨us, h1, _⟩ := h.ex
  rcases h1.2 with ⟨h4, _⟩ | ⟨g', cap, cur, h4, hb0, hb, _⟩
  · cases h4
  · cases h4; exact ⟨cur, hb⟩

theorem seen_start {s : St} {r : Int} {X : List Rcv} (s' : St) : Look s s' r X 0 (X.map fun x => mayL s.ms s.L r x.call) := by
  refine ⟨by simp, fun k x v hx hv => ?_⟩
  rw [List.getElem?_map, hx] at hv
  cases hv
  rw [if_neg (by omega)]
  exact .inr rfl

set_option maxRecDepth 100000 in
set_option maxHeartbeats 8000000 in
theorem grows_any (A : Option Addr) (cp : Nat) (l : List Deed2) (B : Option Addr) (cq : Nat) (more : List Deed2) (rk : Int) (w : World) (h : RdP w A l) (hm : RdP w B more) :
    Calls Try.prog 7 #[.slice A l.length cp, .slice B more.length cq, .int .u8 rk] w fun e w' => e = .returned (.bool true) ∧ Chg Non w w' := by
  have HG := Lib.hid (fun W hc => pgreat_any A cp l W (h.non hc))
  have HG2 := Lib.hid (fun W hc => pgreat_any B cq more W (hm.non hc))
  have HL := Lib.hid h
  have HMO := Lib.hid hm
  clear h hm
  go_enter Try.func7, Try.ntmps7
  go_wp2_with fail
  refine (awake_any w).mono ?_
  rintro e w1 ⟨rfl, c1⟩
  have C1 := Lib.hid c1
  clear c1
  go_wp2_with fail
  refine (HG.out w1 C1.out).mono ?_
  rintro e w1' ⟨rfl, rfl⟩
  cases hg : pgreat l
  · have hlen := pgreat_len hg
    clear hg
    go_wp2_with fail
    refine (HG2.out w1 C1.out).mono ?_
    rintro e w1' ⟨rfl, rfl⟩
    cases hg2 : pgreat more
    · have hlen2 := pgreat_len hg2
      clear hg2
      go_wp2_with fail
      refine (made_any A cp l w1 (HL.out.non C1.out) hlen).mono ?_
      rintro e w2 ⟨q, r, a, rs, ats, p, vs, rfl, hd⟩
      have HW := Lib.hid ((playWF l).mono hlen)
      have HD := Lib.hid (hd.rebase C1.out)
      generalize playS l = s0 at HW HD
      clear hd
      go_wp2_with fail
      refine (dwait HD.out HW.out (by omega) (wrap64 (rk.tmod 64))).mono ?_
      rintro e w3 ⟨v3, rfl, r3, f3, c3⟩
      generalize wrap64 (rk.tmod 64) = rank at r3 ⊢
      have HTH := Lib.hid (fun x hx => @wait_there s0 rank x hx)
      have hX : ((ofL s0.L rank).filter waitB).length ≤ 120 := Nat.le_trans (List.length_filter_le _ _) (HW.out.of _)
      obtain ⟨A3, k3, rfl, d3, _⟩ := r3.form
      generalize (ofL s0.L rank).filter waitB = X at d3 r3 f3 hX HTH ⊢
      obtain ⟨S0, hS0⟩ : ∃ S : Nat → Prop, S = fun b => In (blocksOf q r a rs) b ∨ In (blocksP p vs) b := ⟨_, rfl⟩
      have HH : Hid (Has w w3 q p S0 s0.ms s0.L) := Lib.hid ⟨r, a, rs, ats, vs, HD.out.non c3, hS0⟩
      have D3 := Lib.hid d3
      have HXR : Hid (Xr w3 S0 (.slice A3 X.length k3) X) := Lib.hid ⟨r3, fun g hg e => by
        subst hS0
        exact HD.out.freshQ f3 g hg e⟩
      clear r3 f3 c3 d3 HD HG HG2 hS0
      go_wp2_with fail
      go_loopw [11, 12] (fun v i wr => ∃ k : Nat, i = .int .i64 k ∧ k ≤ X.length ∧ Was w3 wr S0 v ((X.take k).map fun x => mayL s0.ms s0.L rank x.call) ∧ Chg Non w3 wr) (fun _ i _ => X.length - (intOf i).toNat)
      case atStart => exact ⟨0, rfl, by omega, Was.nil, Chg.refl _ _⟩
      case round =>
        obtain ⟨k, rfl, hk, hwas, hc⟩ := hrel
        have HWA := Lib.hid hwas
        have HC := Lib.hid hc
        clear hwas hc
        by_cases hlt : k < X.length
        · obtain ⟨x, hx⟩ : ∃ x, X[k]? = some x := ⟨X[k], List.getElem?_eq_getElem hlt⟩
          obtain ⟨g, o, rfl, hg, e1, e2⟩ := (D3.out.non HC.out).at_ hx
          have HX := Lib.hid hx
          have t2 : wr.cell? ⟨g, o + k * 9 + 2, none⟩ = some (.int .i64 x.call) := e2 1 (by omega)
          clear e1 e2 hx
          go_wp2_with fail
          refine (hmay (HH.out.non HC.out) HW.out (by omega) rank x.call).mono ?_
          rintro e w4 ⟨v4, rfl, r4, f4, c4⟩
          have hch := HC.out.non c4
          have hfr := (HH.out.non HC.out).fresh f4
          obtain ⟨A4, k4, rfl, _, _⟩ := r4.form
          have hls := @may_len s0.ms s0.L rank x.call
          have HS := Lib.hid (show (X.take (k + 1)).map (fun x => mayL s0.ms s0.L rank x.call) = (X.take k).map (fun x => mayL s0.ms s0.L rank x.call) ++ [mayL s0.ms s0.L rank x.call] by rw [List.take_add_one, HX.out, List.map_append]; rfl)
          have HCB := Lib.hid hch
          have HWN := Lib.hid HWA.out.new
          have hwas4 := HWA.out.non c4
          have hV : ((X.take k).map (fun x => mayL s0.ms s0.L rank x.call)).length ≤ 1000 := by rw [List.length_map, List.length_take]; omega
          generalize (X.take k).map (fun x => mayL s0.ms s0.L rank x.call) = V at hwas4 HS hV
          generalize mayL s0.ms s0.L rank x.call = Y at r4 HS hls hfr ⊢
          have hSl : ∀ b, S0 b → b < (w4.alloc (.cells #[.slice A4 Y.length k4] 27)).heap.size := fun b hb => by have := (HH.out.non hch).lt b hb; simp; omega
          have hW0 : w3.heap.size ≤ (w4.alloc (.cells #[.slice A4 Y.length k4] 27)).heap.size := by have := hch.size; simp; omega
          have R4 := Lib.hid r4
          have HF := Lib.hid hfr
          have W4 := Lib.hid hwas4
          have SL := Lib.hid hSl
          clear r4 f4 c4 hch hfr hwas4 hSl
          have hcA : Chg Non w4 (w4.alloc (.cells #[.slice A4 Y.length k4] 27)) := (Chg.refl _ _).alloc _
          have HCA := Lib.hid hcA
          clear hcA
          go_wp2_with (at_builtin; refine wpList_appendWas rfl _ _ rfl rfl (W4.out.non HCA.out) w4.heap.size (.slice A4 Y.length k4) Y 1 rfl (heap_alloc_new _ _) (R4.out.kept HCA.out (fun _ _ e => e)) HF.out SL.out hW0 (by omega) ?_; intro v5 w5 q1 q2)
          have hn5 : Chg Non w3 w5 := (HCB.out.non HCA.out).trans q2 (fun b hb e => by have := HWN.out b e; omega)
          go_roundw
          case rel => exact ⟨k + 1, by go_num, by omega, by rw [HS.out]; exact q1, hn5⟩
          case measure => simp [intOf]; omega
        · obtain rfl : k = X.length := by omega
          have hwas := HWA.out
          rw [List.take_length] at hwas
          have HLK : Hid (∀ s', Look s0 s' rank X 0 (X.map fun x => mayL s0.ms s0.L rank x.call)) := Lib.hid (fun s' => seen_start s')
          generalize (X.map fun x => mayL s0.ms s0.L rank x.call) = V0 at hwas HLK
          have HH1 := Lib.hid (HH.out.non HC.out)
          have HXR1 := Lib.hid (HXR.out.non HC.out)
          obtain ⟨AW, cW, hu⟩ := hwas.form
          have hlV : V0.length = X.length := (HLK.out s0).1
          rw [hlV] at hu
          subst hu
          have HW1 := Lib.hid hwas
          have HLX := Lib.hid hX
          have HW3 := Lib.hid (show w.heap.size ≤ w3.heap.size from HH.out.chg.size)
          clear hwas HH HXR hlV
          go_wp2_with fail
          go_loopw [13] (fun i wr => ∃ n : Nat, i = .int .i64 n ∧ n ≤ more.length ∧ ∃ S V, Has w wr q p S ((more.take n).foldl St.act s0).ms ((more.take n).foldl St.act s0).L ∧ Was w3 wr S (.slice AW X.length cW) V ∧ Xr wr S (.slice A3 X.length k3) X ∧ Look ((more.take n).foldl St.act s0) ((more.take n).foldl St.act s0) rank X 0 V) (fun i _ => more.length - (intOf i).toNat)
          case atStart => exact ⟨0, rfl, by omega, S0, V0, HH1.out, HW1.out, HXR1.out, HLK.out _⟩
          case round =>
            obtain ⟨n, rfl, hn, S, V, h1, h2, h3, h4⟩ := hrel
            have H1 := Lib.hid h1
            have H2 := Lib.hid h2
            have H3 := Lib.hid h3
            have H4 := Lib.hid h4
            clear h1 h2 h3 h4
            by_cases hlt2 : n < more.length
            · obtain ⟨d, hd⟩ : ∃ d, more[n]? = some d := ⟨more[n], List.getElem?_eq_getElem hlt2⟩
              obtain ⟨g, o, rfl, hg, e1, ⟨e2, e3⟩, e4, e5⟩ := (HMO.out.non H1.out.chg).at_ hd
              have HD := Lib.hid (fold_snoc s0 hd)
              have HWF := Lib.hid (WF.fold (s := s0) HW.out (more.take n))
              have hlt4 : (more.take n).length ≤ 120 := by rw [List.length_take]; omega
              have HLT := Lib.hid hlt4
              have hcs := deed_cells e1 ⟨e2, e3⟩ ⟨e4, e5⟩
              have HCS := Lib.hid hcs
              clear e1 e2 e3 e4 e5 hcs hd
              go_wp2_with (refine wpList_loadD rfl _ rfl g _ rfl d HCS.out ?_)
              have HTS : Hid (∀ x ∈ X, There ((more.take n).foldl St.act s0) rank x) := Lib.hid (fun x hx => (HTH.out x hx).fold _)
              generalize (more.take n).foldl St.act s0 = sn at H1 H4 HD HWF HTS
              refine (hact H1.out HWF.out (by have := HLT.out; omega) d).mono ?_
              rintro e w6 ⟨⟨res, rfl⟩, S', g1, g2, g3⟩
              have g4 := H2.out.step g2 g3
              have g5 := H3.out.step g2 g3
              have HWS := Lib.hid (HWF.out.act d)
              have G1 := Lib.hid g1
              have G4 := Lib.hid g4
              have G5 := Lib.hid g5
              have HTA : Hid (∀ x ∈ X, There (sn.act d) rank x) := Lib.hid (fun x hx => (HTS.out x hx).act d)
              clear g1 g2 g3 g4 g5 H1 H2 H3
              have HLK := Lib.hid (show Look sn (sn.act d) rank X 0 V from ⟨H4.out.1, fun k x v hx hv => by have := H4.out.2 k x v hx hv; rw [if_neg (by omega)] at this ⊢; exact this⟩)
              go_wp2_with fail
              go_loopw [14] (fun i wr => ∃ m : Nat, i = .int .i64 m ∧ m ≤ X.length ∧ ∃ V, Has w wr q p S' (sn.act d).ms (sn.act d).L ∧ Was w3 wr S' (.slice AW X.length cW) V ∧ Xr wr S' (.slice A3 X.length k3) X ∧ Look sn (sn.act d) rank X m V) (fun i _ => X.length - (intOf i).toNat)
              case atStart => exact ⟨0, rfl, by omega, V, G1.out, G4.out, G5.out, HLK.out⟩
              case round =>
                obtain ⟨m, rfl, hm, V', h1, h2, h3, h4⟩ := hrel
                have K1 := Lib.hid h1
                have K2 := Lib.hid h2
                have K3 := Lib.hid h3
                have K4 := Lib.hid h4
                clear h1 h2 h3 h4
                by_cases hlt3 : m < X.length
                · obtain ⟨x, hx⟩ : ∃ x, X[m]? = some x := ⟨X[m], List.getElem?_eq_getElem hlt3⟩
                  obtain ⟨B3, kk3, e3, hrd, _⟩ := K3.out.row.form
                  simp only [Value.slice.injEq, true_and] at e3
                  obtain ⟨e3, e4⟩ := e3
                  subst e3 e4
                  obtain ⟨g, o, rfl, hg, q1, q2⟩ := hrd.at_ hx
                  have t2 : wr.cell? ⟨g, o + m * 9 + 2, none⟩ = some (.int .i64 x.call) := q2 1 (by omega)
                  obtain ⟨v, hv⟩ : ∃ v, V'[m]? = some v := ⟨V'[m]'(by rw [K4.out.1]; exact hlt3), List.getElem?_eq_getElem _⟩
                  have hseen : Seen sn rank x v := by have := K4.out.2 m x v hx hv; rwa [if_neg (by omega)] at this
                  obtain ⟨gw, cw, Av, kv, ew, hgw, qw, rw'⟩ := K2.out.at_ hv
                  simp only [Value.slice.injEq] at ew
                  obtain ⟨ew, elen, ecap⟩ := ew
                  subst ew ecap
                  obtain ⟨i, y, hfi, hgi, hyc⟩ := (HTA.out x (List.mem_of_getElem? hx)).found HWS.out
                  have HX := Lib.hid hx
                  have HV := Lib.hid hv
                  have HSE := Lib.hid hseen
                  have HFI := Lib.hid hfi
                  have HGI := Lib.hid hgi
                  have HYC := Lib.hid hyc
                  have HR := Lib.hid rw'
                  have hlv := hseen.len
                  have HEL := Lib.hid elen
                  clear q1 q2 hx hv hseen hfi hgi hyc rw' hrd elen
                  obtain ⟨bd, hbd⟩ : ∃ b, y.done = b := ⟨_, rfl⟩
                  have HBD := Lib.hid hbd
                  clear hbd
                  have hmV : m < V'.length := by rw [K4.out.1]; exact hlt3
                  have HMV := Lib.hid hmV
                  have hgS : w.heap.size ≤ gw ∧ ¬ S' gw := ⟨Nat.le_trans HW3.out (K2.out.new gw rfl), K2.out.free gw rfl⟩
                  have HGS := Lib.hid hgS
                  clear hmV hgS
                  cases bd
                  · go_wp2_with (first
                      | (go_at_call 42; refine (hat K1.out HWS.out (by have := HLT.out; omega) rank x.call i y HFI.out HGI.out).mono ?_; rintro e w7 ⟨rfl, c7⟩)
                      | (refine wpList_storeR rfl _ _ rfl w7.heap.size rfl _ rfl y Rcv.zero rfl (heap_alloc_new _ _) ?_; intro w8 p1 p2 p3; clear p3
                         have b6 : w8.cell? ⟨w7.heap.size, 6, none⟩ = some (.bool false) := by (have := cell54_s p1 5 (by omega)); rw [← HBD.out]; exact this
                         have C8 : Hid (Chg Non wr w8) := Lib.hid ((c7.alloc _).trans p2 (fun b hb e => by have := c7.size; omega))
                         have t3 : w8.cell? ⟨g, o + m * 9 + 2, none⟩ = some (.int .i64 x.call) := (C8.out.cell hg (fun e => e)).trans t2
                         clear p1 p2 c7))
                    refine (hmay (K1.out.non C8.out) HWS.out (by have := HLT.out; omega) rank x.call).mono ?_
                    rintro e w9 ⟨v9, rfl, r9, f9, c9⟩
                    have hin : ∀ m ∈ v, m ∈ mayL (sn.act d).ms (sn.act d).L rank x.call := seen_within (HTS.out x (List.mem_of_getElem? HX.out)) HWF.out d HFI.out HGI.out HBD.out HSE.out
                    have HIN := Lib.hid hin
                    have hfr := (K1.out.non C8.out).fresh f9
                    obtain ⟨A9, k9, rfl, d9, _⟩ := r9.form
                    have hl9 := @may_len (sn.act d).ms (sn.act d).L rank x.call
                    have HSN : Hid (Seen (sn.act d) rank x (mayL (sn.act d).ms (sn.act d).L rank x.call)) := Lib.hid (.inr rfl)
                    generalize mayL (sn.act d).ms (sn.act d).L rank x.call = Y at r9 hl9 d9 HIN HSN hfr ⊢
                    have R9 := Lib.hid r9
                    have D9 := Lib.hid d9
                    have HF9 := Lib.hid hfr
                    have C9 := Lib.hid (C8.out.non c9)
                    have q9 : w9.cell? ⟨gw, m, none⟩ = some (.slice Av v.length kv) := (C9.out.cell hgw (fun e => e)).trans qw
                    clear r9 d9 f9 c9 hin hfr b6 t2 t3
                    go_wp2_with fail
                    refine (within_yes Av A9 kv k9 v Y w9 (HR.out.non C9.out) D9.out (by omega) (by omega) HIN.out).mono ?_
                    rintro e w10 ⟨rfl, c10⟩
                    have C10 := Lib.hid (C9.out.non c10)
                    have R10 := Lib.hid (R9.out.kept c10 (fun _ _ e => e))
                    clear c10 q9
                    obtain ⟨p1, p2, ⟨x0, p3⟩, p4, _, _⟩ := (K2.out.non C10.out).put HMV.out (u := .slice A9 Y.length k9) R10.out HF9.out
                    obtain ⟨cur, hbl⟩ := (K2.out.non C10.out).block
                    have HBL := Lib.hid hbl
                    have HP1 := Lib.hid p1
                    have HP4 := Lib.hid p4
                    clear p1 p4 hbl
                    go_wp2_with fail
                    go_roundw
                    case rel => exact ⟨m + 1, by go_num, by omega, V'.set m Y, (K1.out.non C10.out).aside HP4.out (fun b e => by subst e; exact ⟨HGS.out.2, HGS.out.1⟩), HP1.out, (K3.out.non C10.out).put HBL.out HP4.out, K4.out.set HX.out HSN.out⟩
                    case measure => simp [intOf]; omega
                  · go_wp2_with (first
                      | (go_at_call 42; refine (hat K1.out HWS.out (by have := HLT.out; omega) rank x.call i y HFI.out HGI.out).mono ?_; rintro e w7 ⟨rfl, c7⟩)
                      | (refine wpList_storeR rfl _ _ rfl w7.heap.size rfl _ rfl y Rcv.zero rfl (heap_alloc_new _ _) ?_; intro w8 p1 p2 p3; clear p3
                         have b6 : w8.cell? ⟨w7.heap.size, 6, none⟩ = some (.bool true) := by (have := cell54_s p1 5 (by omega)); rw [← HBD.out]; exact this
                         have C8 : Hid (Chg Non wr w8) := Lib.hid ((c7.alloc _).trans p2 (fun b hb e => by have := c7.size; omega))
                         clear p1 p2 c7
                         obtain ⟨p1, p2, ⟨x0, p3⟩, p4, _, _⟩ := (K2.out.non C8.out).put HMV.out (u := .slice none 0 0) (Row.nil _) (by simp [Value.ownBlock])
                         obtain ⟨cur, hbl⟩ := (K2.out.non C8.out).block
                         have HBL := Lib.hid hbl
                         have HP1 := Lib.hid p1
                         have HP4 := Lib.hid p4
                         clear p1 p4 hbl))
                    go_roundw
                    case rel => exact ⟨m + 1, by go_num, by omega, V'.set m [], (K1.out.non C8.out).aside HP4.out (fun b e => by subst e; exact ⟨HGS.out.2, HGS.out.1⟩), HP1.out, (K3.out.non C8.out).put HBL.out HP4.out, K4.out.set HX.out (.inl rfl)⟩
                    case measure => simp [intOf]; omega
                · obtain rfl : m = X.length := by omega
                  go_wp2
                  go_roundw
                  case rel => exact ⟨n + 1, by go_num, by omega, S', V', by rw [HD.out]; exact K1.out, K2.out, K3.out, by rw [HD.out]; exact K4.out.next _⟩
                  case measure => simp [intOf]; omega
            · obtain rfl : n = more.length := by omega
              go_wp2
              go_ret
              exact ⟨rfl, H1.out.chg⟩
    · go_wp2
      go_ret
      exact ⟨rfl, C1.out⟩
  · go_wp2
    go_ret
    exact ⟨rfl, C1.out⟩
end Go.Proofs.Ytgdpapcgghiljaa
