/- Contracts of the receives: At, free. -/
import Derived.Test.YtgdpapcgghiljaaPostC
set_option linter.unusedSimpArgs false
set_option linter.unusedVariables false
namespace Go.Proofs.Ytgdpapcgghiljaa
open Go.RowKit

set_option maxRecDepth 100000 in
set_option maxHeartbeats 1000000 in
theorem pat_none (p : Nat) (vs : List Value) (L : Nat → List Rcv) (rank call : Int) (w : World) (h : PR w p vs L) (hl : (ofL L rank).length ≤ 1000) (hn : plcR L rank call = -1) :
    Calls Try.prog 42 #[.pointer (some ⟨p, 0, none⟩), .int .i64 rank, .int .i64 call] w fun e w' => e = .returned (.tuple #[.agg Rcv.zero.cs, .bool false]) ∧ Chg Non w w' := by
  have hp := fun W hc => pplace_any p vs L rank call W (h.non hc) hl
  rw [hn] at hp
  have HP := Lib.hid hp
  clear hp hn h
  go_enter Try.func42, Try.ntmps42
  go_wp2_with fail
  refine (HP.out _ ((Chg.refl Non w).alloc _)).mono ?_
  rintro e w1 ⟨rfl, hc1⟩
  have hN : w1.heap[w.heap.size]? = some (.cells Rcv.zero.cs 54 (0, 0)) := (hc1.block w.heap.size (by simp) (fun e => e)).trans (heap_alloc_new w _)
  have HC := Lib.hid (((Chg.refl Non w).alloc _).non hc1)
  have HN := Lib.hid hN
  clear hN hc1
  go_wp2_with (refine wpList_storeR rfl _ _ rfl w.heap.size rfl _ rfl Rcv.zero Rcv.zero rfl HN.out ?_; intro w2 p1 p2 p3)
  exact bodyPost_ret (v := .tuple #[.agg Rcv.zero.cs, .bool false]) (by have r0 := cell54_0 p1; have r1 := cell54_s p1; simp [results, Try.results42, go_sem, r0, r1]; rfl) rfl ⟨rfl, HC.out.trans p2 (fun b hb e => by subst e; omega)⟩

set_option maxRecDepth 100000 in
set_option maxHeartbeats 1000000 in
theorem pat_some (p : Nat) (vs : List Value) (L : Nat → List Rcv) (rank call : Int) (w : World) (k : Nat) (r : Rcv) (h : PR w p vs L) (hl : (ofL L rank).length ≤ 1000) (hn : plcR L rank call = k) (hr : (ofL L rank)[k]? = some r) :
    Calls Try.prog 42 #[.pointer (some ⟨p, 0, none⟩), .int .i64 rank, .int .i64 call] w fun e w' => e = .returned (.tuple #[.agg r.cs, .bool true]) ∧ Chg Non w w' := by
  have hp := fun W hc => pplace_any p vs L rank call W (h.non hc) hl
  rw [hn] at hp
  have HP := Lib.hid hp
  have HH := Lib.hid h
  have hkl : k < (ofL L rank).length := (List.getElem?_eq_some_iff.1 hr).1
  have HR := Lib.hid hr
  clear hp hn h hr
  go_enter Try.func42, Try.ntmps42
  go_wp2_with fail
  refine (HP.out _ ((Chg.refl Non w).alloc _)).mono ?_
  rintro e w1 ⟨rfl, hc1⟩
  have hN : w1.heap[w.heap.size]? = some (.cells Rcv.zero.cs 54 (0, 0)) := (hc1.block w.heap.size (by simp) (fun e => e)).trans (heap_alloc_new w _)
  have hC := ((Chg.refl Non w).alloc _).non hc1
  obtain ⟨A, c, hrd, _, hcall⟩ := of_any p vs L rank w1 (HH.out.non hC)
  have HO := Lib.hid hcall
  obtain ⟨g, o, rfl, hg, e1, e2⟩ := hrd.at_ HR.out
  have HC := Lib.hid hC
  have HN := Lib.hid hN
  clear hN hc1 hC hcall hrd
  go_wp2_with (first
    | (go_at_call 65; refine HO.out.mono ?_; rintro e w2 ⟨rfl, rfl⟩)
    | (refine wpList_storeR rfl _ _ rfl w.heap.size rfl _ rfl r Rcv.zero rfl HN.out ?_; intro w2 p1 p2 p3))
  exact bodyPost_ret (v := .tuple #[.agg r.cs, .bool true]) (by have r0 := cell54_0 p1; have r1 := cell54_s p1; simp [results, Try.results42, go_sem, r0, r1]; rfl) rfl ⟨rfl, HC.out.trans p2 (fun b hb e => by subst e; omega)⟩

set_option maxRecDepth 100000 in
set_option maxHeartbeats 400000 in
theorem freecall_any (m : Rcv) (y : Msg) (b : Nat) (w : World) (c0 : w.cell? ⟨b, 0, none⟩ = some (.string y.key)) (c1 : ∀ j, j < 7 → w.cell? ⟨b, j + 1, none⟩ = y.cs[j + 1]?) :
    Calls Try.prog 87 (#[.agg m.cs] ++ #[.pointer (some ⟨b, 0, none⟩)]) w fun e w' => e = .returned (.bool (fitsB m y)) ∧ Chg Non w w' := by
  have hb : b < w.heap.size := World.block_lt_of_cell? w _ c0
  go_enter Try.func87, Try.ntmps87
  go_wp2_with (go_at_call 71; refine (fits_any m y _).mono ?_; rintro e w1 ⟨rfl, hc⟩)
  go_ret
  exact ⟨rfl, ((Chg.refl _ _).alloc _).non hc⟩

/-- The message of a sender that may be a receive's, behind those that wait. -/
def freeOne (ms : List Msg) (x : Rcv) (wait : List Rcv) (f : Int) : Option Msg :=
  if x.peer = -1 ∨ x.peer = f then
    if (ms.find? (fstB ⟨x.key, f, x.rank⟩ x.tag)).isSome && !(wait.any (fitsB · ((ms.find? (fstB ⟨x.key, f, x.rank⟩ x.tag)).getD Msg.zero))) then some ((ms.find? (fstB ⟨x.key, f, x.rank⟩ x.tag)).getD Msg.zero) else none
  else none

/-- The messages that may be a receive's. -/
def freeL (ms : List Msg) (x : Rcv) (ahead : List Rcv) : List Msg := (sendersL ms x.key x.rank 64).filterMap (freeOne ms x (ahead.filter waitB))

theorem take_snoc_fm {α β : Type} (f : α → Option β) (l : List α) (k : Nat) (x : α) (hx : l[k]? = some x) : (l.take (k + 1)).filterMap f = (l.take k).filterMap f ++ (f x).toList := by
  rw [List.take_add_one, hx, List.filterMap_append]
  congr 1

theorem RdI.stay {w w' : World} {A : Option Addr} {zs : List Int} (h : RdI w A zs) (hc : Chg Non w w') : RdI w' A zs := by
  rcases h with h | ⟨g, o, rfl, hg, hat⟩
  · exact .inl h
  · exact .inr ⟨g, o, rfl, Nat.lt_of_lt_of_le hg hc.size, fun i z hi => (hc.cell hg (fun e => e)).trans (hat i z hi)⟩

theorem senders_len (ms : List Msg) (key : ByteArray) (t : Int) : (sendersL ms key t 64).length ≤ 64 := by
  have := List.length_filter_le (fun f : Nat => ms.any (isB · ⟨key, (f : Int), t⟩)) (List.range 64)
  simp only [sendersL, List.length_map]
  simpa using this

set_option maxRecDepth 100000 in
set_option maxHeartbeats 2000000 in
theorem free_any (q r a : Nat) (rs : List (Chan × Value)) (ats : List (Sent × Value)) (ms : List Msg) (x : Rcv) (A : Option Addr) (c : Nat) (ahead : List Rcv) (w : World) (h : QR w q r a rs ats ms) (hl : ms.length ≤ 1000) (hfit : ∀ m ∈ ms, 0 ≤ m.frm ∧ m.frm ≤ 63)
    (ha : RdR w A ahead) (hla : ahead.length ≤ 1000) :
    Calls Try.prog 64 #[.pointer (some ⟨q, 0, none⟩), .agg x.cs, .slice A ahead.length c] w fun e w' => ∃ v', e = .returned v' ∧ Row w' v' (freeL ms x ahead) ∧ Fresh w v' ∧ Chg Non w w' := by
  have HH := Lib.hid h
  have HA := Lib.hid ha
  have HFIT := Lib.hid hfit
  have hZ := senders_len ms x.key x.rank
  clear h ha hfit
  go_enter Try.func64, Try.ntmps64
  have hC0 : Chg Non w (w.alloc (Obj.cells x.cs 54)) := (Chg.refl _ _).alloc _
  have HC0 := Lib.hid hC0
  have hbx := fun i => box_cell w x.cs 54 (S := Non) (fun e => e) i
  have HBX := Lib.hid hbx
  clear hC0 hbx
  go_wp2_with fail
  refine (kept_any 70 enters70 #[] waitB A c ahead _ (HA.out.non HC0.out) hla (fun m _ W _ => waits_any m W)).mono ?_
  rintro e w1 ⟨v8, rfl, hw8, _, hc1⟩
  obtain ⟨A8, c8, rfl, hw8, _⟩ := hw8.form
  have b0 : w1.cell? ⟨w.heap.size, 0, none⟩ = some (.string x.key) := HBX.out 0 w1 hc1
  have b1 : w1.cell? ⟨w.heap.size, 1, none⟩ = some (.int .i64 x.rank) := HBX.out 1 w1 hc1
  have HC1 := Lib.hid hc1
  have HW8 := Lib.hid hw8
  clear hc1 hw8
  go_wp2_with fail
  refine (senders_any q r a rs ats ms x.key x.rank w1 (HH.out.non (HC0.out.non HC1.out)) hl HFIT.out).mono ?_
  rintro e w2 ⟨vz, rfl, hz, _, hc2⟩
  obtain ⟨Az, cz, rfl, hz, _⟩ := hz.form
  have hlw : (ahead.filter waitB).length ≤ 1000000 := by have := List.length_filter_le waitB ahead; omega
  have hC2 := HC0.out.non (HC1.out.non hc2)
  have g8 := HW8.out.non hc2
  have gb : ∀ W, Chg Non w2 W → ∀ i, W.cell? ⟨w.heap.size, i, none⟩ = x.cs[i]? := fun W hc i => HBX.out i W (HC1.out.non (hc2.non hc))
  have hfr : freeL ms x ahead = (sendersL ms x.key x.rank 64).filterMap (freeOne ms x (ahead.filter waitB)) := rfl
  generalize hZZ : sendersL ms x.key x.rank 64 = Z at hz hZ hfr ⊢
  generalize hWW : ahead.filter waitB = wait at g8 hlw hfr ⊢
  have HFR := Lib.hid hfr
  have HC2 := Lib.hid hC2
  have G8 := Lib.hid g8
  have GB := Lib.hid gb
  have GZ := Lib.hid hz
  clear b0 b1 hC2 g8 gb hfr hz hc2 hZZ hWW HC1 HW8 HBX HA
  clear HC0
  go_wp2_with fail
  go_loopw [7, 23] (fun out i wr => ∃ k : Nat, i = .int .i64 k ∧ k ≤ Z.length ∧ Row wr out ((Z.take k).filterMap (freeOne ms x wait)) ∧ Fresh w2 out ∧ Chg Non w2 wr) (fun _ i _ => Z.length - (intOf i).toNat)
  case atStart => exact ⟨0, rfl, by omega, by simpa using Row.nil w2, Fresh.nil w2, Chg.refl _ _⟩
  case round =>
    obtain ⟨k, rfl, hk, hrow, hfr, hc⟩ := hrel
    have HRW := Lib.hid hrow
    have HF := Lib.hid hfr
    have HC := Lib.hid hc
    have HCw := Lib.hid (HC2.out.non hc)
    have hlen : ((Z.take k).filterMap (freeOne ms x wait)).length ≤ 1000000 := by
      have := List.length_filterMap_le (freeOne ms x wait) (Z.take k)
      simp only [List.length_take] at this
      omega
    clear hrow hfr hc
    by_cases hlt : k < Z.length
    · obtain ⟨z, hz1⟩ : ∃ z, Z[k]? = some z := ⟨Z[k], List.getElem?_eq_getElem hlt⟩
      obtain ⟨g, o, e0, hg, e1⟩ := RdI.at_ (RdI.stay GZ.out HC.out) hz1
      subst e0
      have HZ := Lib.hid hz1
      have b0 : wr.cell? ⟨w.heap.size, 0, none⟩ = some (.string x.key) := GB.out wr HC.out 0
      have b1 : wr.cell? ⟨w.heap.size, 1, none⟩ = some (.int .i64 x.rank) := GB.out wr HC.out 1
      have b3 : wr.cell? ⟨w.heap.size, 3, none⟩ = some (.int .i64 x.peer) := GB.out wr HC.out 3
      have b4 : wr.cell? ⟨w.heap.size, 4, none⟩ = some (.int .i64 x.tag) := GB.out wr HC.out 4
      clear hz1
      by_cases hp : x.peer = -1 ∨ x.peer = z
      · have hfo : freeOne ms x wait z = if (ms.find? (fstB ⟨x.key, z, x.rank⟩ x.tag)).isSome && !(wait.any (fitsB · ((ms.find? (fstB ⟨x.key, z, x.rank⟩ x.tag)).getD Msg.zero))) then some ((ms.find? (fstB ⟨x.key, z, x.rank⟩ x.tag)).getD Msg.zero) else none := by unfold freeOne; rw [if_pos hp]
        have hpf := pfirst_any q r a rs ats ms x.key z x.rank x.tag wr (HH.out.non HCw.out) hl
        generalize (ms.find? (fstB ⟨x.key, z, x.rank⟩ x.tag)).getD Msg.zero = y at hfo hpf
        generalize (ms.find? (fstB ⟨x.key, z, x.rank⟩ x.tag)).isSome = bf at hfo hpf
        have HO := Lib.hid hfo
        have HPF := Lib.hid hpf
        clear hfo hpf
        have hpp : ((x.peer != -1) = false) ∨ ((x.peer != -1) = true ∧ (x.peer != z) = false) := by
          by_cases e : x.peer = -1
          · exact .inl (by simp [e])
          · exact .inr ⟨by simp [e], by rcases hp with e' | e'; exact absurd e' e; simp [e']⟩
        clear hp
        rcases hpp with q1 | ⟨q1, q2⟩
        all_goals
          go_wp2_with fail
          refine HPF.out.mono ?_
          rintro e w3 ⟨rfl, hc3⟩
          have HC3 := Lib.hid hc3
          clear hc3 b0 b1 b3 b4 e1 hg
          go_wp2_with (refine wpList_storeM rfl _ _ rfl w3.heap.size rfl _ rfl y Msg.zero rfl (heap_alloc_new _ _) ?_; intro w4 p1 p2 p3; clear p3)
          have hc4 : Chg Non wr w4 := (HC3.out.alloc _).trans p2 (fun b hb e => by have := HC3.out.size; omega)
          have y0 := fun W (hc : Chg Non w4 W) => cell31_0 (((hc.block _ (Array.getElem?_eq_some_iff.1 p1).1 (fun e => e))).trans p1)
          have y1 := fun W (hc : Chg Non w4 W) => cell31_s (((hc.block _ (Array.getElem?_eq_some_iff.1 p1).1 (fun e => e))).trans p1)
          have Y0 := Lib.hid y0
          have Y1 := Lib.hid y1
          generalize w3.heap.size = NY at Y0 Y1 ⊢
          refine (contains_rcv 87 enters87 #[.pointer (some ⟨NY, 0, none⟩)] (fun r => fitsB r y) A8 c8 wait w4 (G8.out.non (HC.out.non hc4)) hlw (fun m _ W hW => freecall_any m y NY W (Y0.out W hW) (Y1.out W hW))).mono ?_
          rintro e w5 ⟨rfl, hc5⟩
          have z0 := Y0.out w5 hc5
          have z1 := Y1.out w5 hc5
          have HC5 := Lib.hid (hc4.non hc5)
          clear y0 y1 hc4 hc5 p1 p2
          cases hcl : wait.any fun r => fitsB r y
          · cases bf
            · go_wp2_with fail
              go_roundw
              case rel => exact ⟨k + 1, by go_num, by omega, by rw [take_snoc_fm _ Z k z HZ.out, HO.out]; simpa using HRW.out.kept HC5.out (fun _ _ e => e), HF.out, HC.out.non HC5.out⟩
              case measure => simp [intOf]; omega
            · have HO2 := Lib.hid (show freeOne ms x wait z = some y by rw [HO.out, hcl]; rfl)
              clear hcl
              go_wp2_with (at_builtin; refine wpList_appendM rfl _ _ rfl u7 _ rfl (HRW.out.kept (HC5.out.non ((Chg.refl Non _).alloc _)) (fun _ _ e => e)) w5.heap.size y 1 rfl _ (heap_alloc_new _ _) rfl hlen ?_; intro gg cc w6 q1 q2 q3 q4)
              have hgt := gathered (n := ((Z.take k).filterMap (freeOne ms x wait)).length + 1) (c := cc) HF.out HC.out (HC5.out.non ((Chg.refl _ _).alloc _)) q2 q3
              go_roundw
              case rel => exact ⟨k + 1, by go_num, by omega, by rw [take_snoc_fm _ Z k z HZ.out, HO2.out]; exact q1, hgt.1, hgt.2⟩
              case measure => simp [intOf]; omega
          · have HO2 := Lib.hid (show freeOne ms x wait z = none by rw [HO.out, hcl]; simp)
            clear hcl
            cases bf
            all_goals
              go_wp2_with fail
              go_roundw
              case rel => exact ⟨k + 1, by go_num, by omega, by rw [take_snoc_fm _ Z k z HZ.out, HO2.out]; simpa using HRW.out.kept HC5.out (fun _ _ e => e), HF.out, HC.out.non HC5.out⟩
              case measure => simp [intOf]; omega
      · have hp1 : ¬ x.peer = -1 := fun e => hp (.inl e)
        have hp2 : ¬ x.peer = z := fun e => hp (.inr e)
        have HO := Lib.hid (show freeOne ms x wait z = none by unfold freeOne; rw [if_neg hp])
        have q1 : (x.peer != -1) = true := by simp [hp1]
        have q2 : (x.peer != z) = true := by simp [hp2]
        clear hp hp1 hp2
        go_wp2_with fail
        go_roundw
        case rel => exact ⟨k + 1, by go_num, by omega, by rw [take_snoc_fm _ Z k z HZ.out, HO.out]; simpa using HRW.out, HF.out, HC.out⟩
        case measure => simp [intOf]; omega
    · obtain rfl : k = Z.length := by omega
      go_wp2
      go_ret
      exact ⟨u7, rfl, by rw [HFR.out]; simpa using HRW.out, fun g hg => Nat.le_trans HC2.out.size (HF.out g hg), HCw.out⟩
end Go.Proofs.Ytgdpapcgghiljaa
