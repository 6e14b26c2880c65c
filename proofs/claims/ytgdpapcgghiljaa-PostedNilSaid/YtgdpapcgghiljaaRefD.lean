/- Contracts of the reference queue (dispatcherref13): Ahead. -/
import Derived.Test.YtgdpapcgghiljaaRefC
set_option linter.unusedSimpArgs false
set_option linter.unusedVariables false
namespace Go.Proofs.Ytgdpapcgghiljaa
open Go.RowKit

/-- What the rounds have gathered is new. -/
def Fresh (w : World) (v : Value) : Prop := ∀ g, v.ownBlock = some g → w.heap.size ≤ g

theorem Fresh.nil (w : World) : Fresh w (.slice none 0 0) := fun g hg => by simp [Value.ownBlock] at hg

/-- A message is laid behind those that were gathered. -/
theorem gathered {w wr w1 : World} {v : Value} {g n c : Nat} {W : World} (hf : Fresh w v) (hc : Chg Non w wr) (hw : Chg Non wr W) (q2 : Chg (fun b => v.ownBlock = some b) W w1) (q3 : v.ownBlock = some g ∨ g = W.heap.size) :
    Fresh w (.slice (some ⟨g, 0, none⟩) n c) ∧ Chg Non w w1 := by
  have h0 := hc.non hw
  refine ⟨fun g' hg' => ?_, h0.trans q2 (fun b hb e => by have := hf b e; omega)⟩
  have e : g = g' := by simpa [Value.ownBlock] using hg'
  subst e
  rcases q3 with q | q
  · exact hf g q
  · rw [q]; exact h0.size

theorem take_snoc_filter (p : Msg → Bool) (ms : List Msg) (k : Nat) (x : Msg) (hx : ms[k]? = some x) : (ms.take (k + 1)).filter p = (ms.take k).filter p ++ (if p x then [x] else []) := by
  rw [List.take_add_one, hx, List.filter_append]
  congr 1
  cases h : p x <;> simp [h]

set_option maxRecDepth 100000 in
set_option maxHeartbeats 1000000 in
theorem rahead_none (p : Nat) (v : Value) (ms : List Msg) (m : Msg) (w : World) (h : RR w p v ms) (hl : ms.length ≤ 1000) (hn : plc m.frm m.call ms = -1) :
    Calls Try.prog 28 #[.pointer (some ⟨p, 0, none⟩), .agg m.cs] w fun e w' => e = .returned (.slice none 0 0) ∧ Chg Non w w' := by
  have hpl := fun W hc => place_any p v ms m.frm m.call W (h.non hc) (by omega)
  rw [hn] at hpl
  have HPL := Lib.hid hpl
  clear hpl hn h
  go_enter Try.func28, Try.ntmps28
  go_wp2_with (go_at_call 54; refine (HPL.out _ (by repeat (first | exact Chg.refl _ _ | refine Chg.alloc ?_ _))).mono ?_; rintro e w1 ⟨rfl, rfl⟩)
  have HC := Lib.hid ((Chg.refl Non w).alloc (Obj.cells m.cs 31))
  generalize w.alloc (Obj.cells m.cs 31) = W0 at HC ⊢
  go_loop [5, 7] (fun o i => o = .slice none 0 0 ∧ i = .int .i64 0) (fun _ i => 0)
  case atStart => exact ⟨rfl, rfl⟩
  case round =>
    obtain ⟨rfl, rfl⟩ := hrel
    go_wp2
    go_ret
    exact ⟨rfl, HC.out⟩

set_option maxRecDepth 100000 in
set_option maxHeartbeats 1000000 in
theorem rahead_some (p : Nat) (v : Value) (ms : List Msg) (m m0 : Msg) (at0 : Nat) (w : World) (h : RR w p v ms) (hl : ms.length ≤ 1000) (hn : plc m.frm m.call ms = at0) (hm0 : ms[at0]? = some m0) :
    Calls Try.prog 28 #[.pointer (some ⟨p, 0, none⟩), .agg m.cs] w fun e w' => ∃ v', e = .returned v' ∧ Row w' v' ((ms.take at0).filter (fun x => isB x m0.chan)) ∧ Fresh w v' ∧ Chg Non w w' := by
  have hpl := fun W hc => place_any p v ms m.frm m.call W (h.non hc) (by omega)
  rw [hn] at hpl
  have HPL := Lib.hid hpl
  obtain ⟨A, cp, rfl, hr, hA⟩ := h.row.form
  have c0 := fun W hc => (h.non (w' := W) hc).cell
  have hat : at0 < ms.length := (List.getElem?_eq_some_iff.1 hm0).1
  obtain ⟨g, o, rfl, hg, _⟩ := hr.at_ hm0
  have d1 : ∀ W, Chg Non w W → W.cell? ⟨g, o + at0 * 8, none⟩ = some (.string m0.key) := fun W hc => by
    obtain ⟨g', o', e, _, e1, _⟩ := (hr.non hc).at_ hm0
    cases e; exact e1
  have d2 : ∀ W, Chg Non w W → W.cell? ⟨g, o + at0 * 8 + 1, none⟩ = some (.int .i64 m0.frm) := fun W hc => by
    obtain ⟨g', o', e, _, _, e2⟩ := (hr.non hc).at_ hm0
    cases e; exact e2 0 (by omega)
  have d3 : ∀ W, Chg Non w W → W.cell? ⟨g, o + at0 * 8 + 2, none⟩ = some (.int .i64 m0.dst) := fun W hc => by
    obtain ⟨g', o', e, _, _, e2⟩ := (hr.non hc).at_ hm0
    cases e; exact e2 1 (by omega)
  have HM := Lib.hid hm0
  clear hpl hn h hm0
  go_enter Try.func28, Try.ntmps28
  go_wp2_with (go_at_call 54; refine (HPL.out _ (by repeat (first | exact Chg.refl _ _ | refine Chg.alloc ?_ _))).mono ?_; rintro e w1 ⟨rfl, rfl⟩)
  have HC := Lib.hid ((Chg.refl Non w).alloc (Obj.cells m.cs 31))
  generalize w.alloc (Obj.cells m.cs 31) = W0 at HC ⊢
  go_loopw [5, 7] (fun out i wr => ∃ k : Nat, i = .int .i64 k ∧ k ≤ at0 ∧ Row wr out ((ms.take k).filter (fun x => isB x m0.chan)) ∧ Fresh w out ∧ Chg Non w wr) (fun _ i _ => at0 - (intOf i).toNat)
  case atStart => exact ⟨0, rfl, by omega, by simpa using Row.nil W0, Fresh.nil w, HC.out⟩
  case round =>
    obtain ⟨k, rfl, hk, hrow, hfr, hc⟩ := hrel
    have HR := Lib.hid hrow
    have HF := Lib.hid hfr
    have HC1 := Lib.hid hc
    clear hrow hfr
    have k0 := fun W hW => c0 W (HC1.out.non hW)
    by_cases hlt : k < at0
    · obtain ⟨x, hx1⟩ : ∃ x, ms[k]? = some x := ⟨ms[k]'(by omega), List.getElem?_eq_getElem _⟩
      have e1 : ∀ W, Chg Non wr W → W.cell? ⟨g, o + k * 8, none⟩ = some (.string x.key) := fun W hc => by
        obtain ⟨g', o', e, _, e1, _⟩ := (hr.non (HC1.out.non hc)).at_ hx1
        cases e; exact e1
      have e2 : ∀ W, Chg Non wr W → ∀ j, j < 7 → W.cell? ⟨g, o + k * 8 + (j + 1), none⟩ = x.cs[j + 1]? := fun W hc => by
        obtain ⟨g', o', e, _, _, e2⟩ := (hr.non (HC1.out.non hc)).at_ hx1
        cases e; exact e2
      have f1 := fun W hW => d1 W (HC1.out.non hW)
      have f2 := fun W hW => d2 W (HC1.out.non hW)
      have f3 := fun W hW => d3 W (HC1.out.non hW)
      have hk1 : k < ms.length := by omega
      have HX := Lib.hid hx1
      clear hx1 c0 d1 d2 d3 hc
      go_wp2_with fail
      go_region_held3 (fun W => Chg Non wr W) ((repeat (first | assumption | exact Chg.refl _ _ | refine Chg.drew ?_ | refine Chg.alloc ?_ _))) ((go_at_call 60; refine (is_any x m0.key m0.frm m0.dst _).mono ?_; rintro e w1 ⟨rfl, hc1⟩; have hc2 := Chg.non (S := Non) (by assumption) hc1))
      clear hc1
      have q0 := fun W hW => k0 W (hc2.non hW)
      have g1 := fun W hW => e1 W (hc2.non hW)
      have g2 := fun W hW => e2 W (hc2.non hW)
      have HC2 := Lib.hid hc2
      clear hc2 k0 e1 e2 f1 f2 f3
      cases hB : isB x ⟨m0.key, m0.frm, m0.dst⟩
      · have HB := Lib.hid hB
        clear hB
        go_wp2
        go_roundw
        case rel => exact ⟨k + 1, by go_num, by omega, by rw [take_snoc_filter _ ms k x HX.out, show isB x m0.chan = false from HB.out]; simpa using HR.out.kept HC2.out (fun _ _ e => e), HF.out, HC1.out.non HC2.out⟩
        case measure => simp [intOf]; omega
      · have HB := Lib.hid hB
        clear hB
        have hl3 : ((ms.take k).filter (fun x => isB x m0.chan)).length ≤ 1000000 := by
          have h1 := List.length_filter_le (fun x => isB x m0.chan) (ms.take k)
          have h2 := List.length_take_le k ms
          omega
        have hrow1 : ∀ o, Row (w1.alloc o) u5 ((ms.take k).filter (fun x => isB x m0.chan)) := fun o => HR.out.kept (HC2.out.non ((Chg.refl _ _).alloc o)) (fun _ _ e => e)
        have HR1 := Lib.hid hrow1
        clear hrow1
        go_wp2_with ((at_builtin; refine wpList_appendM rfl _ _ rfl u5 ((ms.take k).filter (fun x => isB x m0.chan)) rfl (HR1.out _) w1.heap.size x 1 rfl _ (heap_alloc_new _ _) rfl hl3 ?_; intro gg cc w2 q1 q2 q3 q4))
        have hgt := gathered (n := ((ms.take k).filter (fun x => isB x m0.chan)).length + 1) (c := cc) HF.out HC1.out (HC2.out.non ((Chg.refl _ _).alloc _)) q2 q3
        go_roundw
        case rel => exact ⟨k + 1, by go_num, by omega, by rw [take_snoc_filter _ ms k x HX.out, show isB x m0.chan = true from HB.out]; exact q1, hgt.1, hgt.2⟩
        case measure => simp [intOf]; omega
    · obtain rfl : k = at0 := by omega
      clear c0 d1 d2 d3 hc k0
      go_wp2
      go_ret
      exact ⟨u5, rfl, HR.out, HF.out, HC1.out⟩
end Go.Proofs.Ytgdpapcgghiljaa
