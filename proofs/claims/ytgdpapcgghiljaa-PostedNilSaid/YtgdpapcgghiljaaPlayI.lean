/- Contracts of the program's queue: Take. -/
import Derived.Test.YtgdpapcgghiljaaPlayH
set_option linter.unusedSimpArgs false
set_option linter.unusedVariables false
namespace Go.Proofs.Ytgdpapcgghiljaa
open Go.RowKit

theorem tkf_sent (s : Sent) (m : Msg) : (tkf s m).sent = m.sent := by unfold tkf; split <;> rfl
theorem tkf_chan (s : Sent) (m : Msg) : (tkf s m).chan = m.chan := by unfold tkf; split <;> rfl

theorem ofChan_tk (s : Sent) (ms : List Msg) (c : Chan) : ofChan (tk s ms) c = tk s (ofChan ms c) := by
  unfold ofChan tk
  rw [List.filter_map]
  congr 1
  apply List.filter_congr
  intro x _
  simp [tkf_chan]

theorem sent_inj {ms : List Msg} (hn : (ms.map (·.sent)).Nodup) {x m : Msg} (hx : x ∈ ms) (hm : m ∈ ms) (e : x.sent = m.sent) : x = m := by
  obtain ⟨i, hi, rfl⟩ := List.getElem_of_mem hx
  obtain ⟨j, hj, rfl⟩ := List.getElem_of_mem hm
  have hp := List.pairwise_iff_getElem.1 hn
  rcases Nat.lt_trichotomy i j with h | h | h
  · have := hp i j (by simpa using hi) (by simpa using hj) h
    simp only [List.getElem_map] at this
    exact absurd e this
  · subst h; rfl
  · have := hp j i (by simpa using hj) (by simpa using hi) h
    simp only [List.getElem_map] at this
    exact absurd e.symm this

theorem tk_id {ms : List Msg} (hn : (ms.map (·.sent)).Nodup) {m : Msg} (hm : m ∈ ms) (ht : m.taken = true) : tk m.sent ms = ms := by
  unfold tk
  conv => rhs; rw [← List.map_id ms]
  apply List.map_congr_left
  intro x hx
  by_cases e : x.sent = m.sent
  · have := sent_inj hn hx hm e
    subst this
    cases x
    simp only at ht
    subst ht
    simp [tkf, Msg.take]
  · simp [tkf, e]

theorem QR.takes {w w' : World} {q r a : Nat} {rs : List (Chan × Value)} {ats : List (Sent × Value)} {ms : List Msg} (h : QR w q r a rs ats ms) {m : Msg} (hm : m ∈ ms) {v : Value} (hv : (m.chan, v) ∈ rs)
    (hrow : Row w' v (tk m.sent (ofChan ms m.chan))) (hc : Chg (fun b => v.ownBlock = some b) w w') : QR w' q r a rs ats (tk m.sent ms) := by
  have hap := h.apart
  simp only [blocksOf, List.nodup_cons, List.mem_cons, not_or] at hap
  obtain ⟨⟨n1, n2, n3⟩, ⟨n4, n5⟩, n6, n7⟩ := hap
  have hvb : ∀ b, v.ownBlock = some b → b ∈ rs.filterMap (·.2.ownBlock) := fun b hb => List.mem_filterMap.2 ⟨_, hv, hb⟩
  refine ⟨(hc.block q (h.lt q (by simp [blocksOf])) (fun e => n3 (hvb q e))).trans h.head, h.rows.of_block (hc.block r h.rows.lt (fun e => n5 (hvb r e))), h.at_.of_block (hc.block a h.at_.lt (fun e => n6 (hvb a e))), ?_, ?_, ?_, h.apart⟩
  · have : (tk m.sent ms).map (fun m => (m.sent, m.chan.v)) = ms.map (fun m => (m.sent, m.chan.v)) := by
      simp [tk, List.map_map, Function.comp_def, tkf_sent, tkf_chan]
    rw [this]; exact h.sent
  · intro x hx
    obtain ⟨y, hy, rfl⟩ := List.mem_map.1 hx
    rw [tkf_chan]
    exact h.chans y hy
  · intro p hp
    rw [ofChan_tk]
    by_cases hpc : p.1 = m.chan
    · obtain ⟨pc, pv⟩ := p
      simp only at hpc
      subst hpc
      have : pv = v := by
        have e1 := h.rows_yes hp
        have e2 := h.rows_yes hv
        rw [e1] at e2
        exact Option.some.inj e2
      subst this
      exact hrow
    · have e1 : tk m.sent (ofChan ms p.1) = ofChan ms p.1 := by
        unfold tk
        conv => rhs; rw [← List.map_id (ofChan ms p.1)]
        apply List.map_congr_left
        intro x hx
        have hx' := List.mem_filter.1 hx
        have hne : x.sent ≠ m.sent := by
          intro e
          have := sent_inj h.nodup hx'.1 hm e
          subst this
          exact hpc (by simpa using Eq.symm (of_decide_eq_true hx'.2))
        simp [tkf, hne]
      rw [e1]
      refine (h.row p hp).kept hc fun b hb e => ?_
      -- two rows share no block
      obtain ⟨i, hi, e2⟩ := List.getElem_of_mem hp
      obtain ⟨j, hj, e3⟩ := List.getElem_of_mem hv
      have hne : i ≠ j := by
        rintro rfl
        rw [e2] at e3
        exact hpc (by rw [e3])
      have hpw := List.pairwise_iff_getElem.1 (List.pairwise_filterMap.1 n7)
      rcases Nat.lt_or_gt_of_ne hne with hl | hl
      · have := hpw i j hi hj hl b (by rw [e2]; exact hb) b (by rw [e3]; exact e)
        exact this rfl
      · have := hpw j i hj hi hl b (by rw [e3]; exact e) b (by rw [e2]; exact hb)
        exact this rfl

set_option maxRecDepth 100000 in
set_option maxHeartbeats 1000000 in
theorem ptake_none (q r a : Nat) (rs : List (Chan × Value)) (ats : List (Sent × Value)) (ms : List Msg) (f c : Int) (w : World) (h : QR w q r a rs ats ms) (hno : ∀ m ∈ ms, m.sent ≠ ⟨f, c⟩) :
    Calls Try.prog 15 #[.pointer (some ⟨q, 0, none⟩), .int .i64 f, .int .i64 c] w fun e w' => e = .returned (.int .i64 2) ∧ Chg Non w w' := by
  have c0 := h.c0 w (Chg.refl _ _)
  have hq := h.lt q (by simp [blocksOf])
  have HF := Lib.hid (find_no q r a rs ats ms f c w h hno)
  clear h hno
  go_enter Try.func15, Try.ntmps15
  go_wp2_with (first
    | (go_at_call 52; refine (none_no q r _ ?_).mono ?_; (try go_simp); rintro e w1 ⟨rfl, rfl⟩)
    | (go_at_call 55; refine HF.out.mono ?_; rintro e w1 ⟨rfl, hc⟩))
  go_ret
  exact ⟨rfl, hc⟩

set_option maxRecDepth 100000 in
set_option maxHeartbeats 1000000 in
theorem ptake_some (q r a : Nat) (rs : List (Chan × Value)) (ats : List (Sent × Value)) (ms : List Msg) (m : Msg) (w : World) (h : QR w q r a rs ats ms) (hm : m ∈ ms) (hl : ms.length ≤ 1000) :
    Calls Try.prog 15 #[.pointer (some ⟨q, 0, none⟩), .int .i64 m.frm, .int .i64 m.call] w fun e w' => e = .returned (.int .i64 (if m.taken then 2 else 0)) ∧ QR w' q r a rs ats (tk m.sent ms) ∧ Chg (In (blocksOf q r a rs)) w w' := by
  have c0 := h.c0 w (Chg.refl _ _)
  have hq := h.lt q (by simp [blocksOf])
  obtain ⟨v, hv⟩ := h.chans m hm
  obtain ⟨k, hk, hmk⟩ := idx_ofChan h.nodup hm
  have hrow : Row w v (ofChan ms m.chan) := h.row _ hv
  have hf := find_yes q r a rs ats ms m v w h hm hv hl
  rw [hk] at hf
  have HH := Lib.hid h
  have HV := Lib.hid hv
  have hkl : k < (ofChan ms m.chan).length := (List.getElem?_eq_some_iff.1 hmk).1
  have hnd : ((ofChan ms m.chan).map (·.sent)).Nodup := (List.filter_sublist.map _).nodup h.nodup
  obtain ⟨A, cp, rfl, hr, hA⟩ := hrow.form
  obtain ⟨g, o, rfl, hg, _⟩ := hr.at_ hmk
  have ho : o = 0 := by
    rcases hrow.2 with ⟨e, _⟩ | ⟨g', cap', cur, e, _⟩
    · cases e
    · cases e; rfl
  subst ho
  have HF := Lib.hid hf
  have HR := Lib.hid hrow
  have HM := Lib.hid hmk
  clear hf h hv hk hr
  cases hT : m.taken
  all_goals
    have HT := Lib.hid hT
    clear hT
    go_enter Try.func15, Try.ntmps15
    go_wp2_with (go_at_call 52; refine (none_no q r _ ?_).mono ?_; (try go_simp); rintro e w1 ⟨rfl, rfl⟩)
    refine HF.out.mono ?_
    rintro e w1 ⟨rfl, hc1⟩
    have HC1 := Lib.hid hc1
    have hrow1 := HR.out.kept hc1 (fun _ _ e => e)
    have HR1 := Lib.hid hrow1
    obtain ⟨A, cp', e0, hr1, _⟩ := hrow1.form
    simp only [Value.slice.injEq, true_and] at e0
    obtain ⟨rfl, rfl⟩ := e0
    obtain ⟨g', o', e0, hg1, e1, e2⟩ := hr1.at_ HM.out
    simp only [Option.some.injEq, Addr.mk.injEq, and_true] at e0
    obtain ⟨rfl, rfl⟩ := e0
    simp only [Nat.zero_add] at e1 e2
    have hfr : w1.frozen? ⟨g, k * 8 + 7, none⟩ = false := hrow1.frozen _
    have e7 : w1.cell? ⟨g, k * 8 + 7, none⟩ = some (.bool m.taken) := e2 6 (by omega)
    rw [HT.out] at e7
    clear hrow1 hr1 e1 e2 hc1
    go_wp2
    go_ret
  · have hc2 : Chg (fun b => (Value.slice (some ⟨g, 0, none⟩) (ofChan ms m.chan).length cp).ownBlock = some b) w1 (w1.setCell ⟨g, k * 8 + 7, none⟩ (.bool true)) := by refine Chg.set ?_ _; rfl
    have hq2 := HH.out.non HC1.out
    refine ⟨rfl, hq2.takes hm HV.out (by rw [← set_eq_tk hnd HM.out]; exact HR1.out.taken HM.out) hc2, HC1.out.any.trans hc2 (fun b hb e => ?_)⟩
    simp only [In, blocksOf, List.mem_cons, List.mem_filterMap]
    exact .inr (.inr (.inr ⟨_, HV.out, e⟩))
  · refine ⟨rfl, ?_, HC1.out.any⟩
    rw [tk_id HH.out.nodup hm HT.out]
    exact HH.out.non HC1.out
end Go.Proofs.Ytgdpapcgghiljaa
