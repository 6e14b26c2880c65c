/- Contracts of the program's queue: Send, where it takes. -/
import Derived.Test.YtgdpapcgghiljaaPlayG
set_option linter.unusedSimpArgs false
set_option linter.unusedVariables false
namespace Go.Proofs.Ytgdpapcgghiljaa
open Go.RowKit
open Go.ChangeMaps (setBlock heap_setBlock_same heap_setBlock_other)

theorem MapB.entryF {P : Program} {K : TypeId} {α : Type} [DecidableEq α] {kv : α → Value} {t e : TypeId} {w0 : World} {b : Nat} {M : List (α × Value)} (h : MapB kv w0 b M) (kt : KeyT P K kv) (ht : P.underlying t = some (.map K e)) {z : Value} (hz : ∀ w, (zeroValue e).run P w = .ok z w) (x : α) :
    ∃ (O : Obj) (n : Int), ∀ w : World, w.heap[b]? = w0.heap[b]? → (Instr.mapEntry t (.map (some b)) (kv x)).run P w = .ok (.tuple #[(mget M x).getD z, .int .i64 n]) (setBlock w b O) ∧ MapN kv (setBlock w b O) b (menter M x z) x n := by
  obtain ⟨es, ck, hb0, hst, he, hn⟩ := h
  have hf := fun w => run_findKey kt w x es.toList M he
  cases hi : M.findIdx? (fun p => p.1 == x) with
  | none =>
    simp only [hi, Option.map_none] at hf
    have hme : menter M x z = mput M x z := by
      have hi' := hi
      rw [List.findIdx?_eq_none_iff] at hi'
      have : M.any (fun p => p.1 == x) = false := List.any_eq_false.2 fun p hp => by simp [hi' p hp]
      simp [menter, mput, this]
    refine ⟨.map (es.push ⟨kv x, z, ck⟩) (ck + 1), ck, fun w hw => ?_⟩
    have hb : w.heap[b]? = some (.map es ck) := hw.trans hb0
    refine ⟨?_, ⟨_, _, heap_setBlock_same hb _, MapKept.stamped_push hst (absent_ne kt he x hi), ?_, by rw [hme]; exact nodup_put hn, ⟨kv x, z, ck⟩, by simp, rfl, rfl⟩⟩
    · simp [Instr.mapEntry, run_underlying ht, MapKept.run_getObj_map hb, kt.check, hf, hz, MapKept.run_setObj_map _ hb, Result.andThen, setBlock, find_of_findIdx, hi, goInt]
    · rw [hme, mput_absent x z hi, Array.toList_push]
      exact entOf_push he x z ck
  | some j =>
    obtain ⟨hlt, hx, _⟩ := List.findIdx?_eq_some_iff_getElem.1 hi
    have hx' : M[j].1 = x := by simpa using hx
    have hl := entOf_len he
    have hjs : j < es.size := by simp at hl; omega
    have hget := entOf_get he j
    simp only [Array.getElem?_toList, Array.getElem?_eq_getElem hjs, List.getElem?_eq_getElem hlt, Option.map_some, Option.some.injEq, Prod.mk.injEq, hx'] at hget
    have hkey : (es[j]'hjs).key = kv x := hget.1
    simp only [hi, Option.map_some, List.getElem?_eq_getElem hlt, Option.getD_some] at hf
    have hme : menter M x z = M := by
      have : M.any (fun p => p.1 == x) = true := List.any_eq_true.2 ⟨M[j], List.getElem_mem hlt, hx⟩
      simp [menter, this]
    have hmod : (es.modify j fun e => { e with key := kv x }).toList = es.toList := by
      apply List.ext_getElem (by simp)
      intro i h1 h2
      simp only [Array.getElem_toList, Array.getElem_modify]
      split
      · rename_i e1; subst e1; generalize es[j]'hjs = y at hkey ⊢; rw [← hkey]
      · rfl
    refine ⟨.map (es.modify j fun e => { e with key := kv x }) ck, (es[j]'hjs).born, fun w hw => ?_⟩
    have hb : w.heap[b]? = some (.map es ck) := hw.trans hb0
    refine ⟨?_, ⟨_, _, heap_setBlock_same hb _,
      MapKept.stamped_modify hst j _ (fun _ _ => rfl) (fun e' _ he' => ?_), ?_, by rw [hme]; exact hn, es[j]'hjs, by rw [hmod]; simp, hkey, rfl⟩⟩
    · simp [Instr.mapEntry, run_underlying ht, MapKept.run_getObj_map hb, kt.check, hf, Array.getElem?_eq_getElem hjs, hkey, kt.stays, MapKept.run_setObj_map _ hb, Result.andThen, setBlock, find_of_findIdx, hi, List.getElem?_eq_getElem hlt, goInt]
    · rw [Array.getElem?_eq_getElem hjs] at he'
      cases he'
      exact hkey.symm
    · rw [hme, hmod]
      exact he

theorem Chg.setB {S : Nat → Prop} {w w1 : World} (h : Chg S w w1) {b : Nat} (hb : S b) (O : Obj) : Chg S w (setBlock w1 b O) :=
  h.trans (S' := S) ⟨rfl, rfl, rfl, by simp [setBlock], fun k hk hn => by
    by_cases hl : k = b
    · subst hl; exact absurd hb hn
    · simp [setBlock, Array.getElem?_setIfInBounds, Ne.symm hl]⟩ (fun _ _ e => e)

theorem heap_setB_other {w : World} {b i : Nat} (O : Obj) (h : i ≠ b) : (setBlock w b O).heap[i]? = w.heap[i]? := by
  simp [setBlock, Array.getElem?_setIfInBounds, Ne.symm h]

theorem setB_same {w : World} {b : Nat} {O : Obj} (h : b < w.heap.size) : (setBlock w b O).heap[b]? = some O := by
  simp [setBlock, Array.getElem?_setIfInBounds, h]

/-- A row's block is none of the three. -/
theorem QR.row_ne {w : World} {q r a : Nat} {rs : List (Chan × Value)} {ats : List (Sent × Value)} {ms : List Msg} (h : QR w q r a rs ats ms) {c : Chan} {v : Value} (hv : (mget rs c).getD (.slice none 0 0) = v) {b : Nat} (hb : b = q ∨ b = r ∨ b = a) : v.ownBlock ≠ some b := by
  intro e
  have hm : b ∈ rs.filterMap (·.2.ownBlock) := by
    rcases mput_cases rs c v h.rowsNodup with ⟨L1, L2, v0, e1, _, e3, _⟩ | ⟨_, _, e3⟩
    · rw [e3] at hv
      simp only [Option.getD_some] at hv
      subst hv
      rw [e1]
      exact List.mem_filterMap.2 ⟨(c, v0), by simp, e⟩
    · rw [e3] at hv
      simp only [Option.getD_none] at hv
      subst hv
      simp [Value.ownBlock] at e
  have hap := h.apart
  simp only [blocksOf, List.nodup_cons, List.mem_cons, not_or] at hap
  obtain ⟨⟨n1, n2, n3⟩, ⟨n4, n5⟩, n6, n7⟩ := hap
  rcases hb with rfl | rfl | rfl
  · exact n3 hm
  · exact n5 hm
  · exact n6 hm

theorem QR.ne {w : World} {q r a : Nat} {rs : List (Chan × Value)} {ats : List (Sent × Value)} {ms : List Msg} (h : QR w q r a rs ats ms) : q ≠ r ∧ q ≠ a ∧ r ≠ a := by
  have hap := h.apart
  simp only [blocksOf, List.nodup_cons, List.mem_cons, not_or] at hap
  exact ⟨hap.1.1, hap.1.2.1, hap.2.1.1⟩

set_option maxRecDepth 100000 in
set_option maxHeartbeats 2000000 in
theorem psend_yes (q r a : Nat) (rs : List (Chan × Value)) (ats : List (Sent × Value)) (ms : List Msg) (m : Msg) (w : World) (h : QR w q r a rs ats ms) (hl : ms.length ≤ 1000) (hn : Ok ms m) :
    Calls Try.prog 13 #[.pointer (some ⟨q, 0, none⟩), .agg m.cs] w fun e w' => e = .returned (.int .i64 0) ∧ ∃ rs' ats', QR w' q r a rs' ats' (ms ++ [m]) ∧ Chg (In (blocksOf q r a rs)) w w' ∧ (∀ b ∈ blocksOf q r a rs', b ∈ blocksOf q r a rs ∨ w.heap.size ≤ b) := by
  obtain ⟨⟨h1, h2, h3, h4, h5, h6, h7, h8, h9, h10⟩, h11⟩ := hn
  have hno := plc_neg.1 h11
  have hq := h.lt q (by simp [blocksOf])
  have hrl := h.rows.lt
  have hal := h.at_.lt
  have c0 := h.c0
  have c1 := h.c1
  have hlk := h.lookNo hno
  have d5 : decide (m.call < 0) = false := by simpa using h5
  have HH := Lib.hid h
  have HNO := Lib.hid hno
  clear h hno h11
  go_enter Try.func13, Try.ntmps13
  go_wp2_with (go_at_call 52; refine (none_no q r _ ?_).mono ?_; (try go_simp); rintro e w1 ⟨rfl, rfl⟩)
  have hbx := fun i => box_cell w m.cs 31 (S := Non) (fun e => e) i
  have hC0 : Chg Non w (w.alloc (Obj.cells m.cs 31)) := (Chg.refl _ _).alloc _
  have hs0 : w.heap.size < (w.alloc (Obj.cells m.cs 31)).heap.size := by simp
  generalize w.alloc (Obj.cells m.cs 31) = W0 at hbx hC0 hs0 ⊢
  have k1 : ∀ W, Chg Non W0 W → W.cell? ⟨q, 1, none⟩ = some (.map (some a)) := fun W hc => c1 W (hC0.non hc)
  have k2 := fun W hc => hlk W (hC0.non hc)
  have k3 : ∀ W, Chg Non W0 W → W.cell? ⟨w.heap.size, 1, none⟩ = some (.int .i64 m.frm) := hbx 1
  have k4 : ∀ W, Chg Non W0 W → W.cell? ⟨w.heap.size, 3, none⟩ = some (.int .i64 m.call) := hbx 3
  have HC0 := Lib.hid hC0
  have D0 := Lib.hid c0
  have D1 := Lib.hid c1
  clear hC0 c1 c0 hlk
  have HBX := Lib.hid hbx
  clear hbx
  go_region_held3 (fun W => Chg Non W0 W) ((repeat (first | assumption | exact Chg.refl _ _ | refine Chg.drew ?_ | refine Chg.alloc ?_ _))) (fail)
  all_goals
    have hC1 : Chg Non W0 (W0.alloc (Obj.cells #[Value.string ⟨#[]⟩, Value.int IntKind.i64 0, Value.int IntKind.i64 0] 100)).drew := ((Chg.refl _ _).alloc _).drew
    have hW1 : (W0.alloc (Obj.cells #[Value.string ⟨#[]⟩, Value.int IntKind.i64 0, Value.int IntKind.i64 0] 100)).drew.heap.size = W0.heap.size + 1 := by simp
    generalize (W0.alloc (Obj.cells #[Value.string ⟨#[]⟩, Value.int IntKind.i64 0, Value.int IntKind.i64 0] 100)).drew = W1 at hC1 hW1 ⊢
    have g0 : W1.cell? ⟨w.heap.size, 0, none⟩ = some (.string m.key) := HBX.out 0 W1 hC1
    have g1 : W1.cell? ⟨w.heap.size, 1, none⟩ = some (.int .i64 m.frm) := HBX.out 1 W1 hC1
    have g2 : W1.cell? ⟨w.heap.size, 2, none⟩ = some (.int .i64 m.dst) := HBX.out 2 W1 hC1
    have g3 : W1.cell? ⟨w.heap.size, 3, none⟩ = some (.int .i64 m.call) := HBX.out 3 W1 hC1
    have g4 : W1.cell? ⟨w.heap.size, 4, none⟩ = some (.int .i64 m.tag) := HBX.out 4 W1 hC1
    have g6 : W1.cell? ⟨w.heap.size, 6, none⟩ = some (.int .i64 m.size) := HBX.out 6 W1 hC1
    have g7 : W1.cell? ⟨w.heap.size, 7, none⟩ = some (.bool false) := by rw [← h10]; exact HBX.out 7 W1 hC1
    have H10 := Lib.hid h10
    have HC1 := Lib.hid hC1
    rename_i hHeld_; clear k1 k2 k3 k4 hC1 hHeld_ h10
    go_wp2_with (go_at_call 53; refine (in_yes _ _ _ _ ⟨by assumption, by assumption⟩).mono ?_; rintro e w1 ⟨rfl, rfl⟩)
    have hb7 : ∀ W, Chg Non (W1.alloc (Obj.cells #[Value.string m.key, Value.int IntKind.i64 m.frm, Value.int IntKind.i64 m.dst] 100)) W → ∀ i, W.cell? ⟨W0.heap.size + 1, i, none⟩ = #[Value.string m.key, Value.int IntKind.i64 m.frm, Value.int IntKind.i64 m.dst][i]? := fun W hc i => by
      rw [← hW1]; exact box_cell W1 _ 100 (S := Non) (fun e => e) i W hc
    have hC2 : Chg Non w (W1.alloc (Obj.cells #[Value.string m.key, Value.int IntKind.i64 m.frm, Value.int IntKind.i64 m.dst] 100)) := (HC0.out.non HC1.out).alloc _
    have hC2' : Chg Non W0 (W1.alloc (Obj.cells #[Value.string m.key, Value.int IntKind.i64 m.frm, Value.int IntKind.i64 m.dst] 100)) := HC1.out.alloc _
    have hs2 : W0.heap.size + 1 < (W1.alloc (Obj.cells #[Value.string m.key, Value.int IntKind.i64 m.frm, Value.int IntKind.i64 m.dst] 100)).heap.size := by simp; omega
    generalize (W1.alloc (Obj.cells #[Value.string m.key, Value.int IntKind.i64 m.frm, Value.int IntKind.i64 m.dst] 100)) = W2 at hb7 hC2 hC2' hs2 ⊢
    have HQ := Lib.hid (HH.out.non hC2)
    clear g0 g1 g2 g3 g4 g6 g7 d5 hW1 HC1
    obtain ⟨v, hv, hrow, hvb⟩ := HQ.out.rows_any m.chan
    obtain ⟨A, cp, hvA, hrd, hA⟩ := hrow.form
    have hvq : v.ownBlock ≠ some q := HQ.out.row_ne hv (by simp)
    have hvr : v.ownBlock ≠ some r := HQ.out.row_ne hv (by simp)
    have hva : v.ownBlock ≠ some a := HQ.out.row_ne hv (by simp)
    have hqr : q ≠ r := HQ.out.ne.1
    have hvw : ∀ k, v.ownBlock = some k → k < w.heap.size := fun k hk => HH.out.lt k (hvb k hk)
    have hlen : (ofChan ms m.chan).length ≤ 1000000 := by have := List.length_filter_le (fun x => decide (x.chan = m.chan)) ms; unfold ofChan; omega
    obtain ⟨O, n, hE⟩ := HQ.out.rows.entryF chanKey Try.underlying95 zero27 m.chan
    rw [hv] at hE
    have hrl2 : r < W2.heap.size := HQ.out.rows.lt
    have E1 : ∀ W, Chg Non W2 W → (Instr.mapEntry 95 (.map (some r)) (.agg #[.string m.key, .int .i64 m.frm, .int .i64 m.dst])).run Try.prog W = .ok (.tuple #[v, .int .i64 n]) (setBlock W r O) := fun W hc => (hE W (hc.block r hrl2 (fun e => e))).1
    have EN : ∀ W : World, W.heap[r]? = some O → MapN Chan.v W r (menter rs m.chan (.slice none 0 0)) m.chan n := fun W hW => (hE W2 rfl).2.of_block (hW.trans (setB_same hrl2).symm)
    have hN7' : ¬ (W0.heap.size + 1 = r ∨ W0.heap.size + 1 = a ∨ v.ownBlock = some (W0.heap.size + 1)) := by
      rintro (e | e | e)
      · omega
      · omega
      · have := hvw _ e; omega
    have hNw' : ¬ (w.heap.size = r ∨ w.heap.size = a ∨ v.ownBlock = some w.heap.size) := by
      rintro (e | e | e)
      · omega
      · omega
      · have := hvw _ e; omega
    have hN7 : ¬ (W0.heap.size + 1 = r ∨ v.ownBlock = some (W0.heap.size + 1)) := by
      rintro (e | e)
      · omega
      · have := hvw _ e; omega
    have hNw : ¬ (w.heap.size = r ∨ v.ownBlock = some w.heap.size) := by
      rintro (e | e)
      · omega
      · have := hvw _ e; omega
    have ca : ∀ o, Chg Non W2 (W2.alloc o).drew := fun o => ((Chg.refl _ _).alloc _).drew
    have s0 : ∀ W, Chg (fun b => b = r ∨ v.ownBlock = some b) W2 W → W.cell? ⟨q, 0, none⟩ = some (.map (some r)) := fun W hc => by
      rw [hc.cell (Nat.lt_of_lt_of_le hq hC2.size) (by rintro (e | e); exact hqr e; exact hvq e)]; exact D0.out W2 hC2
    have s7 : ∀ W, Chg (fun b => b = r ∨ v.ownBlock = some b) W2 W → ∀ i, W.cell? ⟨W0.heap.size + 1, i, none⟩ = #[Value.string m.key, Value.int IntKind.i64 m.frm, Value.int IntKind.i64 m.dst][i]? := fun W hc i => by
      rw [hc.cell hs2 hN7]; exact hb7 W2 (Chg.refl _ _) i
    have sm : ∀ W, Chg (fun b => b = r ∨ v.ownBlock = some b) W2 W → ∀ i, W.cell? ⟨w.heap.size, i, none⟩ = m.cs[i]? := fun W hc i => by
      rw [hc.cell (by simp only; omega) hNw]; exact HBX.out i W2 hC2'
    have s70 : ∀ W, Chg (fun b => b = r ∨ v.ownBlock = some b) W2 W → W.cell? ⟨W0.heap.size + 1, 0, none⟩ = some (.string m.key) := fun W hc => s7 W hc 0
    have s71 : ∀ W, Chg (fun b => b = r ∨ v.ownBlock = some b) W2 W → W.cell? ⟨W0.heap.size + 1, 1, none⟩ = some (.int .i64 m.frm) := fun W hc => s7 W hc 1
    have s72 : ∀ W, Chg (fun b => b = r ∨ v.ownBlock = some b) W2 W → W.cell? ⟨W0.heap.size + 1, 2, none⟩ = some (.int .i64 m.dst) := fun W hc => s7 W hc 2
    have sm0 : ∀ W, Chg (fun b => b = r ∨ v.ownBlock = some b) W2 W → W.cell? ⟨w.heap.size, 0, none⟩ = some (.string m.key) := fun W hc => sm W hc 0
    have sm1 : ∀ W, Chg (fun b => b = r ∨ v.ownBlock = some b) W2 W → ∀ j, j < 7 → W.cell? ⟨w.heap.size, j + 1, none⟩ = m.cs[j + 1]? := fun W hc j _ => sm W hc (j + 1)
    have HROW := Lib.hid hrow
    have HV := Lib.hid hv
    have HVB := Lib.hid hvb
    have HC2 := Lib.hid hC2
    have HC2' := Lib.hid hC2'
    have HB7 := Lib.hid hb7
    have HN7 := Lib.hid hN7'
    have HNW := Lib.hid hNw'
    clear hN7 hNw hN7' hNw' hvA hrd hA hrow hv hvb hE s7 sm hC2 hC2' hb7
    go_region_held_law (fun W => Chg (fun b => b = r ∨ v.ownBlock = some b) W2 W) ((repeat (first | assumption | exact Chg.refl _ _ | refine Chg.drew ?_ | refine Chg.alloc ?_ _ | refine Chg.setB ?_ (.inl rfl) _)))
      ((
        refine step_appendM (by rfl) _ _ (by rfl) v (ofChan ms m.chan) (by rfl) (HROW.out.kept (S := fun b => b = r) (by repeat (first | exact Chg.refl _ _ | refine Chg.drew ?_ | refine Chg.alloc ?_ _ | refine Chg.setB (S := fun b => b = r) (b := r) ?_ (Eq.refl r) _)) (fun g hg e => hvr (e ▸ hg))) _ m 1 (by rfl) _ (by first | exact heap_alloc_new _ _ | exact (heap_setB_other _ (by simp; omega)).trans (heap_alloc_new _ _)) (by simp [Msg.cs, H10.out]) (by omega) ?_
        intro g cap w3 q1 q2 q3 q4
        have zW : Chg (fun b => b = r ∨ v.ownBlock = some b) W2 w3 := (show Chg (fun b => b = r ∨ v.ownBlock = some b) W2 _ by repeat (first | exact Chg.refl _ _ | refine Chg.drew ?_ | refine Chg.alloc ?_ _ | refine Chg.setB ?_ (.inl rfl) _)).same (q2.mono (fun _ _ e => .inr e))
        have hr3 : w3.heap[r]? = some O := (q2.block r (by simp [setBlock]; omega) hvr).trans (by first | exact setB_same (by simp; omega) | exact (Below.heap_alloc _ _ _ (by simp [setBlock]; omega)).trans (setB_same (by simp; omega)))
        obtain ⟨w4, t1, t2, t3, t4⟩ := (EN w3 hr3).store chanKey (t := 95) (.slice (some ⟨g, 0, none⟩) ((ofChan ms m.chan).length + 1) cap)
        have ZX : Chg (fun b => b = r ∨ v.ownBlock = some b) W2 w4 := zW.grown t3 (fun k hk => .inr (.inl (by cases hk; rfl)))
        have Q1 := Lib.hid (q1.kept ((Chg.refl (fun b => b = r) w3).grown t3 (fun k hk => .inr (by cases hk; rfl))) (fun g' hg' e => by
          have e1 : g = g' := by simpa [Value.ownBlock] using hg'
          have e2 : g = r := e1.trans e
          rcases q3 with q | q
          · rw [e2] at q; exact hvr q
          · rw [e2] at q; simp [setBlock] at q; omega))
        have Q3 := Lib.hid (show v.ownBlock = some g ∨ W2.heap.size ≤ g by
          rcases q3 with q | q
          · exact .inl q
          · exact .inr (by rw [q]; simp [setBlock]))
        have T2 := Lib.hid (mput_menter rs m.chan _ _ ▸ t2)
        clear q1 q2 q3 q4 t2 t3 t4 hr3))
    all_goals
      clear s0 s70 s71 s72 sm0 sm1 E1 EN ca
      rename_i hHeld2_
      clear hHeld2_
      have zN : ∀ W, Chg (fun b => b = a) w4 W → Chg (fun b => b = r ∨ b = a ∨ v.ownBlock = some b) W2 W := fun W hc => (ZX.mono (fun b _ e => by rcases e with e | e; exact .inl e; exact .inr (.inr e))).trans hc (fun b _ e => .inr (.inl e))
      have s1 : ∀ W, Chg (fun b => b = a) w4 W → W.cell? ⟨q, 1, none⟩ = some (.map (some a)) := fun W hc => by
        rw [(zN W hc).cell (Nat.lt_of_lt_of_le hq HC2.out.size) (by rintro (e | e | e); exact hqr e; exact HQ.out.ne.2.1 e; exact hvq e)]; exact D1.out W2 HC2.out
      have s70 : ∀ W, Chg (fun b => b = a) w4 W → W.cell? ⟨W0.heap.size + 1, 0, none⟩ = some (.string m.key) := fun W hc => by
        rw [(zN W hc).cell hs2 HN7.out]; exact HB7.out W2 (Chg.refl _ _) 0
      have s71 : ∀ W, Chg (fun b => b = a) w4 W → W.cell? ⟨W0.heap.size + 1, 1, none⟩ = some (.int .i64 m.frm) := fun W hc => by
        rw [(zN W hc).cell hs2 HN7.out]; exact HB7.out W2 (Chg.refl _ _) 1
      have s72 : ∀ W, Chg (fun b => b = a) w4 W → W.cell? ⟨W0.heap.size + 1, 2, none⟩ = some (.int .i64 m.dst) := fun W hc => by
        rw [(zN W hc).cell hs2 HN7.out]; exact HB7.out W2 (Chg.refl _ _) 2
      have sm1 : ∀ W, Chg (fun b => b = a) w4 W → W.cell? ⟨w.heap.size, 1, none⟩ = some (.int .i64 m.frm) := fun W hc => by
        rw [(zN W hc).cell (by simp only; omega) HNW.out]; exact HBX.out 1 W2 HC2'.out
      have sm3 : ∀ W, Chg (fun b => b = a) w4 W → W.cell? ⟨w.heap.size, 3, none⟩ = some (.int .i64 m.call) := fun W hc => by
        rw [(zN W hc).cell (by simp only; omega) HNW.out]; exact HBX.out 3 W2 HC2'.out
      have hat4 : MapB Sent.v w4.drew a ats := HQ.out.at_.of_block (show w4.heap[a]? = W2.heap[a]? from ZX.block a HQ.out.at_.lt (by rintro (e | e); exact HQ.out.ne.2.2 e.symm; exact hva e))
      obtain ⟨w5, u1, u2, u3, u4⟩ := hat4.update sentKey Try.underlying96 m.sent m.chan.v
      have u1' : (Instr.mapUpdate 96 (.map (some a)) (.agg #[.int .i64 m.frm, .int .i64 m.call]) (.agg #[.string m.key, .int .i64 m.frm, .int .i64 m.dst])).run Try.prog w4.drew = .ok () w5 := u1
      have U2 := Lib.hid u2
      have z5 : Chg (fun b => b = a) w4 w5 := (Chg.refl _ w4).drew.grown u3 (fun k hk => .inr (by cases hk; rfl))
      have ZN := Lib.hid zN
      clear u1 u2 u3 u4 zN
      go_wp2_with fail
      go_region_held3 (fun W => Chg (fun b => b = a) w4 W) ((repeat (first | assumption | exact Chg.refl _ _ | refine Chg.drew ?_ | refine Chg.alloc ?_ _))) (fail)
      all_goals
        go_wp2
        go_ret
        have zAll := ZN.out w5 z5
        have hga : ∀ g', (Value.slice (some ⟨g, 0, none⟩) ((ofChan ms m.chan).length + 1) cap).ownBlock = some g' → ¬ g' = a := by
          intro g' hg' e
          have e1 : g = g' := by simpa [Value.ownBlock] using hg'
          have e2 : g = a := e1.trans e
          have hal2 : a < W2.heap.size := HQ.out.at_.lt
          rcases Q3.out with q | q
          · rw [e2] at q; exact hva q
          · omega
        obtain ⟨rs', ats', hq', hb'⟩ := HQ.out.put m HNO.out v HV.out g _ cap (Q1.out.kept z5 hga) Q3.out zAll (T2.out.of_block (z5.block r T2.out.lt HQ.out.ne.2.2)) U2.out
        refine ⟨rfl, rs', ats', hq', HC2.out.any.trans zAll (fun b hb e => ?_), fun b hb => ?_⟩
        · rcases e with e | e | e
          · subst e; simp [In, blocksOf]
          · subst e; simp [In, blocksOf]
          · exact HVB.out b e
        · rcases hb' b hb with hb' | hb'
          · exact .inl hb'
          · exact .inr (Nat.le_trans HC2.out.size hb')

end Go.Proofs.Ytgdpapcgghiljaa
