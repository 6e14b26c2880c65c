/- Contracts: slices.ContainsFunc over messages, slices.Sort over ints, the program's Senders. -/
import Derived.Test.YtgdpapcgghiljaaPlayC
import Derived.Test.YtgdpapcgghiljaaShelf
import Derived.Sort.OwnSortedInts
set_option linter.unusedSimpArgs false
set_option linter.unusedVariables false
namespace Go.Proofs.Ytgdpapcgghiljaa
open Go.RowKit

theorem sortI (v : Value) (zs : List Int) (w : World) (h : RowI w v zs) (hl : zs.length ≤ 1000000) :
    Calls Try.prog 63 #[v] w fun e w' => e = .returned (.tuple #[]) ∧ RowI w' v (zs.mergeSort fun x y => decide (x ≤ y)) ∧ Chg (fun b => v.ownBlock = some b) w w' := by
  rcases h.2 with ⟨rfl, hn⟩ | ⟨g, cap, cur, rfl, hb, hg, hc, hm, hcs, ht⟩
  · have hz : zs = [] := List.eq_nil_of_length_eq_zero hn
    subst hz
    refine (Try.slices_Sort_int_none none 0 w).mono ?_
    rintro e w' ⟨rfl, rfl⟩
    exact ⟨rfl, by simpa using RowI.nil _, Chg.refl _ _⟩
  · refine (Try.slices_Sort_int g 0 cap zs w (holds_of_blockI hg (by simpa using ht)) (Array.getElem?_eq_some_iff.1 hg).1 (by omega)).mono ?_
    rintro e w' ⟨rfl, n, os, rfl⟩
    refine ⟨rfl, ?_, (Chg.refl _ _).grown (grownBy_sortedI _) (fun k hk => .inr hk)⟩
    unfold RowI
    rw [List.length_mergeSort]
    exact ownsRow_sortedI (by simp) hb hg hc hm hcs

set_option maxRecDepth 100000 in
set_option maxHeartbeats 400000 in
theorem contains_msg (F : FuncId) (hent : ∀ (args : Array Value) (W : World), (callFunc F args).run Try.prog W = .ok (.enter F args) W) (cap : Array Value) (p : Msg → Bool) (A : Option Addr) (c : Nat) (ms : List Msg) (w : World) (hr : RdM w A ms) (hl : ms.length ≤ 1000000)
    (hF : ∀ m ∈ ms, ∀ w', Chg Non w w' → Calls Try.prog F (#[.agg m.cs] ++ cap) w' fun e w'' => e = .returned (.bool (p m)) ∧ Chg Non w' w'') :
    Calls Try.prog 61 #[.slice A ms.length c, .func (.func F) #[] cap] w fun e w' => e = .returned (.bool (ms.any p)) ∧ Chg Non w w' := by
  have hI := Lib.hid (index_msg F hent cap p A c ms w hr hl hF)
  clear hF hent hr
  have hB : decide (0 ≤ idx p ms) = ms.any p := by
    rcases @idx_inv p ms with ⟨h1, h2⟩ | ⟨k, m, h1, h2, h3⟩
    · rw [h1]
      have : ms.any p = false := List.any_eq_false.2 (fun x hx => by simp [h2 x hx])
      rw [this]; rfl
    · rw [h1]
      have : ms.any p = true := List.any_eq_true.2 ⟨m, List.mem_of_getElem? h2, h3⟩
      rw [this]; simp
  have HB := Lib.hid hB
  clear hB
  go_enter Try.func61, Try.ntmps61
  go_wp2_with fail
  refine hI.out.mono ?_
  rintro e w1 ⟨rfl, hc1⟩
  go_wp2
  go_ret
  exact ⟨by rw [← HB.out]; rfl, hc1⟩

theorem enters62 : ∀ (args : Array Value) (W : World), (callFunc 62 args).run Try.prog W = .ok (.enter 62 args) W := by
  intro args W
  have h : Try.prog.funcs[62]? = some Try.f62 := Try.func62
  have h2 : (Try.f62.name == "runtime.NumGoroutine") = false := by kernel_rfl
  have h3 : Try.f62.body.isNone = false := by kernel_rfl
  simp only [callFunc, Sem.run_bind, run_program, Result.andThen_ok, h, h2, h3, Bool.false_eq_true, if_false, Sem.run_pure]

set_option maxHeartbeats 400000 in
theorem open_any (m : Msg) (w : World) : Calls Try.prog 62 #[.agg m.cs] w fun e w' => e = .returned (.bool (openB m)) ∧ Chg Non w w' := by
  go_enter Try.func62, Try.ntmps62
  go_wp2
  go_ret
  exact ⟨rfl, (Chg.refl _ _).alloc _⟩

/-- 'next' over a map keyed by channels. -/
theorem wpList_nextC {w : World} {ops : Array Oper} {rest : List Oper} {o : Oper} {a : Act} {Q : Exit → Act → World → Prop} (hg : o.guard = none) (it : Operand) (hop : o.op = Op.next it false) (b r : Nat) (M left : List (Chan × Value))
    (hit : a.eval it = .pointer (some ⟨r, 0, none⟩)) (h : Ranges Chan.v w b r M left)
    (hDone : left = [] → wpList Try.prog ops Q rest (a.put o.dst (.tuple #[.bool false])) w)
    (hMore : ∀ (c : Chan) (v : Value) (L1 L2 : List (Chan × Value)) (w' : World), left = L1 ++ (c, v) :: L2 → (c, v) ∈ M → Ranges Chan.v w' b r M (L1 ++ L2) → Chg (fun k => k = r) w w' →
      (Instr.entry (.pointer (some ⟨r, 0, none⟩))).run Try.prog w' = .ok (.tuple #[.agg #[.string c.key, .int .i64 c.frm, .int .i64 c.dst], v]) w' → wpList Try.prog ops Q rest (a.put o.dst (.tuple #[.bool true, .agg #[.string c.key, .int .i64 c.frm, .int .i64 c.dst], v])) w') :
    wpList Try.prog ops Q (o :: rest) a w := by
  refine wpList_plain hg fun K' hK' => ?_
  unfold Oper.wp
  rcases h.next chanKey o.type with ⟨h0, hrun⟩ | ⟨c, v, L1, L2, w', hl, hm, hrun, hrg, hgr, hsz, hen⟩
  · simp [execOp, hop, hit, hrun, Result.andThen]
    exact hK' _ _ (hDone h0)
  · simp [execOp, hop, hit, hrun, Result.andThen]
    exact hK' _ _ (hMore c v L1 L2 w' hl hm hrg ((Chg.refl _ _).grown hgr (fun k hk => .inr (by cases hk; rfl))) hen)

/-- 'range' over a map keyed by channels. -/
theorem wpList_rangeC {w : World} {ops : Array Oper} {rest : List Oper} {o : Oper} {a : Act} {Q : Exit → Act → World → Prop} (hg : o.guard = none) (m : Operand) (hop : o.op = Op.range 95 m) (b : Nat) (M : List (Chan × Value))
    (hm : a.eval m = .map (some b)) (h : MapB Chan.v w b M)
    (hK : ∀ w', Ranges Chan.v w' b w.heap.size M M → Chg Non w w' → w'.heap.size = w.heap.size + 1 → wpList Try.prog ops Q rest (a.put o.dst (.pointer (some ⟨w.heap.size, 0, none⟩))) w') :
    wpList Try.prog ops Q (o :: rest) a w := by
  refine wpList_plain hg fun K' hK' => ?_
  obtain ⟨w', hrun, r1, r2, r3⟩ := h.range Try.underlying95
  unfold Oper.wp
  simp [execOp, hop, hm, hrun, Result.andThen]
  exact hK' _ _ (hK w' r1 ((Chg.refl _ _).grown r2 (fun k hk => by cases hk)) r3)

/-- Which senders a channel's row gives. -/
def selB (ms : List Msg) (key : ByteArray) (dst : Int) (p : Chan × Value) : Bool := (ofChan ms p.1).any openB && decide (p.1 = ⟨key, p.1.frm, dst⟩)

theorem senders_sorted {ms : List Msg} {rs D : List (Chan × Value)} (key : ByteArray) (dst : Int) (hD : D.Perm rs) (hn : (rs.map (·.1)).Nodup) (hin : ∀ m ∈ ms, ∃ v, (m.chan, v) ∈ rs) (hfit : ∀ m ∈ ms, 0 ≤ m.frm ∧ m.frm ≤ 63) :
    ((D.filter (selB ms key dst)).map (·.1.frm)).mergeSort (fun x y => decide (x ≤ y)) = sendersL ms key dst 64 := by
  refine List.Perm.eq_of_pairwise (le := fun a b : Int => a ≤ b) (fun a b _ _ h1 h2 => by omega) ?_ ?_ ?_
  · have := List.pairwise_mergeSort (le := fun x y : Int => decide (x ≤ y)) (fun a b c h1 h2 => by simp at *; omega) (fun a b => by simp; omega) ((D.filter (selB ms key dst)).map (·.1.frm))
    exact this.imp (fun h => by simpa using h)
  · unfold sendersL
    rw [List.pairwise_map]
    exact (List.pairwise_lt_range.filter _).imp (fun h => by omega)
  · refine (List.mergeSort_perm _ _).trans ?_
    have hnD : (D.map (·.1)).Nodup := (hD.map _).nodup_iff.2 hn
    rw [List.perm_ext_iff_of_nodup]
    · intro z
      simp only [sendersL, List.mem_map, List.mem_filter, List.mem_range]
      constructor
      · rintro ⟨p, ⟨hp, hsel⟩, rfl⟩
        simp only [selB, Bool.and_eq_true, decide_eq_true_eq] at hsel
        obtain ⟨hany, hc⟩ := hsel
        obtain ⟨m, hm, ho⟩ := List.any_eq_true.1 hany
        obtain ⟨hm1, hm2⟩ := List.mem_filter.1 hm
        have hmc : m.chan = p.1 := by simpa using hm2
        have hf := hfit m hm1
        have e1 : p.1.frm = m.frm := by rw [← hmc]; rfl
        refine ⟨m.frm.toNat, ⟨by omega, ?_⟩, by rw [e1]; omega⟩
        refine List.any_eq_true.2 ⟨m, hm1, ?_⟩
        have : (m.frm.toNat : Int) = m.frm := by omega
        unfold isB
        rw [this, hmc, ← e1]
        simpa [openB, ← hc] using ho
      · rintro ⟨f, ⟨hf, hany⟩, rfl⟩
        obtain ⟨m, hm, hB⟩ := List.any_eq_true.1 hany
        simp only [isB, Bool.and_eq_true, decide_eq_true_eq] at hB
        obtain ⟨v, hv⟩ := hin m hm
        rw [hB.2] at hv
        refine ⟨(⟨key, (f : Int), dst⟩, v), ⟨hD.mem_iff.2 hv, ?_⟩, rfl⟩
        simp only [selB, decide_true, Bool.and_true]
        exact List.any_eq_true.2 ⟨m, List.mem_filter.2 ⟨hm, by simp [hB.2]⟩, hB.1⟩
    · -- the senders are each once
      have hn2 : ((D.filter (selB ms key dst)).map (·.1)).Nodup := (List.filter_sublist.map _).nodup hnD
      have e : (D.filter (selB ms key dst)).map (·.1.frm) = ((D.filter (selB ms key dst)).map (·.1)).map (·.frm) := by simp
      rw [e]
      unfold List.Nodup at *
      rw [List.pairwise_map] at *
      rw [List.pairwise_map]
      refine hn2.imp_of_mem ?_
      intro p q hp hq hne he
      obtain ⟨_, hp2⟩ := List.mem_filter.1 hp
      obtain ⟨_, hq2⟩ := List.mem_filter.1 hq
      simp only [selB, Bool.and_eq_true, decide_eq_true_eq] at hp2 hq2
      exact hne (by rw [hp2.2, hq2.2, he])
    · unfold sendersL
      unfold List.Nodup
      rw [List.pairwise_map]
      exact (List.nodup_range.filter _).imp (fun h => by omega)

end Go.Proofs.Ytgdpapcgghiljaa
