/- Contracts of the law's own act: where it matches. -/
import Derived.Test.YtgdpapcgghiljaaPostQ
set_option linter.unusedSimpArgs false
set_option linter.unusedVariables false
namespace Go.Proofs.Ytgdpapcgghiljaa
open Go.RowKit

theorem u64_in (x : Int) : 0 ≤ IntKind.u64.wrap x ∧ IntKind.u64.wrap x < 18446744073709551616 := by
  unfold IntKind.wrap
  simp only [IntKind.bits, IntKind.signed]
  simp
  omega

set_option maxRecDepth 100000 in
set_option maxHeartbeats 2000000 in
theorem act_match (q r a : Nat) (rs : List (Chan × Value)) (ats : List (Sent × Value)) (ms : List Msg) (p : Nat) (vs : List Value) (L : Nat → List Rcv) (d : Deed2) (w : World) (hq : QR w q r a rs ats ms) (hp : PR w p vs L) (hl : ms.length ≤ 1000) (hfit : ∀ m ∈ ms, 0 ≤ m.frm ∧ m.frm ≤ 63) (hlr : (ofL L d.r.rank).length ≤ 1000)
    (hdis : ∀ b ∈ blocksP p vs, b ∉ blocksOf q r a rs) (h0 : ¬ d.kind.tmod 4 = 0) (h1 : ¬ d.kind.tmod 4 = 1) (h2 : ¬ d.kind.tmod 4 = 2) :
    Calls Try.prog 41 #[.pointer (some ⟨q, 0, none⟩), .pointer (some ⟨p, 0, none⟩), .agg d.cs] w fun e w' => (∃ n : Int, e = .returned (.int .i64 n)) ∧ QR w' q r a rs ats (actM ms L d) ∧ PR w' p vs (actR ms L d) ∧ Chg (fun b => In (blocksOf q r a rs) b ∨ In (blocksP p vs) b) w w' := by
  have hC0 : Chg Non w (w.alloc (Obj.cells d.cs 72)) := (Chg.refl _ _).alloc _
  have hmay := may_any p vs L q r a rs ats ms d.r.rank d.r.call _ (hp.non hC0) (hq.non hC0) hl hfit hlr
  have hbx : ∀ i W, Chg Non (w.alloc (Obj.cells d.cs 72)) W → W.cell? ⟨w.heap.size, i, none⟩ = d.cs[i]? := fun i => box_cell w d.cs 72 (S := Non) (fun e => e) i
  have hM : actM ms L d = (pick ms L d).elim ms fun m => matchM ms L d.r.rank d.r.call m.frm m.call := by
    unfold actM; rw [if_neg (by rintro (e | e); exact h0 e; exact h1 e), if_neg h2]
  have hR : actR ms L d = (pick ms L d).elim L fun m => matchR ms L d.r.rank d.r.call m.frm m.call := by
    unfold actR; rw [if_neg (by rintro (e | e); exact h0 e; exact h1 e), if_neg h2]
  have hpk : pick ms L d = (mayL ms L d.r.rank d.r.call)[(IntKind.u64.wrap d.m.call % ((mayL ms L d.r.rank d.r.call).length : Int)).toNat]? := rfl
  have hln := @may_len ms L d.r.rank d.r.call
  have HA := Lib.hid (fun W hc f s => match_any p vs L q r a rs ats ms d.r.rank d.r.call f s W (hp.non hc) (hq.non hc) hl hfit hlr hdis)
  have hmm : ∀ m ∈ mayL ms L d.r.rank d.r.call, matchB ms L d.r.rank d.r.call m.frm m.call = true := fun m hm => List.any_eq_true.2 ⟨m, hm, by simp [itsB]⟩
  generalize hll : mayL ms L d.r.rank d.r.call = l at hmay hpk hln hmm
  generalize hnn : l.length = n at hln
  have HNN := Lib.hid hnn
  have HMM := Lib.hid hmm
  have HPK := Lib.hid hpk
  have HM := Lib.hid hM
  have HR := Lib.hid hR
  have HQ := Lib.hid hq
  have HP := Lib.hid hp
  have HS := Lib.hid hmay
  have HC0 := Lib.hid hC0
  have HBX := Lib.hid hbx
  have HN : Hid (∀ p', (fun b => In (blocksOf q r a rs) b ∨ In (blocksP p vs) b) w.heap.size → p') := Lib.hid (by
    rintro p' (e | e)
    · exact absurd (HQ.out.lt _ e) (by omega)
    · exact absurd (HP.out.lt _ e) (by omega))
  have b0 : (w.alloc (Obj.cells d.cs 72)).cell? ⟨w.heap.size, 0, none⟩ = some (.int .u8 d.kind) := hbx 0 _ (Chg.refl _ _)
  have b10 : (w.alloc (Obj.cells d.cs 72)).cell? ⟨w.heap.size, 10, none⟩ = some (.int .i64 d.r.rank) := hbx 10 _ (Chg.refl _ _)
  have b11 : (w.alloc (Obj.cells d.cs 72)).cell? ⟨w.heap.size, 11, none⟩ = some (.int .i64 d.r.call) := hbx 11 _ (Chg.refl _ _)
  clear hmay hpk hmm hM hR hq hp hC0 hbx hll hnn hfit hdis
  go_enter Try.func41, Try.ntmps41
  go_wp2_with fail
  refine HS.out.mono ?_
  rintro e w1 ⟨v', rfl, g1, _, g3⟩
  obtain ⟨A, c, rfl, hrd, _⟩ := g1.form
  rw [HNN.out]
  have c4 : w1.cell? ⟨w.heap.size, 4, none⟩ = some (.int .i64 d.m.call) := HBX.out 4 w1 g3
  have c10 : w1.cell? ⟨w.heap.size, 10, none⟩ = some (.int .i64 d.r.rank) := HBX.out 10 w1 g3
  have c11 : w1.cell? ⟨w.heap.size, 11, none⟩ = some (.int .i64 d.r.call) := HBX.out 11 w1 g3
  have G3 := Lib.hid (HC0.out.non g3)
  have HRD := Lib.hid hrd
  have hsz : w.heap.size < w1.heap.size := by have := g3.size; simp at this; omega
  clear g1 g3 hrd b0 b10 b11
  by_cases hn0 : 0 < n
  · have hu := u64_in d.m.call
    obtain ⟨k, hk⟩ : ∃ k : Nat, (IntKind.u64.wrap d.m.call).tmod (n : Int) = (k : Int) := ⟨((IntKind.u64.wrap d.m.call).tmod (n : Int)).toNat, by rw [Int.toNat_of_nonneg (Int.tmod_nonneg _ hu.1)]⟩
    have hkn : k < n := by
      have := Int.tmod_lt_of_pos (IntKind.u64.wrap d.m.call) (show (0 : Int) < n by omega)
      omega
    have hkk : (IntKind.u64.wrap d.m.call % (n : Int)).toNat = k := by rw [← Int.tmod_eq_emod_of_nonneg hu.1, hk]; simp
    obtain ⟨m, hm⟩ : ∃ m, l[k]? = some m := ⟨l[k]'(by rw [HNN.out]; exact hkn), List.getElem?_eq_getElem (by rw [HNN.out]; exact hkn)⟩
    have hpm : pick ms L d = some m := by rw [HPK.out, HNN.out, hkk]; exact hm
    obtain ⟨g, o, rfl, hg, e1, e2⟩ := HRD.out.at_ hm
    have hb := HMM.out m (List.mem_of_getElem? hm)
    have HPM := Lib.hid hpm
    have HB := Lib.hid hb
    clear hpm hm hb hkk hu
    have hw : wrap64 ((IntKind.u64.wrap d.m.call).tmod (n : Int)) = (k : Int) := by
      rw [hk]; unfold wrap64; omega
    clear hk
    go_wp2_with fail
    refine (HA.out _ (G3.out.alloc _) m.frm m.call).mono ?_
    rintro e w2 ⟨rfl, h1, h2, h3⟩
    rw [if_pos HB.out]
    have c9 : w2.cell? ⟨w.heap.size, 11, none⟩ = some (.int .i64 d.r.call) := by
      rw [h3.cell (by simp; omega) (HN.out _), (((Chg.refl Non w1).alloc _).cell (p := ⟨w.heap.size, 11, none⟩) hsz (fun e => e))]; exact c11
    have H1 := Lib.hid h1
    have H2 := Lib.hid h2
    have H3 := Lib.hid h3
    clear h1 h2 h3
    go_wp2_with fail
    go_ret
    refine ⟨⟨d.r.call, rfl⟩, ?_, ?_, ?_⟩
    · rw [HM.out, HPM.out]; exact H1.out
    · rw [HR.out, HPM.out]; exact H2.out
    · exact (G3.out.alloc _).any.same H3.out
  · obtain rfl : n = 0 := by omega
    go_wp2_with fail
    go_ret
    have hnone : pick ms L d = none := by
      rw [HPK.out]
      have := List.eq_nil_of_length_eq_zero HNN.out
      rw [this]; rfl
    refine ⟨⟨-1, rfl⟩, ?_, ?_, G3.out.any⟩
    · rw [HM.out, hnone]; exact HQ.out.non G3.out
    · rw [HR.out, hnone]; exact HP.out.non G3.out
/-! ### a struct that is loaded out of a row, by one law -/
theorem run_loadVar_at {P : Program} (w : World) (g o : Nat) (ty : TypeId) (cs : Array Value) (d : TypeDesc) (hc : ∀ j, j < cs.size → w.cell? ⟨g, o + j, none⟩ = cs[j]?)
    (hu : P.underlying ty = some d) (hd : (match d with | .struct _ | .array _ _ => true | _ => false) = true) (hi : (P.info? ty).map (·.size) = some cs.size) :
    (loadVar ty ⟨g, o, none⟩).run P w = .ok (.agg cs) w := by
  have hl : (loadCells ⟨g, o, none⟩ cs.toList.length).run P w = .ok cs.toList.toArray w :=
    run_loadCells_list (P := P) w ⟨g, o, none⟩ cs.toList (fun j v hv => by
      have hadd : (⟨g, o, none⟩ : Addr).add j = ⟨g, o + j, none⟩ := by unfold Addr.add; split <;> simp_all
      have hj : j < cs.size := by have := (List.getElem?_eq_some_iff.1 hv).1; simpa using this
      rw [hadd, hc j hj]
      simpa using hv)
  cases hq : P.info? ty with
  | none => simp [hq] at hi
  | some i =>
    have hs : i.size = cs.size := by simpa [hq] using hi
    have hagg : (isAgg ty).run P w = .ok true w := by
      unfold isAgg
      rw [Sem.run_bind, run_underlying hu w]
      cases d <;> simp_all
    simp only [Array.length_toList, Array.toArray_toList] at hl
    simp [loadVar, Sem.run_bind, hagg, sizeOf, typeInfo, hq, hs, hl]

theorem wp_load_at {P : Program} {o : Oper} {a : Act} {w : World} {K : Act → World → Prop} {Q : Exit → Act → World → Prop} (ty : TypeId) (x : Operand) (ho : o.op = .load ty x)
    (g O : Nat) (hx : a.eval x = .pointer (some ⟨g, O, none⟩)) (cs : Array Value) (d : TypeDesc) (hc : ∀ j, j < cs.size → w.cell? ⟨g, O + j, none⟩ = cs[j]?)
    (hu : P.underlying ty = some d) (hd : (match d with | .struct _ | .array _ _ => true | _ => false) = true) (hi : (P.info? ty).map (·.size) = some cs.size)
    (h : K (a.put o.dst (.agg cs)) w) : o.wp P a w K Q := by
  unfold Oper.wp execOp
  simp only [ho, hx, Instr.loadAt, Instr.sureAddr, Sem.run_bind, Sem.run_pure, Result.andThen_ok, run_loadVar_at w g O ty cs d hc hu hd hi]
  exact h

theorem wpList_load_at {P : Program} {ops : Array Oper} {rest : List Oper} {o : Oper} {a : Act} {w : World} {Q : Exit → Act → World → Prop} (hgd : o.guard = none) (ty : TypeId) (x : Operand) (ho : o.op = .load ty x)
    (g O : Nat) (hx : a.eval x = .pointer (some ⟨g, O, none⟩)) (cs : Array Value) (d : TypeDesc) (hc : ∀ j, j < cs.size → w.cell? ⟨g, O + j, none⟩ = cs[j]?)
    (hu : P.underlying ty = some d) (hd : (match d with | .struct _ | .array _ _ => true | _ => false) = true) (hi : (P.info? ty).map (·.size) = some cs.size)
    (h : wpList P ops Q rest (a.put o.dst (.agg cs)) w) : wpList P ops Q (o :: rest) a w :=
  wpList_plain hgd fun _ hK => wp_load_at ty x ho g O hx cs d hc hu hd hi (hK _ _ h)

theorem size72 : (Try.prog.info? 72).map (·.size) = some 18 := by kernel_rfl

/-- The cells of an act. -/
theorem deed_cells {w : World} {g O : Nat} {d : Deed2} (h1 : w.cell? ⟨g, O, none⟩ = some (.int .u8 d.kind)) (h2 : At w g (O + 1) d.m) (h3 : AtR w g (O + 9) d.r) : ∀ j, j < d.cs.size → w.cell? ⟨g, O + j, none⟩ = d.cs[j]? := by
  intro j hj
  have hj' : j < 18 := hj
  by_cases h0 : j = 0
  · subst h0; exact h1
  · by_cases hm : j < 9
    · have := d.cs_m (j - 1) (by omega)
      rw [show 1 + (j - 1) = j by omega] at this
      rw [this]
      by_cases h00 : j = 1
      · subst h00; exact h2.1.trans (d.m.cs_0).symm
      · have := h2.2 (j - 2) (by omega)
        rw [show O + 1 + (j - 2 + 1) = O + j by omega, show j - 2 + 1 = j - 1 by omega] at this
        exact this
    · have := d.cs_r (j - 9) (by omega)
      rw [show 9 + (j - 9) = j by omega] at this
      rw [this]
      by_cases h00 : j = 9
      · subst h00; exact h3.1
      · have := h3.2 (j - 10) (by omega)
        rw [show O + 9 + (j - 10 + 1) = O + j by omega, show j - 10 + 1 = j - 9 by omega] at this
        exact this

theorem wpList_loadD {ops : Array Oper} {rest : List Oper} {o : Oper} {a : Act} {w : World} {Q : Exit → Act → World → Prop} (hgd : o.guard = none) (x : Operand) (ho : o.op = .load 72 x)
    (g O : Nat) (hx : a.eval x = .pointer (some ⟨g, O, none⟩)) (d : Deed2) (hc : ∀ j, j < d.cs.size → w.cell? ⟨g, O + j, none⟩ = d.cs[j]?)
    (h : wpList Try.prog ops Q rest (a.put o.dst (.agg d.cs)) w) : wpList Try.prog ops Q (o :: rest) a w :=
  wpList_load_at hgd 72 x ho g O hx d.cs _ hc Try.underlying72 rfl size72 h

/-! ### a region that draws its order, whose operations read and whose callees hand back the same whatever has come new: walked once, in the order of the text -/
/-- A world in which nothing that was there in w has turned. -/
structure Calm (w : World) where
  W : World
  chg : Chg Non w W
instance (w : World) : Nonempty (Calm w) := ⟨⟨w, Chg.refl _ _⟩⟩

@[go_sem] theorem calm_prop {w : World} (x : Calm w) : Chg Non w x.W := x.chg

theorem region_calm {P : Program} {id : Nat} {Q : Exit → Act → World → Prop} {a : Act} {w : World} {l : List Oper} (hm : P.follows .mixedOrders = true) (hB : Region.lexB .any l.toArray = true)
    (h : wpQuiet P l.toArray (fun w' => ∃ x : Calm w, w' = x.W) (fun a' => ∀ w', (∃ x : Calm w, w' = x.W) → Q .normal a' w') l a) : (Code.region id l.toArray true).wp P Q a w :=
  wp_region_quiet (C := fun w' => ∃ x : Calm w, w' = x.W) hm hB ⟨⟨_, (Chg.refl Non w).drew⟩, rfl⟩ (by simpa using h)

theorem calls_calm {P : Program} {f : FuncId} {args : Array Value} {w : World} {x : Calm w} {v : Value}
    (h : Calls P f args x.W fun e w' => e = .returned v ∧ Chg Non x.W w') : Calls P f args x.W fun e w'' => e = .returned v ∧ ∃ y : Calm w, w'' = y.W :=
  h.mono fun _ _ ⟨he, hc⟩ => ⟨he, ⟨_, x.chg.non hc⟩, rfl⟩
end Go.Proofs.Ytgdpapcgghiljaa
