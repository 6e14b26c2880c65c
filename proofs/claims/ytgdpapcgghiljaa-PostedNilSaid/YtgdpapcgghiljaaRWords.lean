/- Rows of receives: as Words has it of messages. -/
import Derived.Test.YtgdpapcgghiljaaPlayK
set_option linter.unusedSimpArgs false
set_option linter.unusedVariables false
namespace Go.Proofs.Ytgdpapcgghiljaa
open Go.RowKit

structure Rcv where
  key : ByteArray
  rank : Int
  call : Int
  peer : Int
  tag : Int
  req : Int
  done : Bool
  frm : Int
  seq : Int
  deriving DecidableEq

def Rcv.cs (m : Rcv) : Array Value := #[.string m.key, .int .i64 m.rank, .int .i64 m.call, .int .i64 m.peer, .int .i64 m.tag, .int .i64 m.req, .bool m.done, .int .i64 m.frm, .int .i64 m.seq]

section
variable (m : Rcv)
@[go_sem] theorem Rcv.cs_0 : m.cs[0]? = some (.string m.key) := rfl
@[go_sem] theorem Rcv.cs_1 : m.cs[1]? = some (.int .i64 m.rank) := rfl
@[go_sem] theorem Rcv.cs_2 : m.cs[2]? = some (.int .i64 m.call) := rfl
@[go_sem] theorem Rcv.cs_3 : m.cs[3]? = some (.int .i64 m.peer) := rfl
@[go_sem] theorem Rcv.cs_4 : m.cs[4]? = some (.int .i64 m.tag) := rfl
@[go_sem] theorem Rcv.cs_5 : m.cs[5]? = some (.int .i64 m.req) := rfl
@[go_sem] theorem Rcv.cs_6 : m.cs[6]? = some (.bool m.done) := rfl
@[go_sem] theorem Rcv.cs_7 : m.cs[7]? = some (.int .i64 m.frm) := rfl
@[go_sem] theorem Rcv.cs_8 : m.cs[8]? = some (.int .i64 m.seq) := rfl
@[go_sem] theorem Rcv.cs_size : m.cs.size = 9 := rfl
theorem Rcv.cs_len : m.cs.toList.length = 9 := rfl
end

def Rcv.zero : Rcv := ⟨⟨#[]⟩, 0, 0, 0, 0, 0, false, 0, 0⟩

/-! ### rows of receives -/
/-- The receive m lies at offset o of block g. -/
def AtR (w : World) (g o : Nat) (m : Rcv) : Prop := w.cell? ⟨g, o, none⟩ = some (.string m.key) ∧ ∀ j, j < 8 → w.cell? ⟨g, o + (j + 1), none⟩ = m.cs[j + 1]?

def flatR (ms : List Rcv) : List Value := ms.flatMap (·.cs.toList)

theorem flatR_len (ms : List Rcv) : (flatR ms).length = ms.length * 9 := by
  induction ms with
  | nil => rfl
  | cons m ms ih => simp only [flatR, List.flatMap_cons, List.length_append, List.length_cons] at *; rw [ih]; simp [Rcv.cs]; omega

theorem flatR_get (ms : List Rcv) (i : Nat) (m : Rcv) (h : ms[i]? = some m) (j : Nat) (hj : j < 9) : (flatR ms)[i * 9 + j]? = m.cs[j]? := by
  induction ms generalizing i with
  | nil => simp at h
  | cons x ms ih =>
    cases i with
    | zero =>
      simp only [List.getElem?_cons_zero, Option.some.injEq] at h
      subst h
      simp only [flatR, List.flatMap_cons, Nat.zero_mul, Nat.zero_add]
      rw [List.getElem?_append_left (by simp [Rcv.cs]; omega)]
      simp
    | succ i =>
      simp only [List.getElem?_cons_succ] at h
      have := ih i h
      simp only [flatR, List.flatMap_cons] at *
      rw [List.getElem?_append_right (by simp [Rcv.cs]; omega)]
      rw [← this]
      congr 1
      simp [Rcv.cs]
      omega

theorem flatR_append (a b : List Rcv) : flatR (a ++ b) = flatR a ++ flatR b := by simp [flatR]

/-- A slice of the call's own that holds the receives ms. -/
def RowR (w : World) (v : Value) (ms : List Rcv) : Prop := w.ownsRow 0 54 9 v ms.length (flatR ms)

/-- A slice that reads as the receives ms. -/
def RdR (w : World) (A : Option Addr) (ms : List Rcv) : Prop := ms = [] ∨ ∃ g o, A = some ⟨g, o, none⟩ ∧ g < w.heap.size ∧ ∀ i m, ms[i]? = some m → AtR w g (o + i * 9) m

theorem RowR.nil (w : World) : RowR w (.slice none 0 0) [] := World.ownsRow_nil w 0 54 9

/-- The slice's block. -/
theorem RowR.lt {w : World} {v : Value} {ms : List Rcv} (h : RowR w v ms) : ∀ k, v.ownBlock = some k → k < w.heap.size := fun k hk => (World.ownsRow.lt h k hk).2

theorem RowR.form {w : World} {v : Value} {ms : List Rcv} (h : RowR w v ms) : ∃ A c, v = .slice A ms.length c ∧ RdR w A ms ∧ (∀ g, v.ownBlock = some g → A = some ⟨g, 0, none⟩) := by
  rcases h.2 with ⟨rfl, hn⟩ | ⟨g, cap, cur, rfl, _, hg, hc, hm, hcs, ht⟩
  · have : ms = [] := List.eq_nil_of_length_eq_zero hn
    subst this
    exact ⟨none, 0, rfl, .inl rfl, fun g hg => by simp [Value.ownBlock] at hg⟩
  · refine ⟨some ⟨g, 0, none⟩, cap, rfl, .inr ⟨g, 0, rfl, (Array.getElem?_eq_some_iff.1 hg).1, ?_⟩, fun g' hg' => by simp [Value.ownBlock] at hg'; rw [hg']⟩
    intro i m hi
    have key : ∀ j, j < 9 → w.cell? ⟨g, 0 + i * 9 + j, none⟩ = m.cs[j]? := fun j hj => by
      rw [cell_of_row w g _ cur 54 (0, 0) hg, ← flatR_get ms i m hi j hj, ← ht, List.getElem?_take]
      have hi' : i < ms.length := (List.getElem?_eq_some_iff.1 hi).1
      rw [if_pos (by omega)]
      simp
    exact ⟨(key 0 (by omega)).trans m.cs_0, fun j hj => key (j + 1) (by omega)⟩

theorem RowR.kept {w w' : World} {v : Value} {ms : List Rcv} {S : Nat → Prop} (h : RowR w v ms) (hc : Chg S w w') (hn : ∀ g, v.ownBlock = some g → ¬ S g) : RowR w' v ms := by
  refine ⟨h.1, ?_⟩
  rcases h.2 with h0 | ⟨g, cap, cur, rfl, hb, hg, r⟩
  · exact .inl h0
  · exact .inr ⟨g, cap, cur, rfl, hb, (hc.block g (Array.getElem?_eq_some_iff.1 hg).1 (hn g rfl)).trans hg, r⟩

theorem RdR.kept {w w' : World} {A : Option Addr} {ms : List Rcv} {S : Nat → Prop} (h : RdR w A ms) (hc : Chg S w w') (hn : ∀ g o, A = some ⟨g, o, none⟩ → ¬ S g) : RdR w' A ms := by
  rcases h with h | ⟨g, o, rfl, hg, hat⟩
  · exact .inl h
  · refine .inr ⟨g, o, rfl, Nat.lt_of_lt_of_le hg hc.size, fun i m hi => ?_⟩
    obtain ⟨h1, h2⟩ := hat i m hi
    exact ⟨(hc.cell hg (hn g o rfl)).trans h1, fun j hj => (hc.cell hg (hn g o rfl)).trans (h2 j hj)⟩

theorem RdR.non {w w' : World} {A : Option Addr} {ms : List Rcv} (h : RdR w A ms) (hc : Chg Non w w') : RdR w' A ms := h.kept hc fun _ _ _ e => e

theorem RdR.at_ {w : World} {A : Option Addr} {ms : List Rcv} (h : RdR w A ms) {i : Nat} {m : Rcv} (hi : ms[i]? = some m) : ∃ g o, A = some ⟨g, o, none⟩ ∧ g < w.heap.size ∧ AtR w g (o + i * 9) m := by
  rcases h with rfl | ⟨g, o, rfl, hg, hat⟩
  · simp at hi
  · exact ⟨g, o, rfl, hg, hat i m hi⟩

theorem RdR.take {w : World} {A : Option Addr} {ms : List Rcv} (h : RdR w A ms) (n : Nat) : RdR w A (ms.take n) := by
  rcases h with rfl | ⟨g, o, rfl, hg, hat⟩
  · exact .inl (by simp)
  · exact .inr ⟨g, o, rfl, hg, fun i m hi => hat i m (by rw [List.getElem?_take] at hi; split at hi <;> simp_all)⟩

theorem AtR.kept {w w' : World} {g o : Nat} {m : Rcv} {S : Nat → Prop} (h : AtR w g o m) (hc : Chg S w w') (hg : g < w.heap.size) (hn : ¬ S g) : AtR w' g o m :=
  ⟨(hc.cell hg hn).trans h.1, fun j hj => (hc.cell hg hn).trans (h.2 j hj)⟩

theorem RowR.frozen {w : World} {g n cap : Nat} {ms : List Rcv} (h : RowR w (.slice (some ⟨g, 0, none⟩) n cap) ms) (j : Nat) : w.frozen? ⟨g, j, none⟩ = false := by
  rcases h.2 with ⟨h2, _⟩ | ⟨g', cap', cur, hv, hb, hg, hc, hm', hcs, ht⟩
  · cases h2
  · cases hv
    exact frozen_of_row w g j cur 54 hg

/-! ### append of a receive -/
theorem info54 : (Try.prog.info? 54).map (fun i => (i.zero, i.size, i.bytes)) = some (some (.agg #[.string ⟨#[]⟩, .int .i64 0, .int .i64 0, .int .i64 0, .int .i64 0, .int .i64 0, .bool false, .int .i64 0, .int .i64 0]), 9, 80) := by kernel_rfl
theorem oneCellR (m : Rcv) : ∀ u ∈ m.cs.toList, u.oneCell' = true := by
  intro u hu
  simp [Rcv.cs] at hu
  rcases hu with rfl | rfl | rfl | rfl | rfl | rfl | rfl | rfl | rfl <;> rfl

theorem wp_appendR {w : World} {o : Oper} {a : Act} {K : Act → World → Prop} {Q : Exit → Act → World → Prop} (s x : Operand)
    (ho : o.op = .call { callee := .builtin .append, args := #[s, x], argTypes := #[65, 65] }) (v : Value) (ms : List Rcv) (hs : a.eval s = v) (hrow : RowR w v ms)
    (B : Nat) (m : Rcv) (c : Nat) (hx : a.eval x = .slice (some ⟨B, 0, none⟩) 1 c) (cs : Array Value) (hB : w.heap[B]? = some (.cells cs 54 (0, 0))) (hcs : cs = m.cs) (hl : ms.length ≤ 1000000)
    (h : ∀ g cap w', RowR w' (.slice (some ⟨g, 0, none⟩) (ms.length + 1) cap) (ms ++ [m]) → Chg (fun b => v.ownBlock = some b) w w' → (v.ownBlock = some g ∨ g = w.heap.size) → g < w'.heap.size → K (a.put o.dst (.slice (some ⟨g, 0, none⟩) (ms.length + 1) cap)) w') : o.wp Try.prog a w K Q := by
  subst hcs
  obtain ⟨i0, hi, hz0, hz1, hz2⟩ := info_parts info54
  refine wp_append_lies w s x 65 ho 0 54 i0 _ 9 80 Try.underlying65 hi hz0 hz1 hz2 rfl (by omega) v ms.length (flatR ms) hs hrow ⟨B, 0, none⟩ 1 c m.cs.toList hx (by rfl) (World.news_of_block hB) (oneCellR m) (by omega)
    (by unfold maxLen; omega) (by omega) (Nat.zero_le _) _ rfl ?_
  intro g cap w' h1 h2 h3 h4
  refine h g cap w' ?_ ((Chg.refl _ _).grown h2 (fun k hk => .inr hk)) h3 h4
  unfold RowR
  rw [List.length_append, flatR_append]
  have e : flatR [m] = m.cs.toList := by simp [flatR]
  rw [e]
  exact h1

/-! ### a receive is stored into a variable -/
theorem size54 : (Try.prog.info? 54).map (·.size) = some 9 := by kernel_rfl
theorem wpList_storeR {w : World} {ops : Array Oper} {rest : List Oper} {o : Oper} {a : Act} {Q : Exit → Act → World → Prop} (hgd : o.guard = none) (x y : Operand) (ho : o.op = .store 54 x y)
    (N : Nat) (hx : a.eval x = .pointer (some ⟨N, 0, none⟩)) (cs : Array Value) (hy : a.eval y = .agg cs) (m m0 : Rcv) (hcs : cs = m.cs) (hN : w.heap[N]? = some (.cells m0.cs 54 (0, 0)))
    (h : ∀ w', w'.heap[N]? = some (.cells m.cs 54 (0, 0)) → Chg (fun b => b = N) w w' → w'.heap.size = w.heap.size → wpList Try.prog ops Q rest (a.put o.dst undef) w') : wpList Try.prog ops Q (o :: rest) a w := by
  subst hcs
  refine wpList_store_row hgd 54 x y ho N m.cs hx hy 54 m0.cs hN size54 rfl (all_oneCell_toArray (oneCellR m)) (h _ (setRow_heap w N _ _ _ _ hN) ⟨rfl, rfl, rfl, by simp, fun k _ hk => setRow_other w N k _ hk⟩ (by simp))

/-- What a block of a receive's cells reads as. -/
theorem cell54_0 {w : World} {N : Nat} {m : Rcv} (h : w.heap[N]? = some (.cells m.cs 54 (0, 0))) : w.cell? ⟨N, 0, none⟩ = some (.string m.key) := by rw [cell_of_row w N 0 _ 54 (0, 0) h]; rfl
theorem cell54_s {w : World} {N : Nat} {m : Rcv} (h : w.heap[N]? = some (.cells m.cs 54 (0, 0))) : ∀ j, j < 8 → w.cell? ⟨N, j + 1, none⟩ = m.cs[j + 1]? := fun j _ => by rw [cell_of_row w N _ _ 54 (0, 0) h]

/-- append of many -/
theorem run_appendRs {w : World} (ty : TypeId) (v : Value) (ms : List Rcv) (hrow : RowR w v ms) (A : Option Addr) (c : Nat) (ns : List Rcv) (hr : RdR w A ns) (hl : ms.length + ns.length ≤ 1000000) :
    ∃ A' c' w', (Builtin.append_ #[65, 65] ty #[v, .slice A ns.length c]).run Try.prog w = .ok (.slice A' (ms.length + ns.length) c') w' ∧ RowR w' (.slice A' (ms.length + ns.length) c') (ms ++ ns) ∧
      Chg (fun b => v.ownBlock = some b) w w' ∧ ((Value.slice A' (ms.length + ns.length) c').ownBlock = v.ownBlock ∨ (Value.slice A' (ms.length + ns.length) c').ownBlock = some w.heap.size) := by
  obtain ⟨i0, hi, hz0, hz1, hz2⟩ := info_parts info54
  by_cases hn : A = none
  · subst hn
    have hns : ns = [] := by
      rcases hr with h | ⟨g, o, h, _⟩
      · exact h
      · cases h
    subst hns
    have hrow' := hrow
    rcases hrow.2 with ⟨rfl, h2⟩ | ⟨g, cap, cur, rfl, _, hg, hnc, _⟩
    · rw [h2]
      have hms : ms = [] := List.eq_nil_of_length_eq_zero h2
      subst hms
      refine ⟨none, 0, w, ?_, by simpa using hrow', Chg.refl _ _, .inl rfl⟩
      simp [Builtin.append_, run_underlying Try.underlying65, sizeOf, typeInfo, hi, Builtin.lenOf, Builtin.firstCells]
    · refine ⟨some ⟨g, 0, none⟩, cap, w, ?_, by simpa using hrow', Chg.refl _ _, .inl rfl⟩
      simp [Builtin.append_, run_underlying Try.underlying65, sizeOf, typeInfo, hi, Builtin.lenOf, Builtin.firstCells, hnc, storeCells]
  · obtain ⟨ad, rfl⟩ : ∃ ad, A = some ad := by cases A with | none => exact absurd rfl hn | some ad => exact ⟨ad, rfl⟩
    have hnews : ∀ j u, (flatR ns)[j]? = some u → w.cell? (ad.add j) = some u := by
      intro j u hu
      have hj : j < ns.length * 9 := by have := (List.getElem?_eq_some_iff.1 hu).1; rw [flatR_len] at this; exact this
      obtain ⟨x, hx⟩ : ∃ x, ns[j / 9]? = some x := ⟨ns[j / 9]'(by omega), List.getElem?_eq_getElem _⟩
      rcases hr with rfl | ⟨g, o, ho, _, hat⟩
      · simp at hj
      · cases ho
        obtain ⟨e1, e2⟩ := hat _ _ hx
        have hf := flatR_get ns (j / 9) x hx (j % 9) (by omega)
        rw [show j / 9 * 9 + j % 9 = j by omega] at hf
        have hadd : (⟨g, o, none⟩ : Addr).add j = ⟨g, o + j, none⟩ := by unfold Addr.add; split <;> simp_all
        rw [hadd, ← hu, hf]
        by_cases h0 : j % 9 = 0
        · rw [h0, x.cs_0, show o + j = o + j / 9 * 9 by omega]
          exact e1
        · have := e2 (j % 9 - 1) (by omega)
          rw [show j % 9 - 1 + 1 = j % 9 by omega] at this
          rw [show o + j = o + j / 9 * 9 + j % 9 by omega]
          exact this
    have h1 : ∀ u ∈ flatR ns, u.oneCell' = true := by
      intro u hu
      obtain ⟨m, _, hm⟩ := List.mem_flatMap.1 hu
      exact oneCellR m u hm
    obtain ⟨v', w', hrun, q1, q2, _, q3⟩ := run_append_own_at (P := Try.prog) w 0 65 ty 54 i0 _ 9 80 Try.underlying65 hi hz0 hz1 hz2 rfl (by omega) v ms.length (flatR ms) hrow ad ns.length c (flatR ns) (flatR_len ns) hnews h1 (by unfold maxLen; omega) (by omega) (Nat.zero_le _)
    have q1' : RowR w' v' (ms ++ ns) := by unfold RowR; rw [List.length_append, flatR_append]; exact q1
    obtain ⟨A', c', rfl, _, _⟩ := q1'.form
    rw [List.length_append] at *
    exact ⟨A', c', w', hrun, q1', (Chg.refl _ _).grown q2 (fun k hk => .inr hk), q3⟩

theorem wp_appendRs {w : World} {o : Oper} {a : Act} {K : Act → World → Prop} {Q : Exit → Act → World → Prop} (s x : Operand)
    (ho : o.op = .call { callee := .builtin .append, args := #[s, x], argTypes := #[65, 65] }) (v : Value) (ms : List Rcv) (hs : a.eval s = v) (hrow : RowR w v ms)
    (A : Option Addr) (c n : Nat) (ns : List Rcv) (hx : a.eval x = .slice A n c) (hn : n = ns.length) (hr : RdR w A ns) (hl : ms.length + ns.length ≤ 1000000)
    (h : ∀ A' c' w', RowR w' (.slice A' (ms.length + ns.length) c') (ms ++ ns) → Chg (fun b => v.ownBlock = some b) w w' → ((Value.slice A' (ms.length + ns.length) c').ownBlock = v.ownBlock ∨ (Value.slice A' (ms.length + ns.length) c').ownBlock = some w.heap.size) → K (a.put o.dst (.slice A' (ms.length + ns.length) c')) w') : o.wp Try.prog a w K Q := by
  subst hn
  obtain ⟨A', c', w', hrun, h1, h2, h3⟩ := run_appendRs o.type v ms hrow A c ns hr hl
  unfold Oper.wp execOp
  simp only [ho, resolve, invoke, builtin, Sem.run_bind, Sem.run_pure, Result.andThen_ok, List.map_toArray, List.map_cons, List.map_nil, hs, hx, hrun]
  exact h A' c' w' h1 h2 h3

theorem wpList_appendRs {w : World} {ops : Array Oper} {rest : List Oper} {o : Oper} {a : Act} {Q : Exit → Act → World → Prop} (hgd : o.guard = none) (s x : Operand)
    (ho : o.op = .call { callee := .builtin .append, args := #[s, x], argTypes := #[65, 65] }) (v : Value) (ms : List Rcv) (hs : a.eval s = v) (hrow : RowR w v ms)
    (A : Option Addr) (c n : Nat) (ns : List Rcv) (hx : a.eval x = .slice A n c) (hn : n = ns.length) (hr : RdR w A ns) (hl : ms.length + ns.length ≤ 1000000)
    (h : ∀ A' c' w', RowR w' (.slice A' (ms.length + ns.length) c') (ms ++ ns) → Chg (fun b => v.ownBlock = some b) w w' → ((Value.slice A' (ms.length + ns.length) c').ownBlock = v.ownBlock ∨ (Value.slice A' (ms.length + ns.length) c').ownBlock = some w.heap.size) → wpList Try.prog ops Q rest (a.put o.dst (.slice A' (ms.length + ns.length) c')) w') : wpList Try.prog ops Q (o :: rest) a w :=
  wpList_plain hgd fun _ hK => wp_appendRs s x ho v ms hs hrow A c n ns hx hn hr hl fun A' c' w' h1 h2 h3 => hK _ _ (h A' c' w' h1 h2 h3)

theorem step_appendRs {w : World} {ops : Array Oper} {o : Oper} {a : Act} {K : Act → World → Prop} {Q : Exit → Act → World → Prop} {E : Prop} (hgd : o.guard = none) (s x : Operand)
    (ho : o.op = .call { callee := .builtin .append, args := #[s, x], argTypes := #[65, 65] }) (v : Value) (ms : List Rcv) (hs : a.eval s = v) (hrow : RowR w v ms)
    (A : Option Addr) (c n : Nat) (ns : List Rcv) (hx : a.eval x = .slice A n c) (hn : n = ns.length) (hr : RdR w A ns) (hl : ms.length + ns.length ≤ 1000000)
    (h : ∀ A' c' w', RowR w' (.slice A' (ms.length + ns.length) c') (ms ++ ns) → Chg (fun b => v.ownBlock = some b) w w' → ((Value.slice A' (ms.length + ns.length) c').ownBlock = v.ownBlock ∨ (Value.slice A' (ms.length + ns.length) c').ownBlock = some w.heap.size) → K (a.put o.dst (.slice A' (ms.length + ns.length) c')) w') :
    if Region.wanted o (yielded ops a.tmps) = true then Oper.wp Try.prog o a w K Q else E := by
  have hw : Region.wanted o (yielded ops a.tmps) = true := by simp [Region.wanted, hgd]
  rw [if_pos hw]
  exact wp_appendRs s x ho v ms hs hrow A c n ns hx hn hr hl h

/-- An empty slice that the call has made. -/
theorem RowR.empty (w : World) : RowR (w.alloc (.cells #[] 54)) (.slice (some ⟨w.heap.size, 0, none⟩) 0 0) [] := by
  refine ⟨by simp [flatR], .inr ⟨w.heap.size, 0, #[], rfl, Nat.zero_le _, heap_alloc_new w _, by simp, by unfold maxLen; omega, by simp, by simp [flatR]⟩⟩

theorem wpList_appendR {w : World} {ops : Array Oper} {rest : List Oper} {o : Oper} {a : Act} {Q : Exit → Act → World → Prop} (hgd : o.guard = none) (s x : Operand)
    (ho : o.op = .call { callee := .builtin .append, args := #[s, x], argTypes := #[65, 65] }) (v : Value) (ms : List Rcv) (hs : a.eval s = v) (hrow : RowR w v ms)
    (B : Nat) (m : Rcv) (c : Nat) (hx : a.eval x = .slice (some ⟨B, 0, none⟩) 1 c) (cs : Array Value) (hB : w.heap[B]? = some (.cells cs 54 (0, 0))) (hcs : cs = m.cs) (hl : ms.length ≤ 1000000)
    (h : ∀ g cap w', RowR w' (.slice (some ⟨g, 0, none⟩) (ms.length + 1) cap) (ms ++ [m]) → Chg (fun b => v.ownBlock = some b) w w' → (v.ownBlock = some g ∨ g = w.heap.size) → g < w'.heap.size → wpList Try.prog ops Q rest (a.put o.dst (.slice (some ⟨g, 0, none⟩) (ms.length + 1) cap)) w') : wpList Try.prog ops Q (o :: rest) a w :=
  wpList_plain hgd fun _ hK => wp_appendR s x ho v ms hs hrow B m c hx cs hB hcs hl fun g cap w' h1 h2 h3 h4 => hK _ _ (h g cap w' h1 h2 h3 h4)

theorem step_appendR {w : World} {ops : Array Oper} {o : Oper} {a : Act} {K : Act → World → Prop} {Q : Exit → Act → World → Prop} {E : Prop} (hgd : o.guard = none) (s x : Operand)
    (ho : o.op = .call { callee := .builtin .append, args := #[s, x], argTypes := #[65, 65] }) (v : Value) (ms : List Rcv) (hs : a.eval s = v) (hrow : RowR w v ms)
    (B : Nat) (m : Rcv) (c : Nat) (hx : a.eval x = .slice (some ⟨B, 0, none⟩) 1 c) (cs : Array Value) (hB : w.heap[B]? = some (.cells cs 54 (0, 0))) (hcs : cs = m.cs) (hl : ms.length ≤ 1000000)
    (h : ∀ g cap w', RowR w' (.slice (some ⟨g, 0, none⟩) (ms.length + 1) cap) (ms ++ [m]) → Chg (fun b => v.ownBlock = some b) w w' → (v.ownBlock = some g ∨ g = w.heap.size) → g < w'.heap.size → K (a.put o.dst (.slice (some ⟨g, 0, none⟩) (ms.length + 1) cap)) w') :
    if Region.wanted o (yielded ops a.tmps) = true then Oper.wp Try.prog o a w K Q else E := by
  have hw : Region.wanted o (yielded ops a.tmps) = true := by simp [Region.wanted, hgd]
  rw [if_pos hw]
  exact wp_appendR s x ho v ms hs hrow B m c hx cs hB hcs hl h

end Go.Proofs.Ytgdpapcgghiljaa
