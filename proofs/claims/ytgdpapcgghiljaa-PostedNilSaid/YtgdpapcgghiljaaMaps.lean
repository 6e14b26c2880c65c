/- Laws on a map's block whose keys are structs and whose elements are any values: look-up, store, entry and store, range, as operations of the model do them. -/
import Derived.WalkKit
import Derived.Maps.RangeWalk
import Derived.Laws.StructEq
set_option linter.unusedSimpArgs false
set_option linter.unusedVariables false
namespace Go.Proofs.Ytgdpapcgghiljaa
open Go.ChangeMaps (setBlock heap_setBlock_same heap_setBlock_other)
open Go.MapKept (Stamped)

/-- What the laws need of a key's type: 'kv' says the keys' values. -/
structure KeyT (P : Program) (K : TypeId) {α : Type} [DecidableEq α] (kv : α → Value) : Prop where
  desc : ∃ d, P.underlying K = some d ∧ ∀ a b, Instr.sameNow d (kv a) (kv b) = none
  check : ∀ (em : Bool) (x : α) (w : World), (Instr.checkKey em 10000 K (kv x)).run P w = .ok () w
  equal : ∀ (x y : α) (w : World), (Op.equal K (kv x) (kv y)).run P w = .ok (decide (x = y)) w
  stays : ∀ (x : α) (w : World), (Instr.keyThatStays (kv x) (kv x)).run P w = .ok (kv x) w
  inj : ∀ x y, kv x = kv y → x = y

section
variable {P : Program} {K : TypeId} {α : Type} [DecidableEq α] {kv : α → Value}

/-- The entries of a map. -/
def entOf (kv : α → Value) (es : List MapEntry) (M : List (α × Value)) : Prop := es.map (fun e => (e.key, e.val)) = M.map (fun p => (kv p.1, p.2))

/-- BLOCK b IS A MAP OF THE ENTRIES M (keys once each). -/
def MapB (kv : α → Value) (w : World) (b : Nat) (M : List (α × Value)) : Prop :=
  ∃ es clock, w.heap[b]? = some (.map es clock) ∧ Stamped es clock ∧ entOf kv es.toList M ∧ (M.map (·.1)).Nodup

theorem run_findAsking (kt : KeyT P K kv) (w : World) (x : α) : ∀ (es : List MapEntry) (M : List (α × Value)) (i : Nat), entOf kv es M →
    (Instr.findAsking K (kv x) es i).run P w = .ok ((M.findIdx? (fun p => p.1 == x)).map fun j => (i + j, ((M[j]?).map (·.2)).getD undef)) w
  | [], M, i, h => by
    have : M = [] := by simpa [entOf] using h.symm
    subst this
    simp [Instr.findAsking]
  | e :: es, [], i, h => by simp [entOf] at h
  | e :: es, p :: M, i, h => by
    simp only [entOf, List.map_cons, List.cons.injEq, Prod.mk.injEq] at h
    obtain ⟨⟨h1, h2⟩, h3⟩ := h
    simp only [Instr.findAsking, h1, Sem.run_bind, kt.equal, Result.andThen_ok]
    by_cases hx : x = p.1
    · subst hx
      simp [List.findIdx?_cons, h2]
    · have hx' : (p.1 == x) = false := by simpa using fun e => hx e.symm
      simp only [hx, decide_false, Bool.false_eq_true, if_false, List.findIdx?_cons, hx', Option.map_map]
      rw [run_findAsking kt w x es M (i + 1) h3]
      congr 1
      cases M.findIdx? (fun p => p.1 == x) with
      | none => rfl
      | some j => simp; omega

theorem run_findKey (kt : KeyT P K kv) (w : World) (x : α) (es : List MapEntry) (M : List (α × Value)) (h : entOf kv es M) :
    (Instr.findKey K (kv x) es).run P w = .ok ((M.findIdx? (fun p => p.1 == x)).map fun j => (j, ((M[j]?).map (·.2)).getD undef)) w := by
  obtain ⟨d, hd, hn⟩ := kt.desc
  simp only [Instr.findKey, Sem.run_bind, run_underlying hd w, Result.andThen_ok]
  cases es with
  | nil =>
    have : M = [] := by simpa [entOf] using h.symm
    subst this
    simp [Instr.findNow]
  | cons e es =>
    cases M with
    | nil => simp [entOf] at h
    | cons p M =>
      have h1 : e.key = kv p.1 := by simp [entOf] at h; exact h.1.1
      have : Instr.findNow d (kv x) (e :: es) 0 = none := by simp [Instr.findNow, h1, hn]
      rw [this]
      have := run_findAsking kt w x (e :: es) (p :: M) 0 h
      simp only [Nat.zero_add] at this
      exact this

/-- What stands at a key. -/
def mget (M : List (α × Value)) (x : α) : Option Value := (M.find? (fun p => p.1 == x)).map (·.2)
/-- A store. -/
def mput (M : List (α × Value)) (x : α) (v : Value) : List (α × Value) := if M.any (fun p => p.1 == x) then M.map (fun p => if p.1 == x then (x, v) else p) else M ++ [(x, v)]

theorem find_of_findIdx (M : List (α × Value)) (x : α) : mget M x = (M.findIdx? (fun p => p.1 == x)).bind fun j => (M[j]?).map (·.2) := by
  unfold mget
  induction M with
  | nil => rfl
  | cons p M ih =>
    by_cases h : (p.1 == x) = true
    · simp [List.find?_cons, List.findIdx?_cons, h]
    · have h' : (p.1 == x) = false := by simpa using h
      simp only [List.find?_cons, h', List.findIdx?_cons, ih]
      cases M.findIdx? (fun p => p.1 == x) <;> simp

variable {w : World} {t e : TypeId} {b : Nat} {M : List (α × Value)}

/-- 'm[k]', 'v, ok := m[k]'. -/
theorem MapB.look (h : MapB kv w b M) (kt : KeyT P K kv) (ht : P.underlying t = some (.map K e)) {z : Value} (hz : (zeroValue e).run P w = .ok z w) (c : Bool) (x : α) :
    (Instr.lookup t (.map (some b)) (kv x) c).run P w = .ok (if c then .tuple #[(mget M x).getD z, .bool (mget M x).isSome] else (mget M x).getD z) w := by
  obtain ⟨es, ck, hb, hst, he, hn⟩ := h
  have hf := run_findKey kt w x es.toList M he
  simp only [Instr.lookup, Sem.run_bind, run_underlying ht w, Result.andThen_ok, MapKept.run_getObj_map hb, Sem.run_pure, kt.check, hf]
  rw [find_of_findIdx]
  cases hi : M.findIdx? (fun p => p.1 == x) with
  | none => simp [hz]
  | some j =>
    have hj : j < M.length := (List.findIdx?_eq_some_iff_findIdx_eq.1 hi).1
    simp [List.getElem?_eq_getElem hj]

omit [DecidableEq α] in
theorem entOf_push {es : List MapEntry} (he : entOf kv es M) (x : α) (v : Value) (ck : Nat) : entOf kv (es ++ [⟨kv x, v, ck⟩]) (M ++ [(x, v)]) := by
  unfold entOf at *
  simp [he]

omit [DecidableEq α] in
theorem entOf_len {es : List MapEntry} (he : entOf kv es M) : es.length = M.length := by
  have := congrArg List.length he
  simpa [entOf] using this

omit [DecidableEq α] in
theorem entOf_get {es : List MapEntry} (he : entOf kv es M) (j : Nat) : (es[j]?).map (fun e => (e.key, e.val)) = (M[j]?).map (fun p => (kv p.1, p.2)) := by
  have := congrArg (fun l : List (Value × Value) => l[j]?) he
  simpa using this

omit [DecidableEq α] in
theorem entOf_set {es : List MapEntry} (he : entOf kv es M) (j : Nat) (x : α) (v : Value) (ck : Nat) : entOf kv (es.set j ⟨kv x, v, ck⟩) (M.set j (x, v)) := by
  unfold entOf at *
  rw [List.map_set, List.map_set, he]

theorem mput_absent (x : α) (v : Value) (h : M.findIdx? (fun p => p.1 == x) = none) : mput M x v = M ++ [(x, v)] := by
  have : M.any (fun p => p.1 == x) = false := by
    rw [List.findIdx?_eq_none_iff] at h
    rw [List.any_eq_false]
    intro p hp
    simp [h p hp]
  simp [mput, this]

theorem mput_present {j : Nat} (x : α) (v : Value) (h : M.findIdx? (fun p => p.1 == x) = some j) (hn : (M.map (·.1)).Nodup) : mput M x v = M.set j (x, v) := by
  have hj := List.findIdx?_eq_some_iff_getElem.1 h
  obtain ⟨hlt, hx, hb⟩ := hj
  have hx' : M[j].1 = x := by simpa using hx
  have : M.any (fun p => p.1 == x) = true := List.any_eq_true.2 ⟨M[j], List.getElem_mem hlt, hx⟩
  simp only [mput, this, if_true]
  apply List.ext_getElem (by simp)
  intro i h1 h2
  simp only [List.length_map] at h1
  simp only [List.getElem_map, List.getElem_set]
  by_cases hij : j = i
  · subst hij; simp [hx']
  · have : ¬ (M[i].1 == x) = true := by
      intro e
      have e' : M[i].1 = x := by simpa using e
      have hp := List.pairwise_iff_getElem.1 hn
      rcases Nat.lt_or_gt_of_ne hij with hlt' | hgt
      · exact hp j i (by simpa using hlt) (by simpa using h1) hlt' (by simp [hx', e'])
      · exact hp i j (by simpa using h1) (by simpa using hlt) hgt (by simp [hx', e'])
    simp [this, hij]

theorem absent_ne (kt : KeyT P K kv) {es : List MapEntry} (he : entOf kv es M) (x : α) (h : M.findIdx? (fun p => p.1 == x) = none) : ∀ y ∈ es, y.key ≠ kv x := by
  intro y hy hk
  obtain ⟨j, hj⟩ := List.getElem?_of_mem hy
  have := entOf_get he j
  rw [hj] at this
  cases hm : M[j]? with
  | none => simp [hm] at this
  | some p =>
    simp only [hm, Option.map_some, Option.some.injEq, Prod.mk.injEq] at this
    have e : p.1 = x := kt.inj _ _ (this.1.symm.trans hk)
    rw [List.findIdx?_eq_none_iff] at h
    have := h p (List.mem_of_getElem? hm)
    simp [e] at this

theorem nodup_put {x : α} {v : Value} (hn : (M.map (·.1)).Nodup) : ((mput M x v).map (·.1)).Nodup := by
  cases h : M.findIdx? (fun p => p.1 == x) with
  | none =>
    rw [mput_absent x v h, List.map_append, List.nodup_append]
    refine ⟨hn, by simp, ?_⟩
    intro a ha c hc
    simp only [List.map_cons, List.map_nil, List.mem_singleton] at hc
    subst hc
    rw [List.findIdx?_eq_none_iff] at h
    obtain ⟨p, hp, rfl⟩ := List.mem_map.1 ha
    have := h p hp
    simpa using this
  | some j =>
    rw [mput_present x v h hn, List.map_set]
    obtain ⟨hlt, hx, _⟩ := List.findIdx?_eq_some_iff_getElem.1 h
    have hx' : M[j].1 = x := by simpa using hx
    have : (M.map (·.1)).set j x = M.map (·.1) := by
      apply List.ext_getElem (by simp)
      intro i h1 h2
      simp only [List.getElem_set, List.getElem_map]
      split
      · rename_i h; subst h; exact hx'.symm
      · rfl
    rw [this]
    exact hn

/-- 'm[k] = v'. -/
theorem MapB.update (h : MapB kv w b M) (kt : KeyT P K kv) (ht : P.underlying t = some (.map K e)) (x : α) (v : Value) :
    ∃ w', (Instr.mapUpdate t (.map (some b)) (kv x) v).run P w = .ok () w' ∧ MapB kv w' b (mput M x v) ∧ w.grownBy w' (some b) ∧ w'.heap.size = w.heap.size := by
  obtain ⟨es, ck, hb, hst, he, hn⟩ := h
  have hf := run_findKey kt w x es.toList M he
  cases hi : M.findIdx? (fun p => p.1 == x) with
  | none =>
    simp only [hi, Option.map_none] at hf
    refine ⟨setBlock w b (.map (es.push ⟨kv x, v, ck⟩) (ck + 1)), ?_, ⟨_, _, heap_setBlock_same hb _, MapKept.stamped_push hst (absent_ne kt he x hi), ?_, nodup_put hn⟩,
      ⟨rfl, rfl, rfl, by simp [setBlock], fun i _ hne => heap_setBlock_other hb _ (fun e1 => hne (by rw [e1]))⟩, by simp [setBlock]⟩
    · simp [Instr.mapUpdate, run_underlying ht, MapKept.run_getObj_map hb, kt.check, hf, MapKept.run_setObj_map _ hb, Result.andThen, setBlock]
    · rw [mput_absent x v hi, Array.toList_push]
      exact entOf_push he x v ck
  | some j =>
    obtain ⟨hlt, hx, _⟩ := List.findIdx?_eq_some_iff_getElem.1 hi
    have hx' : M[j].1 = x := by simpa using hx
    have hl := entOf_len he
    have hjs : j < es.size := by simp at hl; omega
    have hget := entOf_get he j
    simp only [Array.getElem?_toList, Array.getElem?_eq_getElem hjs, List.getElem?_eq_getElem hlt, Option.map_some, Option.some.injEq, Prod.mk.injEq, hx'] at hget
    have hkey : (es[j]'hjs).key = kv x := hget.1
    simp only [hi, Option.map_some, List.getElem?_eq_getElem hlt, Option.getD_some] at hf
    have hmod : (es.modify j fun e => { e with key := kv x, val := v }).toList = es.toList.set j ⟨kv x, v, (es[j]'hjs).born⟩ := by
      apply List.ext_getElem (by simp)
      intro i h1 h2
      simp only [Array.getElem_toList, Array.getElem_modify, List.getElem_set]
      split
      · rename_i e1; subst e1; rfl
      · rfl
    refine ⟨setBlock w b (.map (es.modify j fun e => { e with key := kv x, val := v }) ck), ?_, ⟨_, _, heap_setBlock_same hb _,
      MapKept.stamped_modify hst j _ (fun _ _ => rfl) (fun e' _ he' => ?_), ?_, nodup_put hn⟩,
      ⟨rfl, rfl, rfl, by simp [setBlock], fun i _ hne => heap_setBlock_other hb _ (fun e1 => hne (by rw [e1]))⟩, by simp [setBlock]⟩
    · simp [Instr.mapUpdate, run_underlying ht, MapKept.run_getObj_map hb, kt.check, hf, Array.getElem?_eq_getElem hjs, hkey, kt.stays, MapKept.run_setObj_map _ hb, Result.andThen, setBlock]
    · rw [Array.getElem?_eq_getElem hjs] at he'
      cases he'
      exact hkey.symm
    · rw [mput_present x v hi hn, hmod]
      exact entOf_set he j x v _

/-! ### 'm[k] = append(m[k], ..)': the entry is found or laid, and written later -/

/-- As 'MapB', and the entry at key x bears the stamp n. -/
def MapN (kv : α → Value) (w : World) (b : Nat) (M : List (α × Value)) (x : α) (n : Int) : Prop :=
  ∃ es clock, w.heap[b]? = some (.map es clock) ∧ Stamped es clock ∧ entOf kv es.toList M ∧ (M.map (·.1)).Nodup ∧ ∃ e ∈ es.toList, e.key = kv x ∧ (e.born : Int) = n

omit [DecidableEq α] in
theorem MapB.lt (h : MapB kv w b M) : b < w.heap.size := by
  obtain ⟨es, ck, hb, _⟩ := h
  exact (Array.getElem?_eq_some_iff.1 hb).1

omit [DecidableEq α] in
theorem MapN.lt {x : α} {n : Int} (h : MapN kv w b M x n) : b < w.heap.size := by
  obtain ⟨es, ck, hb, _⟩ := h
  exact (Array.getElem?_eq_some_iff.1 hb).1

omit [DecidableEq α] in
theorem MapB.of_block {w' : World} (h : MapB kv w b M) (hb : w'.heap[b]? = w.heap[b]?) : MapB kv w' b M := by
  obtain ⟨es, ck, hb', r⟩ := h
  exact ⟨es, ck, hb.trans hb', r⟩

omit [DecidableEq α] in
theorem MapN.of_block {w' : World} {x : α} {n : Int} (h : MapN kv w b M x n) (hb : w'.heap[b]? = w.heap[b]?) : MapN kv w' b M x n := by
  obtain ⟨es, ck, hb', r⟩ := h
  exact ⟨es, ck, hb.trans hb', r⟩

omit [DecidableEq α] in
theorem MapB.made (kv : α → Value) (w : World) : MapB kv (w.alloc (.map #[] 0)) w.heap.size [] :=
  ⟨#[], 0, (MapKept.heap_alloc w _).1, MapKept.stamped_empty 0, rfl, by simp⟩

/-- The entries behind 'the entry is found or laid'. -/
def menter (M : List (α × Value)) (x : α) (z : Value) : List (α × Value) := if M.any (fun p => p.1 == x) then M else M ++ [(x, z)]

theorem mput_menter (M : List (α × Value)) (x : α) (z v : Value) : mput (menter M x z) x v = mput M x v := by
  unfold menter
  split
  · rfl
  · rename_i h
    have h' : M.any (fun p => p.1 == x) = false := Bool.eq_false_iff.2 h
    have : (M ++ [(x, z)]).any (fun p => p.1 == x) = true := by simp
    simp only [mput, this, if_true, h', List.map_append, List.map_cons, List.map_nil, beq_self_eq_true]
    simp only [Bool.false_eq_true, if_false]
    congr 1
    rw [List.any_eq_false] at h'
    conv => rhs; rw [← List.map_id M]
    apply List.map_congr_left
    intro p hp
    have := h' p hp
    simp only [this, if_false, id]
    simp

theorem MapB.entry (h : MapB kv w b M) (kt : KeyT P K kv) (ht : P.underlying t = some (.map K e)) {z : Value} (hz : (zeroValue e).run P w = .ok z w) (x : α) :
    ∃ w' n, (Instr.mapEntry t (.map (some b)) (kv x)).run P w = .ok (.tuple #[(mget M x).getD z, .int .i64 n]) w' ∧ MapN kv w' b (menter M x z) x n ∧ w.grownBy w' (some b) ∧ w'.heap.size = w.heap.size := by
  obtain ⟨es, ck, hb, hst, he, hn⟩ := h
  have hf := run_findKey kt w x es.toList M he
  cases hi : M.findIdx? (fun p => p.1 == x) with
  | none =>
    simp only [hi, Option.map_none] at hf
    have hme : menter M x z = mput M x z := by
      have hi' := hi
      rw [List.findIdx?_eq_none_iff] at hi'
      have : M.any (fun p => p.1 == x) = false := List.any_eq_false.2 fun p hp => by simp [hi' p hp]
      simp [menter, mput, this]
    refine ⟨setBlock w b (.map (es.push ⟨kv x, z, ck⟩) (ck + 1)), ck, ?_, ⟨_, _, heap_setBlock_same hb _, MapKept.stamped_push hst (absent_ne kt he x hi), ?_, by rw [hme]; exact nodup_put hn, ⟨kv x, z, ck⟩, by simp, rfl, rfl⟩,
      ⟨rfl, rfl, rfl, by simp [setBlock], fun i _ hne => heap_setBlock_other hb _ (fun e1 => hne (by rw [e1]))⟩, by simp [setBlock]⟩
    · simp [Instr.mapEntry, run_underlying ht, MapKept.run_getObj_map hb, kt.check, hf, hz, MapKept.run_setObj_map _ hb, Result.andThen, setBlock, find_of_findIdx, hi, goInt]
    · rw [hme, mput_absent x z hi, Array.toList_push]
      exact entOf_push he x z ck
  | some j =>
    obtain ⟨hlt, hx, _⟩ := List.findIdx?_eq_some_iff_getElem.1 hi
    have hx' : M[j].1 = x := by simpa using hx
    have hl := entOf_len he
    have hjs : j < es.size := by simp at hl; omega
    have hget := entOf_get he j
    simp only [Array.getElem?_toList, Array.getElem?_eq_getElem hjs, List.getElem?_eq_getElem hlt, Option.map_some, Option.some.injEq, Prod.mk.injEq, hx'] at hget
    have hkey : (es[j]'hjs).key = kv x := hget.1
    simp only [hi, Option.map_some, List.getElem?_eq_getElem hlt, Option.getD_some] at hf
    have hme : menter M x z = M := by
      have : M.any (fun p => p.1 == x) = true := List.any_eq_true.2 ⟨M[j], List.getElem_mem hlt, hx⟩
      simp [menter, this]
    have hmod : (es.modify j fun e => { e with key := kv x }).toList = es.toList := by
      apply List.ext_getElem (by simp)
      intro i h1 h2
      simp only [Array.getElem_toList, Array.getElem_modify]
      split
      · rename_i e1; subst e1; generalize es[j]'hjs = y at hkey ⊢; rw [← hkey]
      · rfl
    refine ⟨setBlock w b (.map (es.modify j fun e => { e with key := kv x }) ck), (es[j]'hjs).born, ?_, ⟨_, _, heap_setBlock_same hb _,
      MapKept.stamped_modify hst j _ (fun _ _ => rfl) (fun e' _ he' => ?_), ?_, by rw [hme]; exact hn, es[j]'hjs, by rw [hmod]; simp, hkey, rfl⟩,
      ⟨rfl, rfl, rfl, by simp [setBlock], fun i _ hne => heap_setBlock_other hb _ (fun e1 => hne (by rw [e1]))⟩, by simp [setBlock]⟩
    · simp [Instr.mapEntry, run_underlying ht, MapKept.run_getObj_map hb, kt.check, hf, Array.getElem?_eq_getElem hjs, hkey, kt.stays, MapKept.run_setObj_map _ hb, Result.andThen, setBlock, find_of_findIdx, hi, List.getElem?_eq_getElem hlt, goInt]
    · rw [Array.getElem?_eq_getElem hjs] at he'
      cases he'
      exact hkey.symm
    · rw [hme, hmod]
      exact he

theorem MapN.store {x : α} {n : Int} (h : MapN kv w b M x n) (kt : KeyT P K kv) (v : Value) :
    ∃ w', (Instr.entryStore t (.map (some b)) (.int .i64 n) v).run P w = .ok () w' ∧ MapB kv w' b (mput M x v) ∧ w.grownBy w' (some b) ∧ w'.heap.size = w.heap.size := by
  obtain ⟨es, ck, hb, hst, he, hn, e0, he0, hk0, rfl⟩ := h
  obtain ⟨j, hjs, rfl⟩ := List.getElem_of_mem he0
  simp only [Array.length_toList] at hjs
  simp only [Array.getElem_toList] at hk0
  have hl := entOf_len he
  have hlt : j < M.length := by simp at hl; omega
  have hget := entOf_get he j
  simp only [Array.getElem?_toList, Array.getElem?_eq_getElem hjs, List.getElem?_eq_getElem hlt, Option.map_some, Option.some.injEq, Prod.mk.injEq] at hget
  have hx' : M[j].1 = x := kt.inj _ _ (hget.1.symm.trans hk0)
  have hborn := ((MapKept.stamped_iff es ck).1 hst).2.1
  have hfi : es.findIdx? (fun e => (e.born : Int) == (es[j]'hjs).born) = some j := by
    rw [Array.findIdx?_eq_some_iff_getElem]
    refine ⟨hjs, by simp, fun i hij => ?_⟩
    have hp := List.pairwise_iff_getElem.1 hborn
    have := hp i j (by simp; omega) (by simpa using hjs) hij
    simp only [List.getElem_map, Array.getElem_toList] at this
    simp only [beq_iff_eq]
    omega
  have hi : M.findIdx? (fun p => p.1 == x) = some j := by
    rw [List.findIdx?_eq_some_iff_getElem]
    refine ⟨hlt, by simp [hx'], fun i hij => ?_⟩
    have hp := List.pairwise_iff_getElem.1 hn
    have := hp i j (by simp; omega) (by simpa using hlt) hij
    simp only [List.getElem_map, hx'] at this
    simpa using this
  have hmod : (es.modify j fun e => { e with val := v }).toList = es.toList.set j ⟨kv x, v, (es[j]'hjs).born⟩ := by
    apply List.ext_getElem (by simp)
    intro i h1 h2
    simp only [Array.getElem_toList, Array.getElem_modify, List.getElem_set]
    split
    · rename_i e1; subst e1; generalize es[j]'hjs = y at hk0 ⊢; rw [hk0]
    · rfl
  refine ⟨setBlock w b (.map (es.modify j fun e => { e with val := v }) ck), ?_, ⟨_, _, heap_setBlock_same hb _,
      MapKept.stamped_modify hst j _ (fun _ _ => rfl) (fun _ _ _ => rfl), ?_, nodup_put hn⟩,
      ⟨rfl, rfl, rfl, by simp [setBlock], fun i _ hne => heap_setBlock_other hb _ (fun e1 => hne (by rw [e1]))⟩, by simp [setBlock]⟩
  · simp only [Array.getElem_toList]
    simp [Instr.entryStore, MapKept.run_getObj_map hb, hfi, asInt, asIntOf, MapKept.run_setObj_map _ hb, Result.andThen, setBlock]
  · rw [mput_present x v hi hn, hmod]
    exact entOf_set he j x v _

/-! ### 'for k, v := range m' (the map isn't written in a round) -/

/-- Block r is an iterator over the map in block b, whose entries are M; 'left' are those that are still to come. -/
def Ranges (kv : α → Value) (w : World) (b r : Nat) (M left : List (α × Value)) : Prop :=
  ∃ es clock seen c0, b ≠ r ∧ w.heap[b]? = some (.map es clock) ∧ Stamped es clock ∧ entOf kv es.toList M ∧ (M.map (·.1)).Nodup ∧
    w.heap[r]? = some (.mapIter (some b) clock seen c0) ∧ clock ≤ c0 ∧ entOf kv (leftOf es seen).toList left

omit [DecidableEq α] in
theorem MapB.range (h : MapB kv w b M) (ht : P.underlying t = some (.map K e)) :
    ∃ w', (Instr.range t (.map (some b))).run P w = .ok (.pointer (some ⟨w.heap.size, 0, none⟩)) w' ∧ Ranges kv w' b w.heap.size M M ∧ w.grownBy w' none ∧ w'.heap.size = w.heap.size + 1 := by
  have hlt := h.lt
  obtain ⟨es, ck, hb, hst, he, hn⟩ := h
  refine ⟨_, run_range_map w t K e b es ck ht hb, ⟨es, ck, #[], ck, by omega, ((MapKept.heap_alloc w _).2 b hlt).trans hb, hst, he, hn, (MapKept.heap_alloc w _).1, Nat.le_refl _, ?_⟩, World.grownBy_alloc w _ none, by simp⟩
  have : leftOf es #[] = es := by unfold leftOf; exact Array.filter_eq_self.2 (fun x _ => by simp)
  rw [this]
  exact he

omit [DecidableEq α] in
theorem Ranges.map {r : Nat} {left : List (α × Value)} (h : Ranges kv w b r M left) : MapB kv w b M := by
  obtain ⟨es, ck, seen, c0, hne, hb, hst, he, hn, _⟩ := h
  exact ⟨es, ck, hb, hst, he, hn⟩

omit [DecidableEq α] in
theorem Ranges.lt {r : Nat} {left : List (α × Value)} (h : Ranges kv w b r M left) : r < w.heap.size := by
  obtain ⟨es, ck, seen, c0, hne, hb, hst, he, hn, hr, _⟩ := h
  exact (Array.getElem?_eq_some_iff.1 hr).1

omit [DecidableEq α] in
theorem Ranges.of_blocks {w' : World} {r : Nat} {left : List (α × Value)} (h : Ranges kv w b r M left) (hb : w'.heap[b]? = w.heap[b]?) (hr : w'.heap[r]? = w.heap[r]?) : Ranges kv w' b r M left := by
  obtain ⟨es, ck, seen, c0, hne, hb', hst, he, hn, hr', r'⟩ := h
  exact ⟨es, ck, seen, c0, hne, hb.trans hb', hst, he, hn, hr.trans hr', r'⟩

theorem leftOf_push (es : Array MapEntry) (seen : Array Nat) (n : Nat) : (leftOf es (seen.push n)).toList = (leftOf es seen).toList.filter (fun e => e.born != n) := by
  unfold leftOf
  rw [Array.toList_filter, Array.toList_filter, List.filter_filter]
  congr 1
  funext e
  rw [contains_push]
  cases seen.contains e.born <;> cases h : (e.born == n) <;> simp [bne, h]

theorem filter_born (l : List MapEntry) (j : Nat) (hj : j < l.length) (hnd : (l.map (·.born)).Nodup) : l.filter (fun e => e.born != l[j].born) = l.take j ++ l.drop (j + 1) := by
  have hp := List.pairwise_iff_getElem.1 hnd
  have h1 : (l.take j).filter (fun e => e.born != l[j].born) = l.take j := by
    rw [List.filter_eq_self]
    intro a ha
    obtain ⟨i, hi, rfl⟩ := List.getElem_of_mem ha
    have hi' : i < j := by simp at hi; omega
    have := hp i j (by simp; omega) (by simpa using hj) hi'
    simp only [List.getElem_map] at this
    simp only [List.getElem_take, bne_iff_ne]
    exact this
  have h2 : (l.drop (j + 1)).filter (fun e => e.born != l[j].born) = l.drop (j + 1) := by
    rw [List.filter_eq_self]
    intro a ha
    obtain ⟨i, hi, rfl⟩ := List.getElem_of_mem ha
    have hi' : j + 1 + i < l.length := by simp at hi; omega
    have := hp j (j + 1 + i) (by simpa using hj) (by simpa using hi') (by omega)
    simp only [List.getElem_map] at this
    simp only [List.getElem_drop, bne_iff_ne]
    exact fun e => this e.symm
  generalize hb : l[j].born = bn at *
  have e1 : l = l.take j ++ l[j] :: l.drop (j + 1) := by rw [List.getElem_cons_drop, List.take_append_drop]
  have e2 : l.filter (fun e => e.born != bn) = (l.take j ++ l[j] :: l.drop (j + 1)).filter (fun e => e.born != bn) := congrArg _ e1
  rw [e2, List.filter_append, List.filter_cons, h1, h2, hb]
  simp

/-- THE STEP: nothing is left; or one of those that are left comes. -/
theorem Ranges.next {r : Nat} {left : List (α × Value)} (h : Ranges kv w b r M left) (kt : KeyT P K kv) (ty : TypeId) :
    (left = [] ∧ (Instr.next (.pointer (some ⟨r, 0, none⟩)) false ty).run P w = .ok (.tuple #[.bool false]) w) ∨
    ∃ (x : α) (v : Value) (L1 L2 : List (α × Value)) (w' : World), left = L1 ++ (x, v) :: L2 ∧ (x, v) ∈ M ∧ (Instr.next (.pointer (some ⟨r, 0, none⟩)) false ty).run P w = .ok (.tuple #[.bool true, kv x, v]) w' ∧
      Ranges kv w' b r M (L1 ++ L2) ∧ w.grownBy w' (some r) ∧ w'.heap.size = w.heap.size ∧ (Instr.entry (.pointer (some ⟨r, 0, none⟩))).run P w' = .ok (.tuple #[kv x, v]) w' := by
  obtain ⟨es, ck, seen, c0, hne, hb, hst, he, hn, hr, hck, hleft⟩ := h
  have hst' := (MapKept.stamped_iff es ck).1 hst
  rcases run_next_at (P := P) w ty r b ck c0 seen es ck hr hb hst'.1 hck with ⟨h0, hrun⟩ | ⟨e, hel, w1, hal, hrun⟩
  · refine Or.inl ⟨?_, hrun⟩
    have := entOf_len hleft
    simp only [Array.length_toList, h0] at this
    exact List.eq_nil_of_length_eq_zero this.symm
  · obtain ⟨j, hj, rfl⟩ := List.getElem_of_mem hel
    have hl := entOf_len hleft
    have hjl : j < left.length := by omega
    have hget := entOf_get hleft j
    rw [List.getElem?_eq_getElem hj, List.getElem?_eq_getElem hjl] at hget
    simp only [Option.map_some, Option.some.injEq, Prod.mk.injEq] at hget
    obtain ⟨hk, hv⟩ := hget
    have hmem := (mem_left hel).1
    have hr1 : w1.heap[r]? = some (.mapIter (some b) ck seen c0) := by rcases hal with rfl | rfl <;> exact hr
    have hb1 : w1.heap[b]? = some (.map es ck) := by rcases hal with rfl | rfl <;> exact hb
    have hset := MapKept.heap_set (o' := .mapIter (some b) ck (seen.push ((leftOf es seen).toList[j]).born) ck) hr1
    have hb' : (setBlock w1 r (.mapIter (some b) ck (seen.push ((leftOf es seen).toList[j]).born) ck)).heap[b]? = some (.map es ck) := (hset.2 b hne).trans hb1
    refine Or.inr ⟨left[j].1, left[j].2, left.take j, left.drop (j + 1), _, ?_, ?_, by rw [hrun, hk, hv], ⟨es, ck, seen.push ((leftOf es seen).toList[j]).born, ck, hne, hb', hst, he, hn, hset.1, Nat.le_refl _, ?_⟩, ?_, ?_, ?_⟩
    · rw [show ((left[j].1, left[j].2) : α × Value) = left[j] from rfl, List.getElem_cons_drop, List.take_append_drop]
    · obtain ⟨i, hi, e1⟩ := List.getElem_of_mem hmem
      have hg := entOf_get he i
      rw [List.getElem?_eq_getElem hi, e1] at hg
      cases hm : M[i]? with
      | none => simp [hm] at hg
      | some p =>
        simp only [hm, Option.map_some, Option.some.injEq, Prod.mk.injEq] at hg
        have e2 : p.1 = left[j].1 := kt.inj _ _ (hg.1.symm.trans hk)
        have e3 : p.2 = left[j].2 := hg.2.symm.trans hv
        have : p = (left[j].1, left[j].2) := by rw [← e2, ← e3]
        rw [← this]
        exact List.mem_of_getElem? hm
    · rw [leftOf_push]
      -- the entries left are each once
      have hnd : ((leftOf es seen).toList.map (·.born)).Nodup := by
        unfold leftOf
        rw [Array.toList_filter]
        exact (List.filter_sublist.map _).nodup hst'.2.1
      generalize (leftOf es seen).toList = l at *
      rw [filter_born l j hj hnd]
      unfold entOf at *
      rw [List.map_append, List.map_append, List.map_take, List.map_take, List.map_drop, List.map_drop, hleft]
    · rcases hal with rfl | rfl <;> exact ⟨rfl, rfl, rfl, by simp [setBlock], fun i _ hi => hset.2 i (fun e1 => hi (by rw [e1]))⟩
    · rcases hal with rfl | rfl <;> simp [setBlock]
    · have := run_entry_at (P := P) _ r b ck seen es ck _ hset.1 hb' hmem hst'.2.1
      rw [hk, hv] at this
      exact this

end
end Go.Proofs.Ytgdpapcgghiljaa
