/- The words of the proofs: messages, channels, what has turned between two worlds, rows of messages. -/
import Derived.Test.YtgdpapcgghiljaaRows
import Derived.Test.YtgdpapcgghiljaaMaps
import Derived.WalkSpells
import Derived.WalkLawsBesides
import Derived.Deep.QuietTactic
import Derived.BigQuiet
import Derived.Lib.Hide
import Derived.Deep.MidRow
import Derived.Deep.RegionHeld3
import Derived.Deep.RegionHeldLaw
import Derived.Deep.RegionLaw
import Derived.Deep.AppendLies
import Derived.Maps.AppendAt
set_option linter.unusedSimpArgs false
set_option linter.unusedVariables false
namespace Go.Proofs.Ytgdpapcgghiljaa
open Go.RowKit

/-! ### values -/
structure Msg where
  key : ByteArray
  frm : Int
  dst : Int
  call : Int
  tag : Int
  value : Int
  size : Int
  taken : Bool
  deriving DecidableEq

def Msg.cs (m : Msg) : Array Value := #[.string m.key, .int .i64 m.frm, .int .i64 m.dst, .int .i64 m.call, .int .i64 m.tag, .int .i64 m.value, .int .i64 m.size, .bool m.taken]

section
variable (m : Msg)
@[go_sem] theorem Msg.cs_0 : m.cs[0]? = some (.string m.key) := rfl
@[go_sem] theorem Msg.cs_1 : m.cs[1]? = some (.int .i64 m.frm) := rfl
@[go_sem] theorem Msg.cs_2 : m.cs[2]? = some (.int .i64 m.dst) := rfl
@[go_sem] theorem Msg.cs_3 : m.cs[3]? = some (.int .i64 m.call) := rfl
@[go_sem] theorem Msg.cs_4 : m.cs[4]? = some (.int .i64 m.tag) := rfl
@[go_sem] theorem Msg.cs_5 : m.cs[5]? = some (.int .i64 m.value) := rfl
@[go_sem] theorem Msg.cs_6 : m.cs[6]? = some (.int .i64 m.size) := rfl
@[go_sem] theorem Msg.cs_7 : m.cs[7]? = some (.bool m.taken) := rfl
@[go_sem] theorem Msg.cs_size : m.cs.size = 8 := rfl
theorem Msg.cs_len : m.cs.toList.length = 8 := rfl
end

def Msg.zero : Msg := ⟨⟨#[]⟩, 0, 0, 0, 0, 0, 0, false⟩

structure Chan where
  key : ByteArray
  frm : Int
  dst : Int
  deriving DecidableEq

structure Sent where
  frm : Int
  call : Int
  deriving DecidableEq

def Chan.v (c : Chan) : Value := .agg #[.string c.key, .int .i64 c.frm, .int .i64 c.dst]
def Sent.v (c : Sent) : Value := .agg #[.int .i64 c.frm, .int .i64 c.call]
def Msg.chan (m : Msg) : Chan := ⟨m.key, m.frm, m.dst⟩
def Msg.sent (m : Msg) : Sent := ⟨m.frm, m.call⟩

theorem bytes_toList_inj (a b : ByteArray) : a.toList = b.toList ↔ a = b := by
  rw [ByteArray.toList_eq, ByteArray.toList_eq]
  obtain ⟨⟨x⟩⟩ := a
  obtain ⟨⟨y⟩⟩ := b
  simp


theorem check_string (em : Bool) (n : Nat) (s : ByteArray) (w : World) : (Instr.checkKey em (n + 1) 9 (.string s)).run Try.prog w = .ok () w := by
  simp [Instr.checkKey, run_underlying Try.underlying9]
theorem check_int (em : Bool) (n : Nat) (s : Int) (w : World) : (Instr.checkKey em (n + 1) 3 (.int .i64 s)).run Try.prog w = .ok () w := by
  simp [Instr.checkKey, run_underlying Try.underlying3]

theorem check_chan (em : Bool) (n : Nat) (k : ByteArray) (a b : Int) (w : World) : (Instr.checkKey em (n + 2) 100 (.agg #[.string k, .int .i64 a, .int .i64 b])).run Try.prog w = .ok () w := by
  simp only [Instr.checkKey, Sem.run_bind, run_underlying Try.underlying100, Result.andThen_ok]
  simp [check_string, check_int, part, isAgg, run_underlying Try.underlying9, run_underlying Try.underlying3]
theorem check_sent (em : Bool) (n : Nat) (a b : Int) (w : World) : (Instr.checkKey em (n + 2) 103 (.agg #[.int .i64 a, .int .i64 b])).run Try.prog w = .ok () w := by
  simp only [Instr.checkKey, Sem.run_bind, run_underlying Try.underlying103, Result.andThen_ok]
  simp [check_string, check_int, part, isAgg, run_underlying Try.underlying9, run_underlying Try.underlying3]

theorem chanKey : KeyT Try.prog 100 Chan.v where
  desc := ⟨_, Try.underlying100, fun _ _ => rfl⟩
  check em x w := check_chan em 9998 x.key x.frm x.dst w
  equal x y w := by
    show (Op.equal 100 (.agg #[.string x.key, .int .i64 x.frm, .int .i64 x.dst]) (.agg #[.string y.key, .int .i64 y.frm, .int .i64 y.dst])).run Try.prog w = .ok (decide (x = y)) w
    have h1 : Try.prog.underlying 100 = some (.struct (Try.prog.fieldsOf 100)) := by kernel_rfl
    have h2 : Try.prog.stoodInHeld 100 = false := by kernel_rfl
    simp only [Op.equal, Op.maxDepth]
    rw [run_equalIn_struct w 9999 100 _ _ h1 h2]
    simp only [Program.fieldsOf, Try.underlying100]
    simp [Op.eqFields, part, isAgg, run_underlying Try.underlying9, run_underlying Try.underlying3, run_equalIn_string w _ _ _ _ Try.underlying9, run_equalIn_int w _ _ _ _ _ _ Try.underlying3, Result.andThen]
    obtain ⟨k, a, b⟩ := x
    obtain ⟨k', a', b'⟩ := y
    simp only [bytes_toList_inj, Chan.mk.injEq]
    by_cases h1 : k = k' <;> by_cases h2 : a = a' <;> by_cases h3 : b = b' <;> simp [h1, h2, h3]
  stays x w := by
    have : Instr.sameBits 10000 x.v x.v = true := by
      have e : (x.key == x.key) = true := (MapKept.bytes_beq _ _).2 rfl
      simp [Chan.v, Instr.sameBits, e]
    simp [Instr.keyThatStays, this]
  inj x y h := by
    simp [Chan.v] at h
    cases x; cases y; simp_all

theorem sentKey : KeyT Try.prog 103 Sent.v where
  desc := ⟨_, Try.underlying103, fun _ _ => rfl⟩
  check em x w := check_sent em 9998 x.frm x.call w
  equal x y w := by
    show (Op.equal 103 (.agg #[.int .i64 x.frm, .int .i64 x.call]) (.agg #[.int .i64 y.frm, .int .i64 y.call])).run Try.prog w = .ok (decide (x = y)) w
    have h1 : Try.prog.underlying 103 = some (.struct (Try.prog.fieldsOf 103)) := by kernel_rfl
    have h2 : Try.prog.stoodInHeld 103 = false := by kernel_rfl
    simp only [Op.equal, Op.maxDepth]
    rw [run_equalIn_struct w 9999 103 _ _ h1 h2]
    simp only [Program.fieldsOf, Try.underlying103]
    simp [Op.eqFields, part, isAgg, run_underlying Try.underlying9, run_underlying Try.underlying3, run_equalIn_string w _ _ _ _ Try.underlying9, run_equalIn_int w _ _ _ _ _ _ Try.underlying3, Result.andThen]
    obtain ⟨a, b⟩ := x
    obtain ⟨a', b'⟩ := y
    simp only [Sent.mk.injEq]
    by_cases h2 : a = a' <;> by_cases h3 : b = b' <;> simp [h2, h3]
  stays x w := by
    have : Instr.sameBits 10000 x.v x.v = true := by simp [Sent.v, Instr.sameBits]
    simp [Instr.keyThatStays, this]
  inj x y h := by
    simp [Sent.v] at h
    cases x; cases y; simp_all

/-! ### what has turned -/

/-- Of the blocks that were there only those in S may have turned. -/
structure Chg (S : Nat → Prop) (w w' : World) : Prop where
  os : w'.os = w.os
  tape : w'.tape = w.tape
  output : w'.output = w.output
  size : w.heap.size ≤ w'.heap.size
  block : ∀ k, k < w.heap.size → ¬ S k → w'.heap[k]? = w.heap[k]?

/-- Nothing that was there. -/
def Non : Nat → Prop := fun _ => False
/-- The blocks of a list. -/
def In (l : List Nat) : Nat → Prop := fun k => k ∈ l

section
variable {S S' : Nat → Prop} {w w1 w2 : World}
theorem Chg.refl (S : Nat → Prop) (w : World) : Chg S w w := ⟨rfl, rfl, rfl, Nat.le_refl _, fun _ _ _ => rfl⟩
theorem Chg.trans (h : Chg S w w1) (k : Chg S' w1 w2) (hs : ∀ b, b < w.heap.size → S' b → S b) : Chg S w w2 :=
  ⟨k.os.trans h.os, k.tape.trans h.tape, k.output.trans h.output, Nat.le_trans h.size k.size,
   fun b hb hn => (k.block b (Nat.lt_of_lt_of_le hb h.size) (fun e => hn (hs b hb e))).trans (h.block b hb hn)⟩
theorem Chg.non (h : Chg S w w1) (k : Chg Non w1 w2) : Chg S w w2 := h.trans k (fun _ _ e => e.elim)
theorem Chg.same (h : Chg S w w1) (k : Chg S w1 w2) : Chg S w w2 := h.trans k (fun _ _ e => e)
theorem Chg.mono (h : Chg S w w1) (hs : ∀ b, b < w.heap.size → S b → S' b) : Chg S' w w1 := ⟨h.os, h.tape, h.output, h.size, fun b hb hn => h.block b hb (fun e => hn (hs b hb e))⟩
theorem Chg.any (h : Chg Non w w1) : Chg S w w1 := h.mono fun _ _ e => e.elim
theorem Chg.alloc (h : Chg S w w1) (o : Obj) : Chg S w (w1.alloc o) :=
  h.non ⟨rfl, rfl, rfl, by simp, fun k hk _ => Below.heap_alloc _ _ _ hk⟩
theorem Chg.drew (h : Chg S w w1) : Chg S w w1.drew := ⟨h.os, h.tape, h.output, h.size, h.block⟩
theorem Chg.drewN (h : Chg S w w1) (n : Nat) : Chg S w (w1.drewN n) := ⟨h.os, h.tape, h.output, h.size, h.block⟩
theorem Chg.setCell (h : Chg S w w1) {p : Addr} (hp : w.heap.size ≤ p.block ∨ S p.block) (u : Value) : Chg S w (w1.setCell p u) :=
  ⟨h.os, h.tape, h.output, by simpa using h.size, fun k hk hn => (Below.heap_setCell _ _ _ _ (by
    rintro rfl
    rcases hp with hp | hp
    · omega
    · exact hn hp)).trans (h.block k hk hn)⟩
theorem Chg.grown {row : Option Nat} (h : Chg S w w1) (hg : w1.grownBy w2 row) (hr : ∀ k, row = some k → w.heap.size ≤ k ∨ S k) : Chg S w w2 :=
  ⟨hg.os.trans h.os, hg.tape.trans h.tape, hg.output.trans h.output, Nat.le_trans h.size hg.size, fun k hk hn => (hg.block k (Nat.lt_of_lt_of_le hk h.size) (fun e => by
    rcases hr k e.symm with h1 | h1
    · omega
    · exact hn h1)).trans (h.block k hk hn)⟩
theorem Chg.below (h : Chg Non w w1) : Below w.heap.size w w1 := ⟨h.os, h.tape, h.output, h.size, fun k hk => h.block k hk (fun e => e)⟩
theorem Chg.of_below (h : Below w.heap.size w w1) : Chg Non w w1 := ⟨h.os, h.tape, h.output, h.size, fun k hk _ => h.block k hk⟩
theorem Chg.set {p : Addr} (hp : S p.block) (u : Value) : Chg S w (w.setCell p u) := (Chg.refl S w).setCell (.inr hp) u
attribute [go_sem] Chg.refl Chg.alloc Chg.drew Chg.drewN
/-- What is known of cells. -/
theorem Chg.cell (h : Chg S w w1) {p : Addr} (hp : p.block < w.heap.size) (hn : ¬ S p.block) : w1.cell? p = w.cell? p := World.cell?_of_block (w := w) (h.block p.block hp hn)
theorem Chg.frozen (h : Chg S w w1) {p : Addr} (hp : p.block < w.heap.size) (hn : ¬ S p.block) : w1.frozen? p = w.frozen? p := World.frozen?_of_block (w := w) (h.block p.block hp hn)
end

/-! ### rows of messages -/
/-- The message m lies at offset o of block g. -/
def At (w : World) (g o : Nat) (m : Msg) : Prop := w.cell? ⟨g, o, none⟩ = some (.string m.key) ∧ ∀ j, j < 7 → w.cell? ⟨g, o + (j + 1), none⟩ = m.cs[j + 1]?

def flat (ms : List Msg) : List Value := ms.flatMap (·.cs.toList)

theorem flat_len (ms : List Msg) : (flat ms).length = ms.length * 8 := by
  induction ms with
  | nil => rfl
  | cons m ms ih => simp only [flat, List.flatMap_cons, List.length_append, List.length_cons] at *; rw [ih]; simp [Msg.cs]; omega

theorem flat_get (ms : List Msg) (i : Nat) (m : Msg) (h : ms[i]? = some m) (j : Nat) (hj : j < 8) : (flat ms)[i * 8 + j]? = m.cs[j]? := by
  induction ms generalizing i with
  | nil => simp at h
  | cons x ms ih =>
    cases i with
    | zero =>
      simp only [List.getElem?_cons_zero, Option.some.injEq] at h
      subst h
      simp only [flat, List.flatMap_cons, Nat.zero_mul, Nat.zero_add]
      rw [List.getElem?_append_left (by simp [Msg.cs]; omega)]
      simp
    | succ i =>
      simp only [List.getElem?_cons_succ] at h
      have := ih i h
      simp only [flat, List.flatMap_cons] at *
      rw [List.getElem?_append_right (by simp [Msg.cs]; omega)]
      rw [← this]
      congr 1
      simp [Msg.cs]
      omega

theorem flat_append (a b : List Msg) : flat (a ++ b) = flat a ++ flat b := by simp [flat]

/-- A slice of the call's own that holds the messages ms. -/
def Row (w : World) (v : Value) (ms : List Msg) : Prop := w.ownsRow 0 31 8 v ms.length (flat ms)

/-- A slice that reads as the messages ms. -/
def RdM (w : World) (A : Option Addr) (ms : List Msg) : Prop := ms = [] ∨ ∃ g o, A = some ⟨g, o, none⟩ ∧ g < w.heap.size ∧ ∀ i m, ms[i]? = some m → At w g (o + i * 8) m

theorem Row.nil (w : World) : Row w (.slice none 0 0) [] := World.ownsRow_nil w 0 31 8

/-- The slice's block. -/
theorem Row.lt {w : World} {v : Value} {ms : List Msg} (h : Row w v ms) : ∀ k, v.ownBlock = some k → k < w.heap.size := fun k hk => (World.ownsRow.lt h k hk).2

theorem Row.form {w : World} {v : Value} {ms : List Msg} (h : Row w v ms) : ∃ A c, v = .slice A ms.length c ∧ RdM w A ms ∧ (∀ g, v.ownBlock = some g → A = some ⟨g, 0, none⟩) := by
  rcases h.2 with ⟨rfl, hn⟩ | ⟨g, cap, cur, rfl, _, hg, hc, hm, hcs, ht⟩
  · have : ms = [] := List.eq_nil_of_length_eq_zero hn
    subst this
    exact ⟨none, 0, rfl, .inl rfl, fun g hg => by simp [Value.ownBlock] at hg⟩
  · refine ⟨some ⟨g, 0, none⟩, cap, rfl, .inr ⟨g, 0, rfl, (Array.getElem?_eq_some_iff.1 hg).1, ?_⟩, fun g' hg' => by simp [Value.ownBlock] at hg'; rw [hg']⟩
    intro i m hi
    have key : ∀ j, j < 8 → w.cell? ⟨g, 0 + i * 8 + j, none⟩ = m.cs[j]? := fun j hj => by
      rw [cell_of_row w g _ cur 31 (0, 0) hg, ← flat_get ms i m hi j hj, ← ht, List.getElem?_take]
      have hi' : i < ms.length := (List.getElem?_eq_some_iff.1 hi).1
      rw [if_pos (by omega)]
      simp
    exact ⟨(key 0 (by omega)).trans m.cs_0, fun j hj => key (j + 1) (by omega)⟩

theorem Row.kept {w w' : World} {v : Value} {ms : List Msg} {S : Nat → Prop} (h : Row w v ms) (hc : Chg S w w') (hn : ∀ g, v.ownBlock = some g → ¬ S g) : Row w' v ms := by
  refine ⟨h.1, ?_⟩
  rcases h.2 with h0 | ⟨g, cap, cur, rfl, hb, hg, r⟩
  · exact .inl h0
  · exact .inr ⟨g, cap, cur, rfl, hb, (hc.block g (Array.getElem?_eq_some_iff.1 hg).1 (hn g rfl)).trans hg, r⟩

theorem RdM.kept {w w' : World} {A : Option Addr} {ms : List Msg} {S : Nat → Prop} (h : RdM w A ms) (hc : Chg S w w') (hn : ∀ g o, A = some ⟨g, o, none⟩ → ¬ S g) : RdM w' A ms := by
  rcases h with h | ⟨g, o, rfl, hg, hat⟩
  · exact .inl h
  · refine .inr ⟨g, o, rfl, Nat.lt_of_lt_of_le hg hc.size, fun i m hi => ?_⟩
    obtain ⟨h1, h2⟩ := hat i m hi
    exact ⟨(hc.cell hg (hn g o rfl)).trans h1, fun j hj => (hc.cell hg (hn g o rfl)).trans (h2 j hj)⟩

theorem RdM.non {w w' : World} {A : Option Addr} {ms : List Msg} (h : RdM w A ms) (hc : Chg Non w w') : RdM w' A ms := h.kept hc fun _ _ _ e => e

theorem RdM.at_ {w : World} {A : Option Addr} {ms : List Msg} (h : RdM w A ms) {i : Nat} {m : Msg} (hi : ms[i]? = some m) : ∃ g o, A = some ⟨g, o, none⟩ ∧ g < w.heap.size ∧ At w g (o + i * 8) m := by
  rcases h with rfl | ⟨g, o, rfl, hg, hat⟩
  · simp at hi
  · exact ⟨g, o, rfl, hg, hat i m hi⟩

theorem RdM.take {w : World} {A : Option Addr} {ms : List Msg} (h : RdM w A ms) (n : Nat) : RdM w A (ms.take n) := by
  rcases h with rfl | ⟨g, o, rfl, hg, hat⟩
  · exact .inl (by simp)
  · exact .inr ⟨g, o, rfl, hg, fun i m hi => hat i m (by rw [List.getElem?_take] at hi; split at hi <;> simp_all)⟩

theorem At.kept {w w' : World} {g o : Nat} {m : Msg} {S : Nat → Prop} (h : At w g o m) (hc : Chg S w w') (hg : g < w.heap.size) (hn : ¬ S g) : At w' g o m :=
  ⟨(hc.cell hg hn).trans h.1, fun j hj => (hc.cell hg hn).trans (h.2 j hj)⟩

/-! ### a message is taken -/
def Msg.take (m : Msg) : Msg := { m with taken := true }
/-- The message of that sender and call is taken. -/
def tkf (s : Sent) (m : Msg) : Msg := if m.sent = s then m.take else m
def tk (s : Sent) (ms : List Msg) : List Msg := ms.map (tkf s)

theorem flat_ext (xs ys : List Value) (n : Nat) (h1 : xs.length = n * 8) (h2 : ys.length = n * 8) (h : ∀ i j, i < n → j < 8 → xs[i * 8 + j]? = ys[i * 8 + j]?) : xs = ys := by
  apply List.ext_getElem?
  intro k
  by_cases hk : k < n * 8
  · have := h (k / 8) (k % 8) (by omega) (by omega)
    rwa [show k / 8 * 8 + k % 8 = k by omega] at this
  · rw [List.getElem?_eq_none (by omega), List.getElem?_eq_none (by omega)]

theorem flat_take (ms : List Msg) (i : Nat) (m : Msg) (h : ms[i]? = some m) : flat (ms.set i m.take) = (flat ms).set (i * 8 + 7) (.bool true) := by
  have hi : i < ms.length := (List.getElem?_eq_some_iff.1 h).1
  refine flat_ext _ _ ms.length (by rw [flat_len]; simp) (by rw [List.length_set, flat_len]) (fun k j hk hj => ?_)
  obtain ⟨x, hx⟩ : ∃ x, ms[k]? = some x := ⟨ms[k], List.getElem?_eq_getElem hk⟩
  rw [List.getElem?_set]
  by_cases hik : i = k
  · subst hik
    rw [hx] at h
    cases h
    rw [flat_get (ms.set i m.take) i m.take (by rw [List.getElem?_set_self hi]) j hj]
    split
    · rename_i e
      have : j = 7 := by omega
      subst this
      rw [if_pos (by rw [flat_len]; omega)]
      rfl
    · rename_i e
      rw [flat_get ms i m hx j hj]
      rcases (by omega : j = 0 ∨ j = 1 ∨ j = 2 ∨ j = 3 ∨ j = 4 ∨ j = 5 ∨ j = 6) with rfl | rfl | rfl | rfl | rfl | rfl | rfl <;> rfl
  · rw [if_neg (by omega), flat_get (ms.set i m.take) k x (by rw [List.getElem?_set_ne hik]; exact hx) j hj, flat_get ms k x hx j hj]

theorem Row.taken {w : World} {g n cap : Nat} {ms : List Msg} (h : Row w (.slice (some ⟨g, 0, none⟩) n cap) ms) {i : Nat} {m : Msg} (hm : ms[i]? = some m) :
    Row (w.setCell ⟨g, i * 8 + 7, none⟩ (.bool true)) (.slice (some ⟨g, 0, none⟩) n cap) (ms.set i m.take) := by
  obtain ⟨h1, h2⟩ := h
  rcases h2 with ⟨h2, _⟩ | ⟨g', cap', cur, hv, hb, hg, hc, hm', hcs, ht⟩
  · cases h2
  · cases hv
    refine ⟨by rw [flat_len], .inr ⟨g, cap, cur.setIfInBounds (i * 8 + 7) (.bool true), by simp, hb, ?_, by simpa using hc, hm', by simpa using hcs, ?_⟩⟩
    · exact heap_setCell_same w g _ cur 31 _ hg
    · rw [flat_take ms i m hm, ← ht, List.length_set, Array.toList_setIfInBounds, List.take_set]

theorem set_eq_tk {ms : List Msg} (hn : (ms.map (·.sent)).Nodup) {i : Nat} {m : Msg} (hm : ms[i]? = some m) : ms.set i m.take = tk m.sent ms := by
  obtain ⟨hi, rfl⟩ := List.getElem?_eq_some_iff.1 hm
  apply List.ext_getElem (by simp [tk])
  intro k h1 h2
  simp only [tk, List.getElem_map, List.getElem_set]
  simp only [List.length_set] at h1
  split
  · rename_i e; subst e; simp [tkf]
  · rename_i e
    have hp := List.pairwise_iff_getElem.1 hn
    have : ms[k].sent ≠ ms[i].sent := by
      rcases Nat.lt_or_gt_of_ne e with hlt | hgt
      · have := hp i k (by simpa using hi) (by simpa using h1) hlt
        simp only [List.getElem_map] at this
        exact fun e' => this e'.symm
      · have := hp k i (by simpa using h1) (by simpa using hi) hgt
        simp only [List.getElem_map] at this
        exact this
    simp [tkf, this]

theorem Row.frozen {w : World} {g n cap : Nat} {ms : List Msg} (h : Row w (.slice (some ⟨g, 0, none⟩) n cap) ms) (j : Nat) : w.frozen? ⟨g, j, none⟩ = false := by
  rcases h.2 with ⟨h2, _⟩ | ⟨g', cap', cur, hv, hb, hg, hc, hm', hcs, ht⟩
  · cases h2
  · cases hv
    exact frozen_of_row w g j cur 31 hg

/-! ### append of a message -/
theorem info31 : (Try.prog.info? 31).map (fun i => (i.zero, i.size, i.bytes)) = some (some (.agg #[.string ⟨#[]⟩, .int .i64 0, .int .i64 0, .int .i64 0, .int .i64 0, .int .i64 0, .int .i64 0, .bool false]), 8, 72) := by kernel_rfl
theorem oneCellM (m : Msg) : ∀ u ∈ m.cs.toList, u.oneCell' = true := by
  intro u hu
  simp [Msg.cs] at hu
  rcases hu with rfl | rfl | rfl | rfl | rfl | rfl | rfl | rfl <;> rfl

theorem wp_appendM {w : World} {o : Oper} {a : Act} {K : Act → World → Prop} {Q : Exit → Act → World → Prop} (s x : Operand)
    (ho : o.op = .call { callee := .builtin .append, args := #[s, x], argTypes := #[27, 27] }) (v : Value) (ms : List Msg) (hs : a.eval s = v) (hrow : Row w v ms)
    (B : Nat) (m : Msg) (c : Nat) (hx : a.eval x = .slice (some ⟨B, 0, none⟩) 1 c) (cs : Array Value) (hB : w.heap[B]? = some (.cells cs 31 (0, 0))) (hcs : cs = m.cs) (hl : ms.length ≤ 1000000)
    (h : ∀ g cap w', Row w' (.slice (some ⟨g, 0, none⟩) (ms.length + 1) cap) (ms ++ [m]) → Chg (fun b => v.ownBlock = some b) w w' → (v.ownBlock = some g ∨ g = w.heap.size) → g < w'.heap.size → K (a.put o.dst (.slice (some ⟨g, 0, none⟩) (ms.length + 1) cap)) w') : o.wp Try.prog a w K Q := by
  subst hcs
  obtain ⟨i0, hi, hz0, hz1, hz2⟩ := info_parts info31
  refine wp_append_lies w s x 27 ho 0 31 i0 _ 8 72 Try.underlying27 hi hz0 hz1 hz2 rfl (by omega) v ms.length (flat ms) hs hrow ⟨B, 0, none⟩ 1 c m.cs.toList hx (by rfl) (World.news_of_block hB) (oneCellM m) (by omega)
    (by unfold maxLen; omega) (by omega) (Nat.zero_le _) _ rfl ?_
  intro g cap w' h1 h2 h3 h4
  refine h g cap w' ?_ ((Chg.refl _ _).grown h2 (fun k hk => .inr hk)) h3 h4
  unfold Row
  rw [List.length_append, flat_append]
  have e : flat [m] = m.cs.toList := by simp [flat]
  rw [e]
  exact h1

/-! ### a message is stored into a variable -/
theorem size31 : (Try.prog.info? 31).map (·.size) = some 8 := by kernel_rfl
theorem wpList_storeM {w : World} {ops : Array Oper} {rest : List Oper} {o : Oper} {a : Act} {Q : Exit → Act → World → Prop} (hgd : o.guard = none) (x y : Operand) (ho : o.op = .store 31 x y)
    (N : Nat) (hx : a.eval x = .pointer (some ⟨N, 0, none⟩)) (cs : Array Value) (hy : a.eval y = .agg cs) (m m0 : Msg) (hcs : cs = m.cs) (hN : w.heap[N]? = some (.cells m0.cs 31 (0, 0)))
    (h : ∀ w', w'.heap[N]? = some (.cells m.cs 31 (0, 0)) → Chg (fun b => b = N) w w' → w'.heap.size = w.heap.size → wpList Try.prog ops Q rest (a.put o.dst undef) w') : wpList Try.prog ops Q (o :: rest) a w := by
  subst hcs
  refine wpList_store_row hgd 31 x y ho N m.cs hx hy 31 m0.cs hN size31 rfl (all_oneCell_toArray (oneCellM m)) (h _ (setRow_heap w N _ _ _ _ hN) ⟨rfl, rfl, rfl, by simp, fun k _ hk => setRow_other w N k _ hk⟩ (by simp))

/-- What a block of a message's cells reads as. -/
theorem cell31_0 {w : World} {N : Nat} {m : Msg} (h : w.heap[N]? = some (.cells m.cs 31 (0, 0))) : w.cell? ⟨N, 0, none⟩ = some (.string m.key) := by rw [cell_of_row w N 0 _ 31 (0, 0) h]; rfl
theorem cell31_s {w : World} {N : Nat} {m : Msg} (h : w.heap[N]? = some (.cells m.cs 31 (0, 0))) : ∀ j, j < 7 → w.cell? ⟨N, j + 1, none⟩ = m.cs[j + 1]? := fun j _ => by rw [cell_of_row w N _ _ 31 (0, 0) h]

/-- append of many -/
theorem run_appendMs {w : World} (ty : TypeId) (v : Value) (ms : List Msg) (hrow : Row w v ms) (A : Option Addr) (c : Nat) (ns : List Msg) (hr : RdM w A ns) (hl : ms.length + ns.length ≤ 1000000) :
    ∃ A' c' w', (Builtin.append_ #[27, 27] ty #[v, .slice A ns.length c]).run Try.prog w = .ok (.slice A' (ms.length + ns.length) c') w' ∧ Row w' (.slice A' (ms.length + ns.length) c') (ms ++ ns) ∧
      Chg (fun b => v.ownBlock = some b) w w' ∧ ((Value.slice A' (ms.length + ns.length) c').ownBlock = v.ownBlock ∨ (Value.slice A' (ms.length + ns.length) c').ownBlock = some w.heap.size) := by
  obtain ⟨i0, hi, hz0, hz1, hz2⟩ := info_parts info31
  by_cases hn : A = none
  · subst hn
    have hns : ns = [] := by
      rcases hr with h | ⟨g, o, h, _⟩
      · exact h
      · cases h
    subst hns
    have hrow' := hrow
    rcases hrow.2 with ⟨rfl, h2⟩ | ⟨g, cap, cur, rfl, _, hg, hnc, _⟩
    · rw [h2]
      have hms : ms = [] := List.eq_nil_of_length_eq_zero h2
      subst hms
      refine ⟨none, 0, w, ?_, by simpa using hrow', Chg.refl _ _, .inl rfl⟩
      simp [Builtin.append_, run_underlying Try.underlying27, sizeOf, typeInfo, hi, Builtin.lenOf, Builtin.firstCells]
    · refine ⟨some ⟨g, 0, none⟩, cap, w, ?_, by simpa using hrow', Chg.refl _ _, .inl rfl⟩
      simp [Builtin.append_, run_underlying Try.underlying27, sizeOf, typeInfo, hi, Builtin.lenOf, Builtin.firstCells, hnc, storeCells]
  · obtain ⟨ad, rfl⟩ : ∃ ad, A = some ad := by cases A with | none => exact absurd rfl hn | some ad => exact ⟨ad, rfl⟩
    have hnews : ∀ j u, (flat ns)[j]? = some u → w.cell? (ad.add j) = some u := by
      intro j u hu
      have hj : j < ns.length * 8 := by have := (List.getElem?_eq_some_iff.1 hu).1; rw [flat_len] at this; exact this
      obtain ⟨x, hx⟩ : ∃ x, ns[j / 8]? = some x := ⟨ns[j / 8]'(by omega), List.getElem?_eq_getElem _⟩
      rcases hr with rfl | ⟨g, o, ho, _, hat⟩
      · simp at hj
      · cases ho
        obtain ⟨e1, e2⟩ := hat _ _ hx
        have hf := flat_get ns (j / 8) x hx (j % 8) (by omega)
        rw [show j / 8 * 8 + j % 8 = j by omega] at hf
        have hadd : (⟨g, o, none⟩ : Addr).add j = ⟨g, o + j, none⟩ := by unfold Addr.add; split <;> simp_all
        rw [hadd, ← hu, hf]
        by_cases h0 : j % 8 = 0
        · rw [h0, x.cs_0, show o + j = o + j / 8 * 8 by omega]
          exact e1
        · have := e2 (j % 8 - 1) (by omega)
          rw [show j % 8 - 1 + 1 = j % 8 by omega] at this
          rw [show o + j = o + j / 8 * 8 + j % 8 by omega]
          exact this
    have h1 : ∀ u ∈ flat ns, u.oneCell' = true := by
      intro u hu
      obtain ⟨m, _, hm⟩ := List.mem_flatMap.1 hu
      exact oneCellM m u hm
    obtain ⟨v', w', hrun, q1, q2, _, q3⟩ := run_append_own_at (P := Try.prog) w 0 27 ty 31 i0 _ 8 72 Try.underlying27 hi hz0 hz1 hz2 rfl (by omega) v ms.length (flat ms) hrow ad ns.length c (flat ns) (flat_len ns) hnews h1 (by unfold maxLen; omega) (by omega) (Nat.zero_le _)
    have q1' : Row w' v' (ms ++ ns) := by unfold Row; rw [List.length_append, flat_append]; exact q1
    obtain ⟨A', c', rfl, _, _⟩ := q1'.form
    rw [List.length_append] at *
    exact ⟨A', c', w', hrun, q1', (Chg.refl _ _).grown q2 (fun k hk => .inr hk), q3⟩

theorem wp_appendMs {w : World} {o : Oper} {a : Act} {K : Act → World → Prop} {Q : Exit → Act → World → Prop} (s x : Operand)
    (ho : o.op = .call { callee := .builtin .append, args := #[s, x], argTypes := #[27, 27] }) (v : Value) (ms : List Msg) (hs : a.eval s = v) (hrow : Row w v ms)
    (A : Option Addr) (c n : Nat) (ns : List Msg) (hx : a.eval x = .slice A n c) (hn : n = ns.length) (hr : RdM w A ns) (hl : ms.length + ns.length ≤ 1000000)
    (h : ∀ A' c' w', Row w' (.slice A' (ms.length + ns.length) c') (ms ++ ns) → Chg (fun b => v.ownBlock = some b) w w' → ((Value.slice A' (ms.length + ns.length) c').ownBlock = v.ownBlock ∨ (Value.slice A' (ms.length + ns.length) c').ownBlock = some w.heap.size) → K (a.put o.dst (.slice A' (ms.length + ns.length) c')) w') : o.wp Try.prog a w K Q := by
  subst hn
  obtain ⟨A', c', w', hrun, h1, h2, h3⟩ := run_appendMs o.type v ms hrow A c ns hr hl
  unfold Oper.wp execOp
  simp only [ho, resolve, invoke, builtin, Sem.run_bind, Sem.run_pure, Result.andThen_ok, List.map_toArray, List.map_cons, List.map_nil, hs, hx, hrun]
  exact h A' c' w' h1 h2 h3

theorem wpList_appendMs {w : World} {ops : Array Oper} {rest : List Oper} {o : Oper} {a : Act} {Q : Exit → Act → World → Prop} (hgd : o.guard = none) (s x : Operand)
    (ho : o.op = .call { callee := .builtin .append, args := #[s, x], argTypes := #[27, 27] }) (v : Value) (ms : List Msg) (hs : a.eval s = v) (hrow : Row w v ms)
    (A : Option Addr) (c n : Nat) (ns : List Msg) (hx : a.eval x = .slice A n c) (hn : n = ns.length) (hr : RdM w A ns) (hl : ms.length + ns.length ≤ 1000000)
    (h : ∀ A' c' w', Row w' (.slice A' (ms.length + ns.length) c') (ms ++ ns) → Chg (fun b => v.ownBlock = some b) w w' → ((Value.slice A' (ms.length + ns.length) c').ownBlock = v.ownBlock ∨ (Value.slice A' (ms.length + ns.length) c').ownBlock = some w.heap.size) → wpList Try.prog ops Q rest (a.put o.dst (.slice A' (ms.length + ns.length) c')) w') : wpList Try.prog ops Q (o :: rest) a w :=
  wpList_plain hgd fun _ hK => wp_appendMs s x ho v ms hs hrow A c n ns hx hn hr hl fun A' c' w' h1 h2 h3 => hK _ _ (h A' c' w' h1 h2 h3)

theorem step_appendMs {w : World} {ops : Array Oper} {o : Oper} {a : Act} {K : Act → World → Prop} {Q : Exit → Act → World → Prop} {E : Prop} (hgd : o.guard = none) (s x : Operand)
    (ho : o.op = .call { callee := .builtin .append, args := #[s, x], argTypes := #[27, 27] }) (v : Value) (ms : List Msg) (hs : a.eval s = v) (hrow : Row w v ms)
    (A : Option Addr) (c n : Nat) (ns : List Msg) (hx : a.eval x = .slice A n c) (hn : n = ns.length) (hr : RdM w A ns) (hl : ms.length + ns.length ≤ 1000000)
    (h : ∀ A' c' w', Row w' (.slice A' (ms.length + ns.length) c') (ms ++ ns) → Chg (fun b => v.ownBlock = some b) w w' → ((Value.slice A' (ms.length + ns.length) c').ownBlock = v.ownBlock ∨ (Value.slice A' (ms.length + ns.length) c').ownBlock = some w.heap.size) → K (a.put o.dst (.slice A' (ms.length + ns.length) c')) w') :
    if Region.wanted o (yielded ops a.tmps) = true then Oper.wp Try.prog o a w K Q else E := by
  have hw : Region.wanted o (yielded ops a.tmps) = true := by simp [Region.wanted, hgd]
  rw [if_pos hw]
  exact wp_appendMs s x ho v ms hs hrow A c n ns hx hn hr hl h

/-- An empty slice that the call has made. -/
theorem Row.empty (w : World) : Row (w.alloc (.cells #[] 31)) (.slice (some ⟨w.heap.size, 0, none⟩) 0 0) [] := by
  refine ⟨by simp [flat], .inr ⟨w.heap.size, 0, #[], rfl, Nat.zero_le _, heap_alloc_new w _, by simp, by unfold maxLen; omega, by simp, by simp [flat]⟩⟩

theorem wpList_appendM {w : World} {ops : Array Oper} {rest : List Oper} {o : Oper} {a : Act} {Q : Exit → Act → World → Prop} (hgd : o.guard = none) (s x : Operand)
    (ho : o.op = .call { callee := .builtin .append, args := #[s, x], argTypes := #[27, 27] }) (v : Value) (ms : List Msg) (hs : a.eval s = v) (hrow : Row w v ms)
    (B : Nat) (m : Msg) (c : Nat) (hx : a.eval x = .slice (some ⟨B, 0, none⟩) 1 c) (cs : Array Value) (hB : w.heap[B]? = some (.cells cs 31 (0, 0))) (hcs : cs = m.cs) (hl : ms.length ≤ 1000000)
    (h : ∀ g cap w', Row w' (.slice (some ⟨g, 0, none⟩) (ms.length + 1) cap) (ms ++ [m]) → Chg (fun b => v.ownBlock = some b) w w' → (v.ownBlock = some g ∨ g = w.heap.size) → g < w'.heap.size → wpList Try.prog ops Q rest (a.put o.dst (.slice (some ⟨g, 0, none⟩) (ms.length + 1) cap)) w') : wpList Try.prog ops Q (o :: rest) a w :=
  wpList_plain hgd fun _ hK => wp_appendM s x ho v ms hs hrow B m c hx cs hB hcs hl fun g cap w' h1 h2 h3 h4 => hK _ _ (h g cap w' h1 h2 h3 h4)

theorem step_appendM {w : World} {ops : Array Oper} {o : Oper} {a : Act} {K : Act → World → Prop} {Q : Exit → Act → World → Prop} {E : Prop} (hgd : o.guard = none) (s x : Operand)
    (ho : o.op = .call { callee := .builtin .append, args := #[s, x], argTypes := #[27, 27] }) (v : Value) (ms : List Msg) (hs : a.eval s = v) (hrow : Row w v ms)
    (B : Nat) (m : Msg) (c : Nat) (hx : a.eval x = .slice (some ⟨B, 0, none⟩) 1 c) (cs : Array Value) (hB : w.heap[B]? = some (.cells cs 31 (0, 0))) (hcs : cs = m.cs) (hl : ms.length ≤ 1000000)
    (h : ∀ g cap w', Row w' (.slice (some ⟨g, 0, none⟩) (ms.length + 1) cap) (ms ++ [m]) → Chg (fun b => v.ownBlock = some b) w w' → (v.ownBlock = some g ∨ g = w.heap.size) → g < w'.heap.size → K (a.put o.dst (.slice (some ⟨g, 0, none⟩) (ms.length + 1) cap)) w') :
    if Region.wanted o (yielded ops a.tmps) = true then Oper.wp Try.prog o a w K Q else E := by
  have hw : Region.wanted o (yielded ops a.tmps) = true := by simp [Region.wanted, hgd]
  rw [if_pos hw]
  exact wp_appendM s x ho v ms hs hrow B m c hx cs hB hcs hl h

end Go.Proofs.Ytgdpapcgghiljaa
