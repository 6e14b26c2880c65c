/- Contracts of the queue's small functions, and of slices.IndexFunc over messages. -/
import Derived.Test.YtgdpapcgghiljaaWords
set_option linter.unusedSimpArgs false
set_option linter.unusedVariables false
namespace Go.Proofs.Ytgdpapcgghiljaa
open Go.RowKit

set_option maxHeartbeats 400000 in
theorem new_any (w : World) :
    Calls Try.prog 12 #[] w fun e w' => e = .returned (.pointer (some ⟨w.heap.size + 2, 0, none⟩)) ∧ w' = ((w.alloc (.map #[] 0)).alloc (.map #[] 0)).alloc (.cells #[.map (some w.heap.size), .map (some (w.heap.size + 1))] 98) := by
  have hmm := @run_makeMap Try.prog
  go_enter Try.func12, Try.ntmps12
  go_wp2
  go_ret
  exact ⟨rfl, rfl⟩

set_option maxHeartbeats 400000 in
theorem in_yes (a b c : Int) (w : World) (h : b ≤ a ∧ a ≤ c) :
    Calls Try.prog 53 #[.int .i64 a, .int .i64 b, .int .i64 c] w fun e w' => e = .returned (.bool true) ∧ w = w' := by
  obtain ⟨h1, h2⟩ := h
  go_enter Try.func53, Try.ntmps53
  go_wp2
  go_ret
  exact ⟨rfl, rfl⟩
set_option maxHeartbeats 400000 in
theorem in_no (a b c : Int) (w : World) (h : ¬ (b ≤ a ∧ a ≤ c)) :
    Calls Try.prog 53 #[.int .i64 a, .int .i64 b, .int .i64 c] w fun e w' => e = .returned (.bool false) ∧ w = w' := by
  by_cases h1 : b ≤ a
  all_goals
    go_enter Try.func53, Try.ntmps53
    go_wp2
    go_ret
    refine ⟨?_, rfl⟩
    simp <;> omega


set_option maxHeartbeats 400000 in
theorem none_no (q : Nat) (x : Nat) (w : World) (c : w.cell? ⟨q, 0, none⟩ = some (.map (some x))) :
    Calls Try.prog 52 #[.pointer (some ⟨q, 0, none⟩)] w fun e w' => e = .returned (.bool false) ∧ w = w' := by
  have e1 : ∀ W : World, (binOp .eql 95 (.map (some x)) (.map none)).run Try.prog W = .ok (.bool false) W := fun W => run_eql_map_nil W _ _ _ (some x) Try.underlying95
  go_enter Try.func52, Try.ntmps52
  go_wp2
  go_ret
  exact ⟨rfl, rfl⟩

set_option maxHeartbeats 400000 in
theorem fcall_any (m : Msg) (b : Nat) (n : Int) (w : World) (c : w.cell? ⟨b, 0, none⟩ = some (.int .i64 n)) :
    Calls Try.prog 79 #[.agg m.cs, .pointer (some ⟨b, 0, none⟩)] w fun e w' => e = .returned (.bool (m.call == n)) ∧ Chg Non w w' := by
  have hb : b < w.heap.size := World.block_lt_of_cell? w _ c
  go_enter Try.func79, Try.ntmps79
  go_wp2
  go_ret
  exact ⟨rfl, (Chg.refl _ _).alloc _⟩

theorem enters79 : ∀ (args : Array Value) (W : World), (callFunc 79 args).run Try.prog W = .ok (.enter 79 args) W := by
  intro args W
  have h : Try.prog.funcs[79]? = some Try.f79 := Try.func79
  have h2 : (Try.f79.name == "runtime.NumGoroutine") = false := by kernel_rfl
  have h3 : Try.f79.body.isNone = false := by kernel_rfl
  simp only [callFunc, Sem.run_bind, run_program, Result.andThen_ok, h, h2, h3, Bool.false_eq_true, if_false, Sem.run_pure]

/-- Where something first holds; -1: nowhere. -/
def idx (p : Msg → Bool) (ms : List Msg) : Int := match ms.findIdx? p with | some j => (j : Int) | none => -1

theorem idx_none {p : Msg → Bool} {ms : List Msg} (h : ∀ x ∈ ms, p x = false) : idx p ms = -1 := by
  have : ms.findIdx? p = none := by rw [List.findIdx?_eq_none_iff]; exact h
  simp [idx, this]
theorem idx_some {p : Msg → Bool} {ms : List Msg} {k : Nat} {x : Msg} (h : ∀ y ∈ ms.take k, p y = false) (hx : ms[k]? = some x) (hp : p x = true) : idx p ms = k := by
  obtain ⟨hk, rfl⟩ := List.getElem?_eq_some_iff.1 hx
  have : ms.findIdx? p = some k := by
    rw [List.findIdx?_eq_some_iff_getElem]
    refine ⟨hk, hp, fun j hj => ?_⟩
    have := h ms[j] (List.mem_take_iff_getElem.2 ⟨j, by omega, rfl⟩)
    simp [this]
  simp [idx, this]
theorem take_no {p : Msg → Bool} {ms : List Msg} {k : Nat} {x : Msg} (h : ∀ y ∈ ms.take k, p y = false) (hx : ms[k]? = some x) (hp : p x = false) : ∀ y ∈ ms.take (k + 1), p y = false := by
  intro y hy
  rw [List.take_add_one, hx] at hy
  rcases List.mem_append.1 hy with hy | hy
  · exact h y hy
  · simp at hy; rw [hy]; exact hp

set_option maxRecDepth 100000 in
set_option maxHeartbeats 400000 in
theorem index_msg (F : FuncId) (hent : ∀ (args : Array Value) (W : World), (callFunc F args).run Try.prog W = .ok (.enter F args) W) (cap : Array Value) (p : Msg → Bool) (A : Option Addr) (c : Nat) (ms : List Msg) (w : World) (hr : RdM w A ms) (hl : ms.length ≤ 1000000)
    (hF : ∀ m ∈ ms, ∀ w', Chg Non w w' → Calls Try.prog F (#[.agg m.cs] ++ cap) w' fun e w'' => e = .returned (.bool (p m)) ∧ Chg Non w' w'') :
    Calls Try.prog 78 #[.slice A ms.length c, .func (.func F) #[] cap] w fun e w' => e = .returned (.int .i64 (idx p ms)) ∧ Chg Non w w' := by
  have HF := Lib.hid hF
  clear hF
  go_enter Try.func78, Try.ntmps78
  go_wp2_with fail
  go_loopw [5, 8] (fun i j wr => ∃ k : Nat, j = .int .i64 k ∧ k ≤ ms.length ∧ (∀ x ∈ ms.take k, p x = false) ∧ Chg Non w wr) (fun i j _ => ms.length - (intOf j).toNat)
  case atStart => exact ⟨0, rfl, by omega, by simp, Chg.refl _ _⟩
  case round =>
    obtain ⟨k, rfl, hk, hno, hc⟩ := hrel
    have HN := Lib.hid hno
    clear hno
    have HC := Lib.hid hc
    by_cases hlt : k < ms.length
    · obtain ⟨x, hx1⟩ : ∃ x, ms[k]? = some x := ⟨ms[k], List.getElem?_eq_getElem hlt⟩
      obtain ⟨g, o, rfl, hg, e1, e2⟩ := (hr.non hc).at_ hx1
      have HX := Lib.hid hx1
      clear hx1 hc
      go_wp2_with fail
      refine (HF.out x (List.mem_of_getElem? HX.out) wr HC.out).mono ?_
      rintro e w1 ⟨rfl, hc1⟩
      have HC1 := Lib.hid (HC.out.non hc1)
      clear hc1 e1 e2 hg
      cases hpx : p x
      · have HP := Lib.hid hpx
        clear hpx
        go_wp2
        go_roundw
        case rel => exact ⟨k + 1, by go_num, by omega, take_no HN.out HX.out HP.out, HC1.out⟩
        case measure => simp [intOf]; omega
      · have HP := Lib.hid hpx
        clear hpx
        go_wp2
        go_ret
        exact ⟨by rw [idx_some HN.out HX.out HP.out]; rfl, HC1.out⟩
    · obtain rfl : k = ms.length := by omega
      clear hc
      go_wp2
      go_ret
      exact ⟨by rw [idx_none (by simpa using HN.out)]; rfl, HC.out⟩
end Go.Proofs.Ytgdpapcgghiljaa
