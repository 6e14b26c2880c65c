/- Contracts of the small functions of the receives: in, waits, fits, and slices.IndexFunc, slices.ContainsFunc, kept over receives. -/
import Derived.Test.YtgdpapcgghiljaaRWords
set_option linter.unusedSimpArgs false
set_option linter.unusedVariables false
namespace Go.Proofs.Ytgdpapcgghiljaa
open Go.RowKit

set_option maxHeartbeats 400000 in
theorem inp_any (a b c : Int) (w : World) :
    Calls Try.prog 66 #[.int .i64 a, .int .i64 b, .int .i64 c] w fun e w' => e = .returned (.bool (decide (b ≤ a ∧ a ≤ c))) ∧ w = w' := by
  by_cases h : b ≤ a ∧ a ≤ c
  · rw [decide_eq_true h]
    obtain ⟨h1, h2⟩ := h
    go_enter Try.func66, Try.ntmps66
    go_wp2
    go_ret
    exact ⟨rfl, rfl⟩
  · rw [decide_eq_false h]
    by_cases h1 : b ≤ a
    all_goals
      go_enter Try.func66, Try.ntmps66
      go_wp2
      go_ret
      refine ⟨?_, rfl⟩
      simp <;> omega

theorem enters (F : Nat) (f : Func) (h : Try.prog.funcs[F]? = some f) (h2 : (f.name == "runtime.NumGoroutine") = false) (h3 : f.body.isNone = false) : ∀ (args : Array Value) (W : World), (callFunc F args).run Try.prog W = .ok (.enter F args) W := by
  intro args W
  simp only [callFunc, Sem.run_bind, run_program, Result.andThen_ok, h, h2, h3, Bool.false_eq_true, if_false, Sem.run_pure]
theorem enters70 : ∀ (args : Array Value) (W : World), (callFunc 70 args).run Try.prog W = .ok (.enter 70 args) W := enters 70 _ Try.func70 (by kernel_rfl) (by kernel_rfl)
theorem enters87 : ∀ (args : Array Value) (W : World), (callFunc 87 args).run Try.prog W = .ok (.enter 87 args) W := enters 87 _ Try.func87 (by kernel_rfl) (by kernel_rfl)
theorem enters89 : ∀ (args : Array Value) (W : World), (callFunc 89 args).run Try.prog W = .ok (.enter 89 args) W := enters 89 _ Try.func89 (by kernel_rfl) (by kernel_rfl)
theorem enters68 : ∀ (args : Array Value) (W : World), (callFunc 68 args).run Try.prog W = .ok (.enter 68 args) W := enters 68 _ Try.func68 (by kernel_rfl) (by kernel_rfl)

/-- waits a receive? -/
def waitB (r : Rcv) : Bool := !r.done
/-- does it fit a message? -/
def fitsB (r : Rcv) (m : Msg) : Bool := decide (r.key = m.key) && (r.rank == m.dst) && (r.peer == -1 || r.peer == m.frm) && (r.tag == -1 || r.tag == m.tag)

set_option maxHeartbeats 400000 in
theorem waits_any (r : Rcv) (w : World) : Calls Try.prog 70 (#[.agg r.cs] ++ #[]) w fun e w' => e = .returned (.bool (waitB r)) ∧ Chg Non w w' := by
  go_enter Try.func70, Try.ntmps70
  go_wp2
  go_ret
  exact ⟨rfl, (Chg.refl _ _).alloc _⟩

set_option maxRecDepth 100000 in
set_option maxHeartbeats 1000000 in
theorem fits_any (r : Rcv) (m : Msg) (w : World) : Calls Try.prog 71 #[.agg r.cs, .agg m.cs] w fun e w' => e = .returned (.bool (fitsB r m)) ∧ Chg Non w w' := by
  have fin : ∀ x : Bool, x = fitsB r m → Ending.returned (.bool x) = .returned (.bool (fitsB r m)) := fun x h => by rw [h]
  have HF := Lib.hid fin
  clear fin
  go_enter Try.func71, Try.ntmps71
  go_wp2_with fail
  all_goals
    go_ret
    refine ⟨HF.out _ ?_, ((Chg.refl _ _).alloc _).alloc _⟩
    have e1 := bytes_toList_inj r.key m.key
    clear HF
    by_cases h1 : r.key = m.key <;> by_cases h2 : r.rank = m.dst <;> by_cases h3 : r.peer = -1 <;> by_cases h4 : r.peer = m.frm <;> by_cases h5 : r.tag = -1 <;> by_cases h6 : r.tag = m.tag <;> simp_all [fitsB]
/-- Where something first holds; -1: nowhere. -/
def idxR (p : Rcv → Bool) (ms : List Rcv) : Int := match ms.findIdx? p with | some j => (j : Int) | none => -1

theorem idxR_none {p : Rcv → Bool} {ms : List Rcv} (h : ∀ x ∈ ms, p x = false) : idxR p ms = -1 := by
  have : ms.findIdx? p = none := by rw [List.findIdx?_eq_none_iff]; exact h
  simp [idxR, this]
theorem idxR_some {p : Rcv → Bool} {ms : List Rcv} {k : Nat} {x : Rcv} (h : ∀ y ∈ ms.take k, p y = false) (hx : ms[k]? = some x) (hp : p x = true) : idxR p ms = k := by
  obtain ⟨hk, rfl⟩ := List.getElem?_eq_some_iff.1 hx
  have : ms.findIdx? p = some k := by
    rw [List.findIdx?_eq_some_iff_getElem]
    refine ⟨hk, hp, fun j hj => ?_⟩
    have := h ms[j] (List.mem_take_iff_getElem.2 ⟨j, by omega, rfl⟩)
    simp [this]
  simp [idxR, this]
theorem take_noR {p : Rcv → Bool} {ms : List Rcv} {k : Nat} {x : Rcv} (h : ∀ y ∈ ms.take k, p y = false) (hx : ms[k]? = some x) (hp : p x = false) : ∀ y ∈ ms.take (k + 1), p y = false := by
  intro y hy
  rw [List.take_add_one, hx] at hy
  rcases List.mem_append.1 hy with hy | hy
  · exact h y hy
  · simp at hy; rw [hy]; exact hp

set_option maxRecDepth 100000 in
set_option maxHeartbeats 400000 in
theorem index_rcv (F : FuncId) (hent : ∀ (args : Array Value) (W : World), (callFunc F args).run Try.prog W = .ok (.enter F args) W) (cap : Array Value) (p : Rcv → Bool) (A : Option Addr) (c : Nat) (ms : List Rcv) (w : World) (hr : RdR w A ms) (hl : ms.length ≤ 1000000)
    (hF : ∀ m ∈ ms, ∀ w', Chg Non w w' → Calls Try.prog F (#[.agg m.cs] ++ cap) w' fun e w'' => e = .returned (.bool (p m)) ∧ Chg Non w' w'') :
    Calls Try.prog 88 #[.slice A ms.length c, .func (.func F) #[] cap] w fun e w' => e = .returned (.int .i64 (idxR p ms)) ∧ Chg Non w w' := by
  have HF := Lib.hid hF
  clear hF
  go_enter Try.func88, Try.ntmps88
  go_wp2_with fail
  go_loopw [5, 8] (fun i j wr => ∃ k : Nat, j = .int .i64 k ∧ k ≤ ms.length ∧ (∀ x ∈ ms.take k, p x = false) ∧ Chg Non w wr) (fun i j _ => ms.length - (intOf j).toNat)
  case atStart => exact ⟨0, rfl, by omega, by simp, Chg.refl _ _⟩
  case round =>
    obtain ⟨k, rfl, hk, hno, hc⟩ := hrel
    have HN := Lib.hid hno
    clear hno
    have HC := Lib.hid hc
    by_cases hlt : k < ms.length
    · obtain ⟨x, hx1⟩ : ∃ x, ms[k]? = some x := ⟨ms[k], List.getElem?_eq_getElem hlt⟩
      obtain ⟨g, o, rfl, hg, e1, e2⟩ := (hr.non hc).at_ hx1
      have HX := Lib.hid hx1
      clear hx1 hc
      go_wp2_with fail
      refine (HF.out x (List.mem_of_getElem? HX.out) wr HC.out).mono ?_
      rintro e w1 ⟨rfl, hc1⟩
      have HC1 := Lib.hid (HC.out.non hc1)
      clear hc1 e1 e2 hg
      cases hpx : p x
      · have HP := Lib.hid hpx
        clear hpx
        go_wp2
        go_roundw
        case rel => exact ⟨k + 1, by go_num, by omega, take_noR HN.out HX.out HP.out, HC1.out⟩
        case measure => simp [intOf]; omega
      · have HP := Lib.hid hpx
        clear hpx
        go_wp2
        go_ret
        exact ⟨by rw [idxR_some HN.out HX.out HP.out]; rfl, HC1.out⟩
    · obtain rfl : k = ms.length := by omega
      clear hc
      go_wp2
      go_ret
      exact ⟨by rw [idxR_none (by simpa using HN.out)]; rfl, HC.out⟩
theorem idxR_inv {p : Rcv → Bool} {ms : List Rcv} : (idxR p ms = -1 ∧ ∀ x ∈ ms, p x = false) ∨ ∃ (k : Nat) (m : Rcv), idxR p ms = k ∧ ms[k]? = some m ∧ p m = true := by
  unfold idxR
  cases h : ms.findIdx? p with
  | none => exact .inl ⟨rfl, List.findIdx?_eq_none_iff.1 h⟩
  | some k =>
    obtain ⟨hk, hp, _⟩ := List.findIdx?_eq_some_iff_getElem.1 h
    exact .inr ⟨k, ms[k], rfl, List.getElem?_eq_getElem hk, hp⟩

set_option maxRecDepth 100000 in
set_option maxHeartbeats 400000 in
theorem contains_rcv (F : FuncId) (hent : ∀ (args : Array Value) (W : World), (callFunc F args).run Try.prog W = .ok (.enter F args) W) (cap : Array Value) (p : Rcv → Bool) (A : Option Addr) (c : Nat) (ms : List Rcv) (w : World) (hr : RdR w A ms) (hl : ms.length ≤ 1000000)
    (hF : ∀ m ∈ ms, ∀ w', Chg Non w w' → Calls Try.prog F (#[.agg m.cs] ++ cap) w' fun e w'' => e = .returned (.bool (p m)) ∧ Chg Non w' w'') :
    Calls Try.prog 86 #[.slice A ms.length c, .func (.func F) #[] cap] w fun e w' => e = .returned (.bool (ms.any p)) ∧ Chg Non w w' := by
  have hI := Lib.hid (index_rcv F hent cap p A c ms w hr hl hF)
  clear hF hent hr
  have hB : decide (0 ≤ idxR p ms) = ms.any p := by
    rcases @idxR_inv p ms with ⟨h1, h2⟩ | ⟨k, m, h1, h2, h3⟩
    · rw [h1]
      have : ms.any p = false := List.any_eq_false.2 (fun x hx => by simp [h2 x hx])
      rw [this]; rfl
    · rw [h1]
      have : ms.any p = true := List.any_eq_true.2 ⟨m, List.mem_of_getElem? h2, h3⟩
      rw [this]; simp
  have HB := Lib.hid hB
  clear hB
  go_enter Try.func86, Try.ntmps86
  go_wp2_with fail
  refine hI.out.mono ?_
  rintro e w1 ⟨rfl, hc1⟩
  go_wp2
  go_ret
  exact ⟨by rw [← HB.out]; rfl, hc1⟩


end Go.Proofs.Ytgdpapcgghiljaa
