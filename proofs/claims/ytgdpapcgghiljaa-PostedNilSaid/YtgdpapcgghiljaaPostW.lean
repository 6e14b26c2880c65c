/- Contract of the law's own within. -/
import Derived.Test.YtgdpapcgghiljaaPostV
set_option linter.unusedSimpArgs false
set_option linter.unusedVariables false
namespace Go.Proofs.Ytgdpapcgghiljaa
open Go.RowKit

theorem mem_take_succ {α : Type} [DecidableEq α] {l : List α} {k : Nat} {y : α} (h : l[k]? = some y) (x : α) : decide (x ∈ l.take (k + 1)) = (decide (x ∈ l.take k) || decide (x = y)) := by
  rw [List.take_add_one, h]
  simp

theorem run_eq31 (x y : Msg) (w : World) : (Op.equalIn 10000 31 (.agg x.cs) (.agg y.cs)).run Try.prog w = .ok (decide (x = y)) w := by
  have h1 : Try.prog.underlying 31 = some (.struct (Try.prog.fieldsOf 31)) := by kernel_rfl
  have h2 : Try.prog.stoodInHeld 31 = false := by kernel_rfl
  rw [run_equalIn_struct w 9999 31 _ _ h1 h2]
  simp only [Program.fieldsOf, Try.underlying31]
  obtain ⟨k, a, b, c, d, e, f, g⟩ := x
  obtain ⟨k', a', b', c', d', e', f', g'⟩ := y
  simp [Msg.cs, Op.eqFields, part, isAgg, run_underlying Try.underlying9, run_underlying Try.underlying3, run_underlying Try.underlying2, run_underlying Try.underlying4, run_equalIn_string w _ _ _ _ Try.underlying9, run_equalIn_int w _ _ _ _ _ _ Try.underlying3, run_equalIn_int w _ _ _ _ _ _ Try.underlying2, run_equalIn_bool' w _ _ _ _ Try.underlying4, Result.andThen]
  simp only [bytes_toList_inj]
  by_cases h1 : k = k' <;> by_cases h2 : a = a' <;> by_cases h3 : b = b' <;> by_cases h4 : c = c' <;> by_cases h5 : d = d' <;> by_cases h6 : e = e' <;> by_cases h7 : f = f' <;> cases g <;> cases g' <;> simp [h1, h2, h3, h4, h5, h6, h7]

set_option maxRecDepth 100000 in
set_option maxHeartbeats 1000000 in
theorem within_yes (A B : Option Addr) (c d : Nat) (xs ys : List Msg) (w : World) (ha : RdM w A xs) (hb : RdM w B ys) (hx : xs.length ≤ 1000) (hy : ys.length ≤ 1000) (hin : ∀ x ∈ xs, x ∈ ys) :
    Calls Try.prog 43 #[.slice A xs.length c, .slice B ys.length d] w fun e w' => e = .returned (.bool true) ∧ Chg Non w w' := by
  have HIN := Lib.hid hin
  clear hin
  go_enter Try.func43, Try.ntmps43
  go_wp2_with fail
  go_loopw [5] (fun i wr => ∃ k : Nat, i = .int .i64 k ∧ k ≤ xs.length ∧ ∃ n, wr = w.drewN n) (fun i _ => xs.length - (intOf i).toNat)
  case atStart => exact ⟨0, rfl, by omega, 0, rfl⟩
  case round =>
    obtain ⟨k, rfl, hk, n, rfl⟩ := hrel
    by_cases hlt : k < xs.length
    · obtain ⟨x, hx1⟩ : ∃ x, xs[k]? = some x := ⟨xs[k], List.getElem?_eq_getElem hlt⟩
      obtain ⟨g, o, rfl, _, e1, e1'⟩ := ha.at_ hx1
      have HX := Lib.hid hx1
      clear hx1
      go_wp2_with fail
      go_loopw [6, 7] (fun f j wr => ∃ m : Nat, j = .int .i64 m ∧ m ≤ ys.length ∧ f = .bool (decide (x ∈ ys.take m)) ∧ ∃ n, wr = w.drewN n) (fun _ j _ => ys.length - (intOf j).toNat)
      case atStart => exact ⟨0, rfl, by omega, by simp, n, rfl⟩
      case round =>
        obtain ⟨m, rfl, hm, rfl, n', rfl⟩ := hrel
        by_cases hlt2 : m < ys.length
        · obtain ⟨y, hy1⟩ : ∃ y, ys[m]? = some y := ⟨ys[m], List.getElem?_eq_getElem hlt2⟩
          obtain ⟨g', o', rfl, _, e2, e2'⟩ := hb.at_ hy1
          have HT := Lib.hid (mem_take_succ hy1 x)
          clear hy1
          generalize decide (x ∈ ys.take m) = fb at HT
          have heq : ∀ W, (Op.equalIn 10000 31 (.agg #[.string x.key, .int .i64 x.frm, .int .i64 x.dst, .int .i64 x.call, .int .i64 x.tag, .int .i64 x.value, .int .i64 x.size, .bool x.taken]) (.agg #[.string y.key, .int .i64 y.frm, .int .i64 y.dst, .int .i64 y.call, .int .i64 y.tag, .int .i64 y.value, .int .i64 y.size, .bool y.taken])).run Try.prog W = .ok (decide (x = y)) W := run_eq31 x y
          cases fb
          · go_wp2_with fail
            go_quiet (fail)
            go_wp2
            go_roundw
            case rel => exact ⟨m + 1, by go_num, by omega, by rw [HT.out]; rfl, _, rfl⟩
            case measure => simp [intOf]; omega
          · go_wp2_with fail
            go_quiet (fail)
            go_wp2
            go_roundw
            case rel => exact ⟨m + 1, by go_num, by omega, by rw [HT.out]; rfl, _, rfl⟩
            case measure => simp [intOf]; omega
        · obtain rfl : m = ys.length := by omega
          have hyes : decide (x ∈ ys.take ys.length) = true := by
            rw [List.take_length]
            exact decide_eq_true (HIN.out x (List.mem_of_getElem? HX.out))
          rw [hyes]
          clear hyes
          go_wp2
          go_roundw
          case rel => exact ⟨k + 1, by go_num, by omega, _, rfl⟩
          case measure => simp [intOf]; omega
    · obtain rfl : k = xs.length := by omega
      go_wp2
      go_ret
      exact ⟨rfl, (Chg.refl _ _).drewN _⟩
end Go.Proofs.Ytgdpapcgghiljaa
