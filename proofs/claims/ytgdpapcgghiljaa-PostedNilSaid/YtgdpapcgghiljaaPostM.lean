/- Acts on messages and receives, as they read; Great over them. -/
import Derived.Test.YtgdpapcgghiljaaPostL
set_option linter.unusedSimpArgs false
set_option linter.unusedVariables false
namespace Go.Proofs.Ytgdpapcgghiljaa
open Go.RowKit

structure Deed2 where
  kind : Int
  m : Msg
  r : Rcv

/-- The slice at A reads as the acts l. -/
def RdP (w : World) (A : Option Addr) (l : List Deed2) : Prop := l = [] ∨ ∃ g o, A = some ⟨g, o, none⟩ ∧ g < w.heap.size ∧ ∀ i d, l[i]? = some d → w.cell? ⟨g, o + i * 18, none⟩ = some (.int .u8 d.kind) ∧ At w g (o + i * 18 + 1) d.m ∧ AtR w g (o + i * 18 + 9) d.r

theorem RdP.non {w w' : World} {A : Option Addr} {l : List Deed2} (h : RdP w A l) (hc : Chg Non w w') : RdP w' A l := by
  rcases h with h | ⟨g, o, rfl, hg, hat⟩
  · exact .inl h
  · exact .inr ⟨g, o, rfl, Nat.lt_of_lt_of_le hg hc.size, fun i d hi => ⟨(hc.cell hg (fun e => e)).trans (hat i d hi).1, (hat i d hi).2.1.kept hc hg (fun e => e), (hat i d hi).2.2.kept hc hg (fun e => e)⟩⟩

theorem RdP.at_ {w : World} {A : Option Addr} {l : List Deed2} (h : RdP w A l) {i : Nat} {d : Deed2} (hi : l[i]? = some d) : ∃ g o, A = some ⟨g, o, none⟩ ∧ g < w.heap.size ∧ w.cell? ⟨g, o + i * 18, none⟩ = some (.int .u8 d.kind) ∧ At w g (o + i * 18 + 1) d.m ∧ AtR w g (o + i * 18 + 9) d.r := by
  rcases h with rfl | ⟨g, o, rfl, hg, hat⟩
  · simp at hi
  · exact ⟨g, o, rfl, hg, hat i d hi⟩

/-- more than are gone through here -/
def pgreat (l : List Deed2) : Bool := decide (120 < l.length) || l.any fun d => decide (100 < d.m.key.size) || decide (100 < d.r.key.size)

set_option maxRecDepth 100000 in
set_option maxHeartbeats 400000 in
theorem pgreat_any (A : Option Addr) (c : Nat) (l : List Deed2) (w : World) (h : RdP w A l) :
    Calls Try.prog 33 #[.slice A l.length c] w fun e w' => e = .returned (.bool (pgreat l)) ∧ w = w' := by
  by_cases hlen : 120 < l.length
  · go_enter Try.func33, Try.ntmps33
    go_wp2_with fail
    go_ret
    exact ⟨by unfold pgreat; rw [decide_eq_true hlen]; rfl, rfl⟩
  · go_enter Try.func33, Try.ntmps33
    go_wp2_with fail
    go_loop [3] (fun i => ∃ k : Nat, i = .int .i64 k ∧ k ≤ l.length ∧ ∀ d ∈ l.take k, ¬ (100 < d.m.key.size) ∧ ¬ (100 < d.r.key.size)) (fun i => l.length - (intOf i).toNat)
    case atStart => exact ⟨0, rfl, by omega, by simp⟩
    case round =>
      obtain ⟨k, rfl, hk, hno⟩ := hrel
      have HNO := Lib.hid hno
      clear hno
      by_cases hlt : k < l.length
      · obtain ⟨d, hd⟩ : ∃ d, l[k]? = some d := ⟨l[k], List.getElem?_eq_getElem hlt⟩
        obtain ⟨g, o, rfl, hg, e1, ⟨e2, e3⟩, e4, e5⟩ := h.at_ hd
        have HD := Lib.hid hd
        clear hd
        have hyes : (100 < d.m.key.size ∨ 100 < d.r.key.size) → pgreat l = true := fun hb => by
          unfold pgreat
          rw [Bool.or_eq_true]
          exact .inr (List.any_eq_true.2 ⟨d, List.mem_of_getElem? HD.out, by simpa using hb⟩)
        have HY := Lib.hid hyes
        clear hyes
        by_cases hb : 100 < d.m.key.size
        · go_wp2_with fail
          go_ret
          exact ⟨by rw [HY.out (.inl hb)]; rfl, rfl⟩
        · by_cases hb2 : 100 < d.r.key.size
          · go_wp2_with fail
            go_ret
            exact ⟨by rw [HY.out (.inr hb2)]; rfl, rfl⟩
          · go_wp2_with fail
            go_round
            case rel =>
              refine ⟨k + 1, by go_num, by omega, fun x hx => ?_⟩
              rw [List.take_add_one, HD.out] at hx
              rcases List.mem_append.1 hx with hx | hx
              · exact HNO.out x hx
              · simp at hx; subst hx; exact ⟨hb, hb2⟩
            case measure => simp [intOf]; omega
      · obtain rfl : k = l.length := by omega
        go_wp2
        go_ret
        refine ⟨?_, rfl⟩
        have : pgreat l = false := by
          unfold pgreat
          rw [Bool.or_eq_false_iff]
          refine ⟨by simpa using hlen, List.any_eq_false.2 fun d hd => ?_⟩
          have := HNO.out d (by simpa using hd)
          simpa using this
        rw [this]; rfl
end Go.Proofs.Ytgdpapcgghiljaa
