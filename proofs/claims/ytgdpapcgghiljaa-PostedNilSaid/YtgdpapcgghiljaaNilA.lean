/- Contracts over receives that nobody posted, and over no queue. -/
import Derived.Test.YtgdpapcgghiljaaProbes
set_option linter.unusedSimpArgs false
set_option linter.unusedVariables false
namespace Go.Proofs.Ytgdpapcgghiljaa
open Go.RowKit

/-- Receives that nobody posted. -/
def NoP (w : World) (v : Value) : Prop := v = .pointer none ∨ ∃ b, v = .pointer (some ⟨b, 0, none⟩) ∧ b < w.heap.size ∧ w.cell? ⟨b, 0, none⟩ = some (.bool false)
theorem NoP.non {w w' : World} {v : Value} (h : NoP w v) (c : Chg Non w w') : NoP w' v := by
  rcases h with h | ⟨b, h1, h2, h3⟩
  · exact .inl h
  · exact .inr ⟨b, h1, Nat.lt_of_lt_of_le h2 c.size, (c.cell h2 (fun e => e)).trans h3⟩

theorem of_nil (v : Value) (rank : Int) (w : World) (h : NoP w v) : Calls Try.prog 65 #[v, .int .i64 rank] w fun e w' => e = .returned (.slice none 0 0) ∧ w = w' := by
  rcases h with rfl | ⟨b, rfl, hb, c0⟩
  · go_enter Try.func65, Try.ntmps65
    go_wp2
    go_ret
    exact ⟨rfl, rfl⟩
  · go_enter Try.func65, Try.ntmps65
    go_wp2
    go_ret
    exact ⟨rfl, rfl⟩

set_option maxRecDepth 100000 in
set_option maxHeartbeats 400000 in
theorem place_nil (v : Value) (rank call : Int) (w : World) (h : NoP w v) : Calls Try.prog 67 #[v, .int .i64 rank, .int .i64 call] w fun e w' => e = .returned (.int .i64 (-1)) ∧ Chg Non w w' := by
  have hC0 : Chg Non w (w.alloc (Obj.cells #[Value.int IntKind.i64 call] 3)) := (Chg.refl _ _).alloc _
  have HC := Lib.hid (of_nil v rank _ (h.non hC0))
  have HC0 := Lib.hid hC0
  clear h hC0
  go_enter Try.func67, Try.ntmps67
  go_wp2_with (first
    | (go_at_call 65; refine HC.out.mono ?_; rintro e w1 ⟨rfl, rfl⟩)
    | (go_at_call 88; refine (index_rcv 89 enters89 #[.pointer (some ⟨w.heap.size, 0, none⟩)] (fun r => r.call == call) none 0 [] _ (.inl rfl) (by simp) (by simp)).mono ?_; rintro e w2 ⟨rfl, hc2⟩))
  go_ret
  exact ⟨rfl, HC0.out.non hc2⟩

set_option maxRecDepth 100000 in
set_option maxHeartbeats 400000 in
theorem at_nil (v : Value) (rank call : Int) (w : World) (h : NoP w v) :
    Calls Try.prog 42 #[v, .int .i64 rank, .int .i64 call] w fun e w' => e = .returned (.tuple #[.agg Rcv.zero.cs, .bool false]) ∧ Chg Non w w' := by
  have HP := Lib.hid (fun W hc => place_nil v rank call W (h.non hc))
  clear h
  go_enter Try.func42, Try.ntmps42
  go_wp2_with fail
  refine (HP.out _ ((Chg.refl Non w).alloc _)).mono ?_
  rintro e w1 ⟨rfl, hc1⟩
  have hN : w1.heap[w.heap.size]? = some (.cells Rcv.zero.cs 54 (0, 0)) := (hc1.block w.heap.size (by simp) (fun e => e)).trans (heap_alloc_new w _)
  have HC := Lib.hid (((Chg.refl Non w).alloc _).non hc1)
  have HN := Lib.hid hN
  clear hN hc1
  go_wp2_with (refine wpList_storeR rfl _ _ rfl w.heap.size rfl _ rfl Rcv.zero Rcv.zero rfl HN.out ?_; intro w2 p1 p2 p3)
  exact bodyPost_ret (v := .tuple #[.agg Rcv.zero.cs, .bool false]) (by have r0 := cell54_0 p1; have r1 := cell54_s p1; simp [results, Try.results42, go_sem, r0, r1]; rfl) rfl ⟨rfl, HC.out.trans p2 (fun b hb e => by subst e; omega)⟩

set_option maxRecDepth 100000 in
set_option maxHeartbeats 400000 in
theorem post_nil (v : Value) (x : Rcv) (w : World) (h : NoP w v) : Calls Try.prog 36 #[v, .agg x.cs] w fun e w' => e = .returned (.int .i64 1) ∧ Chg Non w w' := by
  have hC0 : Chg Non w (w.alloc (Obj.cells x.cs 54)) := (Chg.refl _ _).alloc _
  have HC0 := Lib.hid hC0
  rcases h.non hC0 with rfl | ⟨b, rfl, hb, c0⟩
  all_goals
    clear h hC0
    go_enter Try.func36, Try.ntmps36
    go_wp2
    go_ret
    exact ⟨rfl, HC0.out⟩

set_option maxRecDepth 100000 in
set_option maxHeartbeats 400000 in
theorem match_nil (v qv : Value) (rank call f s : Int) (w : World) (h : NoP w v) : Calls Try.prog 38 #[v, qv, .int .i64 rank, .int .i64 call, .int .i64 f, .int .i64 s] w fun e w' => e = .returned (.int .i64 1) ∧ Chg Non w w' := by
  have hC0 : Chg Non w ((w.alloc (Obj.cells #[Value.int IntKind.i64 f] 3)).alloc (Obj.cells #[Value.int IntKind.i64 s] 3)) := ((Chg.refl _ _).alloc _).alloc _
  have HC0 := Lib.hid hC0
  rcases h.non hC0 with rfl | ⟨b, rfl, hb, c0⟩
  all_goals
    clear h hC0
    go_enter Try.func38, Try.ntmps38
    go_wp2
    go_ret
    exact ⟨rfl, HC0.out⟩

set_option maxRecDepth 100000 in
set_option maxHeartbeats 400000 in
theorem kept_none (fv : Value) (A : Option Addr) (c : Nat) (w : World) : Calls Try.prog 69 #[.slice A 0 c, fv] w fun e w' => e = .returned (.slice none 0 0) ∧ w = w' := by
  go_enter Try.func69, Try.ntmps69
  go_wp2_with fail
  refine wp_loop_rounds 1 ?_
  rw [rounds_succ]
  go_wp2
  go_ret
  exact ⟨rfl, rfl⟩

set_option maxRecDepth 100000 in
set_option maxHeartbeats 400000 in
theorem waiting_nil (v : Value) (rank : Int) (w : World) (h : NoP w v) : Calls Try.prog 39 #[v, .int .i64 rank] w fun e w' => e = .returned (.slice none 0 0) ∧ Chg Non w w' := by
  have HC := Lib.hid (of_nil v rank w h)
  clear h
  go_enter Try.func39, Try.ntmps39
  go_wp2_with (first
    | (go_at_call 65; refine HC.out.mono ?_; rintro e w1 ⟨rfl, rfl⟩)
    | (go_at_call 69; refine (kept_none _ _ _ _).mono ?_; rintro e w2 ⟨rfl, rfl⟩))
  go_ret
  exact ⟨rfl, Chg.refl _ _⟩

set_option maxRecDepth 100000 in
set_option maxHeartbeats 400000 in
theorem may_nil (v qv : Value) (rank call : Int) (w : World) (h : NoP w v) : Calls Try.prog 37 #[v, qv, .int .i64 rank, .int .i64 call] w fun e w' => e = .returned (.slice none 0 0) ∧ Chg Non w w' := by
  have HC := Lib.hid (place_nil v rank call w h)
  clear h
  go_enter Try.func37, Try.ntmps37
  go_wp2_with (go_at_call 67; refine HC.out.mono ?_; rintro e w1 ⟨rfl, hc⟩)
  go_ret
  exact ⟨rfl, hc⟩

set_option maxRecDepth 100000 in
set_option maxHeartbeats 400000 in
theorem probe_nil (v qv : Value) (x : Rcv) (w : World) (h : NoP w v) : Calls Try.prog 35 #[v, qv, .agg x.cs] w fun e w' => e = .returned (.slice none 0 0) ∧ Chg Non w w' := by
  have hC0 : Chg Non w (w.alloc (Obj.cells x.cs 54)) := (Chg.refl _ _).alloc _
  have HC0 := Lib.hid hC0
  rcases h.non hC0 with rfl | ⟨b, rfl, hb, c0⟩
  all_goals
    clear h hC0
    go_enter Try.func35, Try.ntmps35
    go_wp2
    go_ret
    exact ⟨rfl, HC0.out⟩

theorem copy_nil (w : World) : Calls Try.prog 47 #[.pointer none] w fun e w' => e = .returned (.pointer none) ∧ Chg Non w w' := by
  go_enter Try.func47, Try.ntmps47
  go_wp2
  go_ret
  exact ⟨rfl, Chg.refl _ _⟩

theorem none_yes (w : World) : Calls Try.prog 52 #[.pointer none] w fun e w' => e = .returned (.bool true) ∧ w = w' := by
  go_enter Try.func52, Try.ntmps52
  go_wp2
  go_ret
  exact ⟨rfl, rfl⟩

set_option maxRecDepth 100000 in
set_option maxHeartbeats 400000 in
theorem senders_nil (key : ByteArray) (dst : Int) (w : World) : Calls Try.prog 30 #[.pointer none, .string key, .int .i64 dst] w fun e w' => e = .returned (.slice none 0 0) ∧ Chg Non w w' := by
  go_enter Try.func30, Try.ntmps30
  go_wp2_with (go_at_call 52; refine (none_yes _).mono ?_; rintro e w1 ⟨rfl, rfl⟩)
  go_ret
  exact ⟨rfl, Chg.refl _ _⟩

set_option maxRecDepth 100000 in
set_option maxHeartbeats 1000000 in
theorem free_nil (x : Rcv) (A : Option Addr) (c : Nat) (ahead : List Rcv) (w : World) (ha : RdR w A ahead) (hla : ahead.length ≤ 1000) :
    Calls Try.prog 64 #[.pointer none, .agg x.cs, .slice A ahead.length c] w fun e w' => e = .returned (.slice none 0 0) ∧ Chg Non w w' := by
  have HA := Lib.hid ha
  clear ha
  go_enter Try.func64, Try.ntmps64
  have hC0 : Chg Non w (w.alloc (Obj.cells x.cs 54)) := (Chg.refl _ _).alloc _
  have HC0 := Lib.hid hC0
  have HBX := Lib.hid (fun i => box_cell w x.cs 54 (S := Non) (fun e => e) i)
  clear hC0
  go_wp2_with fail
  refine (kept_any 70 enters70 #[] waitB A c ahead _ (HA.out.non HC0.out) hla (fun m _ W _ => waits_any m W)).mono ?_
  rintro e w1 ⟨v8, rfl, hw8, _, hc1⟩
  have b0 : w1.cell? ⟨w.heap.size, 0, none⟩ = some (.string x.key) := HBX.out 0 w1 hc1
  have b1 : w1.cell? ⟨w.heap.size, 1, none⟩ = some (.int .i64 x.rank) := HBX.out 1 w1 hc1
  have HC1 := Lib.hid hc1
  clear hc1 hw8
  go_wp2_with fail
  refine (senders_nil x.key x.rank w1).mono ?_
  rintro e w2 ⟨rfl, hc2⟩
  have HC2 := Lib.hid (HC0.out.non (HC1.out.non hc2))
  clear b0 b1 hc2
  go_wp2_with fail
  refine wp_loop_rounds 1 ?_
  rw [rounds_succ]
  go_wp2
  go_ret
  exact ⟨rfl, HC2.out⟩
end Go.Proofs.Ytgdpapcgghiljaa
