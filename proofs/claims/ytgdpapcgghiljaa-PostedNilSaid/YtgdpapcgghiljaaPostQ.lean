/- Contracts of the law's own act. -/
import Derived.Test.YtgdpapcgghiljaaPostP
set_option linter.unusedSimpArgs false
set_option linter.unusedVariables false
namespace Go.Proofs.Ytgdpapcgghiljaa
open Go.RowKit

def Deed2.cs (d : Deed2) : Array Value := #[.int .u8 d.kind, .string d.m.key, .int .i64 d.m.frm, .int .i64 d.m.dst, .int .i64 d.m.call, .int .i64 d.m.tag, .int .i64 d.m.value, .int .i64 d.m.size, .bool d.m.taken,
  .string d.r.key, .int .i64 d.r.rank, .int .i64 d.r.call, .int .i64 d.r.peer, .int .i64 d.r.tag, .int .i64 d.r.req, .bool d.r.done, .int .i64 d.r.frm, .int .i64 d.r.seq]

theorem Deed2.cs_m (d : Deed2) : ∀ j, j < 8 → d.cs[1 + j]? = d.m.cs[j]? := by
  intro j hj
  rcases (by omega : j = 0 ∨ j = 1 ∨ j = 2 ∨ j = 3 ∨ j = 4 ∨ j = 5 ∨ j = 6 ∨ j = 7) with rfl | rfl | rfl | rfl | rfl | rfl | rfl | rfl <;> rfl
theorem Deed2.cs_r (d : Deed2) : ∀ j, j < 9 → d.cs[9 + j]? = d.r.cs[j]? := by
  intro j hj
  rcases (by omega : j = 0 ∨ j = 1 ∨ j = 2 ∨ j = 3 ∨ j = 4 ∨ j = 5 ∨ j = 6 ∨ j = 7 ∨ j = 8) with rfl | rfl | rfl | rfl | rfl | rfl | rfl | rfl | rfl <;> rfl

/-- Which of the messages that may be matched is taken. -/
def pick (ms : List Msg) (L : Nat → List Rcv) (d : Deed2) : Option Msg := (mayL ms L d.r.rank d.r.call)[(IntKind.u64.wrap d.m.call % ((mayL ms L d.r.rank d.r.call).length : Int)).toNat]?

/-- What an act leaves. -/
noncomputable def actM (ms : List Msg) (L : Nat → List Rcv) (d : Deed2) : List Msg :=
  if d.kind.tmod 4 = 0 ∨ d.kind.tmod 4 = 1 then sndL ms d.m else if d.kind.tmod 4 = 2 then ms else (pick ms L d).elim ms fun m => matchM ms L d.r.rank d.r.call m.frm m.call
noncomputable def actR (ms : List Msg) (L : Nat → List Rcv) (d : Deed2) : Nat → List Rcv :=
  if d.kind.tmod 4 = 0 ∨ d.kind.tmod 4 = 1 then L else if d.kind.tmod 4 = 2 then postL L d.r else (pick ms L d).elim L fun m => matchR ms L d.r.rank d.r.call m.frm m.call

set_option maxRecDepth 100000 in
set_option maxHeartbeats 1000000 in
theorem act_send (q r a : Nat) (rs : List (Chan × Value)) (ats : List (Sent × Value)) (ms : List Msg) (pv : Value) (d : Deed2) (w : World) (h : QR w q r a rs ats ms) (hl : ms.length ≤ 1000) (hk : d.kind.tmod 4 = 0 ∨ d.kind.tmod 4 = 1) :
    Calls Try.prog 41 #[.pointer (some ⟨q, 0, none⟩), pv, .agg d.cs] w fun e w' => e = .returned (.int .i64 (-1)) ∧ ∃ rs' ats', QR w' q r a rs' ats' (sndL ms d.m) ∧ Chg (In (blocksOf q r a rs)) w w' ∧ (∀ b ∈ blocksOf q r a rs', b ∈ blocksOf q r a rs ∨ w.heap.size ≤ b) := by
  have hC0 : Chg Non w (w.alloc (Obj.cells d.cs 72)) := (Chg.refl _ _).alloc _
  have hsend := psend_any q r a rs ats ms d.m _ (h.non hC0) hl
  have HS := Lib.hid hsend
  have HC0 := Lib.hid hC0
  have b0 : (w.alloc (Obj.cells d.cs 72)).cell? ⟨w.heap.size, 0, none⟩ = some (.int .u8 d.kind) := box_cell w d.cs 72 (S := Non) (fun e => e) 0 _ (Chg.refl _ _)
  have b1 : (w.alloc (Obj.cells d.cs 72)).cell? ⟨w.heap.size, 1, none⟩ = some (.string d.m.key) := box_cell w d.cs 72 (S := Non) (fun e => e) 1 _ (Chg.refl _ _)
  clear hsend hC0 h
  have b2 : (w.alloc (Obj.cells d.cs 72)).cell? ⟨w.heap.size, 2, none⟩ = some (.int .i64 d.m.frm) := box_cell w d.cs 72 (S := Non) (fun e => e) 2 _ (Chg.refl _ _)
  have b3 : (w.alloc (Obj.cells d.cs 72)).cell? ⟨w.heap.size, 3, none⟩ = some (.int .i64 d.m.dst) := box_cell w d.cs 72 (S := Non) (fun e => e) 3 _ (Chg.refl _ _)
  have b4 : (w.alloc (Obj.cells d.cs 72)).cell? ⟨w.heap.size, 4, none⟩ = some (.int .i64 d.m.call) := box_cell w d.cs 72 (S := Non) (fun e => e) 4 _ (Chg.refl _ _)
  have b5 : (w.alloc (Obj.cells d.cs 72)).cell? ⟨w.heap.size, 5, none⟩ = some (.int .i64 d.m.tag) := box_cell w d.cs 72 (S := Non) (fun e => e) 5 _ (Chg.refl _ _)
  have b6 : (w.alloc (Obj.cells d.cs 72)).cell? ⟨w.heap.size, 6, none⟩ = some (.int .i64 d.m.value) := box_cell w d.cs 72 (S := Non) (fun e => e) 6 _ (Chg.refl _ _)
  have b7 : (w.alloc (Obj.cells d.cs 72)).cell? ⟨w.heap.size, 7, none⟩ = some (.int .i64 d.m.size) := box_cell w d.cs 72 (S := Non) (fun e => e) 7 _ (Chg.refl _ _)
  have b8 : (w.alloc (Obj.cells d.cs 72)).cell? ⟨w.heap.size, 8, none⟩ = some (.bool d.m.taken) := box_cell w d.cs 72 (S := Non) (fun e => e) 8 _ (Chg.refl _ _)
  rcases hk with hk | hk
  all_goals
    go_enter Try.func41, Try.ntmps41
    go_wp2_with (go_at_call 13; refine HS.out.mono ?_; rintro e w1 ⟨rfl, rs', ats', h1, h2, h3⟩)
    go_ret
    exact ⟨rfl, rs', ats', h1, HC0.out.any.trans h2 (fun b _ e => e), fun b hb => by
      rcases h3 b hb with e | e
      · exact .inl e
      · exact .inr (Nat.le_trans HC0.out.size e)⟩

set_option maxRecDepth 100000 in
set_option maxHeartbeats 1000000 in
theorem act_post (p : Nat) (vs : List Value) (L : Nat → List Rcv) (qv : Value) (d : Deed2) (w : World) (h : PR w p vs L) (hlr : (ofL L d.r.rank).length ≤ 1000) (hk : d.kind.tmod 4 = 2) :
    Calls Try.prog 41 #[qv, .pointer (some ⟨p, 0, none⟩), .agg d.cs] w fun e w' => e = .returned (.int .i64 (-1)) ∧ ∃ vs', PR w' p vs' (postL L d.r) ∧ Chg (In (blocksP p vs)) w w' ∧ (∀ b ∈ blocksP p vs', b ∈ blocksP p vs ∨ w.heap.size ≤ b) := by
  have hC0 : Chg Non w (w.alloc (Obj.cells d.cs 72)) := (Chg.refl _ _).alloc _
  have hpost := post_any p vs L d.r _ (h.non hC0) hlr
  have HS := Lib.hid hpost
  have HC0 := Lib.hid hC0
  have b0 : (w.alloc (Obj.cells d.cs 72)).cell? ⟨w.heap.size, 0, none⟩ = some (.int .u8 d.kind) := box_cell w d.cs 72 (S := Non) (fun e => e) 0 _ (Chg.refl _ _)
  have b9 : (w.alloc (Obj.cells d.cs 72)).cell? ⟨w.heap.size, 9, none⟩ = some (.string d.r.key) := box_cell w d.cs 72 (S := Non) (fun e => e) 9 _ (Chg.refl _ _)
  have b10 : (w.alloc (Obj.cells d.cs 72)).cell? ⟨w.heap.size, 10, none⟩ = some (.int .i64 d.r.rank) := box_cell w d.cs 72 (S := Non) (fun e => e) 10 _ (Chg.refl _ _)
  have b11 : (w.alloc (Obj.cells d.cs 72)).cell? ⟨w.heap.size, 11, none⟩ = some (.int .i64 d.r.call) := box_cell w d.cs 72 (S := Non) (fun e => e) 11 _ (Chg.refl _ _)
  have b12 : (w.alloc (Obj.cells d.cs 72)).cell? ⟨w.heap.size, 12, none⟩ = some (.int .i64 d.r.peer) := box_cell w d.cs 72 (S := Non) (fun e => e) 12 _ (Chg.refl _ _)
  have b13 : (w.alloc (Obj.cells d.cs 72)).cell? ⟨w.heap.size, 13, none⟩ = some (.int .i64 d.r.tag) := box_cell w d.cs 72 (S := Non) (fun e => e) 13 _ (Chg.refl _ _)
  have b14 : (w.alloc (Obj.cells d.cs 72)).cell? ⟨w.heap.size, 14, none⟩ = some (.int .i64 d.r.req) := box_cell w d.cs 72 (S := Non) (fun e => e) 14 _ (Chg.refl _ _)
  have b15 : (w.alloc (Obj.cells d.cs 72)).cell? ⟨w.heap.size, 15, none⟩ = some (.bool d.r.done) := box_cell w d.cs 72 (S := Non) (fun e => e) 15 _ (Chg.refl _ _)
  have b16 : (w.alloc (Obj.cells d.cs 72)).cell? ⟨w.heap.size, 16, none⟩ = some (.int .i64 d.r.frm) := box_cell w d.cs 72 (S := Non) (fun e => e) 16 _ (Chg.refl _ _)
  have b17 : (w.alloc (Obj.cells d.cs 72)).cell? ⟨w.heap.size, 17, none⟩ = some (.int .i64 d.r.seq) := box_cell w d.cs 72 (S := Non) (fun e => e) 17 _ (Chg.refl _ _)
  clear hpost hC0 h
  go_enter Try.func41, Try.ntmps41
  go_wp2_with (go_at_call 36; refine HS.out.mono ?_; rintro e w1 ⟨rfl, vs', h1, h2, h3⟩)
  go_ret
  exact ⟨rfl, vs', h1, HC0.out.any.trans h2 (fun b _ e => e), fun b hb => by
    rcases h3 b hb with e | e
    · exact .inl e
    · exact .inr (Nat.le_trans HC0.out.size e)⟩
end Go.Proofs.Ytgdpapcgghiljaa
