/- Contracts of the law's own message and receive. -/
import Derived.Test.YtgdpapcgghiljaaPostN
set_option linter.unusedSimpArgs false
set_option linter.unusedVariables false
namespace Go.Proofs.Ytgdpapcgghiljaa
open Go.RowKit

set_option maxRecDepth 100000 in
set_option maxHeartbeats 400000 in
theorem message_any (call tag : Int) (w : World) : Calls Try.prog 45 #[.int .i64 call, .int .i64 tag] w fun e w' => e = .returned (.agg (Msg.cs ⟨⟨#[]⟩, 1, 0, call, tag, 0, 1, false⟩)) ∧ Chg Non w w' := by
  go_enter Try.func45, Try.ntmps45
  go_wp2
  exact bodyPost_ret (v := .agg (Msg.cs ⟨⟨#[]⟩, 1, 0, call, tag, 0, 1, false⟩)) (by simp [results, Try.results45, go_sem]; rfl) rfl ⟨rfl, (Chg.refl _ _).alloc _⟩

set_option maxRecDepth 100000 in
set_option maxHeartbeats 400000 in
theorem receive_any (call peer tag : Int) (w : World) : Calls Try.prog 46 #[.int .i64 call, .int .i64 peer, .int .i64 tag] w fun e w' => e = .returned (.agg (Rcv.cs ⟨⟨#[]⟩, 0, call, peer, tag, -1, false, 0, 0⟩)) ∧ Chg Non w w' := by
  go_enter Try.func46, Try.ntmps46
  go_wp2
  exact bodyPost_ret (v := .agg (Rcv.cs ⟨⟨#[]⟩, 0, call, peer, tag, -1, false, 0, 0⟩)) (by simp [results, Try.results46, go_sem]; rfl) rfl ⟨rfl, (Chg.refl _ _).alloc _⟩
end Go.Proofs.Ytgdpapcgghiljaa
