/- commit's deferred closure where nothing went wrong. -/
import Derived.Test.YtphlklajljmgdaaGreatDoorXA
import Derived.DefersIn
namespace Go.Proofs.YtphlklajljmgdaaGreatDoor
open Go.RowKit Go.Shelf

set_option maxHeartbeats 2000000 in
theorem defer24 (n b o : Nat) (w : World) (h : w.cell? ⟨b, o, none⟩ = some (.int .i64 0)) :
    CallsDIn Fence.wide n Tryz.prog 24 #[.pointer (some ⟨b, o, none⟩)] .returning w fun e u' w' => (∃ v, e = .returned v) ∧ u' = .returning ∧ w' = w := by
  refine CallsDIn.mono (R := fun e u' w' => u' = .returning ∧ ((∃ v, e = .returned v) ∧ w' = w)) (callsDIn_of_wp Tryz.func24 rfl trivial ?_ rfl) (fun e u' w' h => ⟨h.2.1, h.1, h.2.2⟩)
  simp only [Tryz.ntmps24, List.size_toArray, List.length_cons, List.length_nil, Nat.reduceAdd, Nat.reduceSub, Array.replicate_succ, Array.replicate_zero, List.push_toArray, List.append_toArray, List.nil_append, List.cons_append]
  gi_wp2
  go_end0
  exact ⟨⟨_, rfl⟩, rfl⟩
end Go.Proofs.YtphlklajljmgdaaGreatDoor
