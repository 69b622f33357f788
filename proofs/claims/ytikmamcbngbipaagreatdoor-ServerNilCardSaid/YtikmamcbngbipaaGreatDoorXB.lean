/- commit's deferred closure where nothing went wrong; a walk back over nothing; no server has no work. -/
import Derived.Test.YtikmamcbngbipaaGreatDoorXA
import Derived.DefersIn
namespace Go.Proofs.YtikmamcbngbipaaGreatDoor
open Go.RowKit Go.Shelf

set_option maxHeartbeats 2000000 in
theorem defer70 (n b o : Nat) (w : World) (h : w.cell? ⟨b, o, none⟩ = some (.int .i64 0)) :
    CallsDIn Fence.wide n Tryz.prog 70 #[.pointer (some ⟨b, o, none⟩)] .returning w fun e u' w' => (∃ v, e = .returned v) ∧ u' = .returning ∧ w' = w := by
  refine CallsDIn.mono (R := fun e u' w' => u' = .returning ∧ ((∃ v, e = .returned v) ∧ w' = w)) (callsDIn_of_wp Tryz.func70 rfl trivial ?_ rfl) (fun e u' w' h => ⟨h.2.1, h.1, h.2.2⟩)
  simp only [Tryz.ntmps70, List.size_toArray, List.length_cons, List.length_nil, Nat.reduceAdd, Nat.reduceSub, Array.replicate_succ, Array.replicate_zero, List.push_toArray, List.append_toArray, List.nil_append, List.cons_append]
  gi_wp2
  go_end0
  exact ⟨⟨_, rfl⟩, rfl⟩

theorem back203 (n l bs os cap : Nat) (x : Option Addr) (w : World) (k : w.cell? ⟨bs, os, none⟩ = some (.slice x 0 cap)) : CallsIn Fence.wide n Tryz.prog 203 #[.func (.yield l) #[] #[], .pointer (some ⟨bs, os, none⟩)] w fun e w' => (∃ v, e = .returned v) ∧ w' = w := by
  refine callsIn_wide.2 ?_
  go_enter Tryz.func203, Tryz.ntmps203
  go_wp2_with fail
  go_loopw [3] (fun v wr => v = .int .i64 (-1) ∧ w = wr) (fun _ _ => (0 : Nat))
  case atStart => exact ⟨rfl, rfl⟩
  case round =>
    obtain ⟨rfl, rfl⟩ := hrel
    go_wp2_with fail
    go_end0
    exact ⟨⟨_, rfl⟩, rfl⟩

theorem queue_nil (w : World) : Calls Tryz.prog 12 #[.pointer none] w fun e w' => e = .returned (.int .i64 0) ∧ w' = w := by
  go_enter Tryz.func12, Tryz.ntmps12
  go_wp2_with fail
  go_ret
  exact ⟨rfl, rfl⟩
theorem work_nil (n : Int) (w : World) : Calls Tryz.prog 13 #[.pointer none, .int .i64 n] w fun e w' => e = .returned (.bool false) ∧ w' = w := by
  go_enter Tryz.func13, Tryz.ntmps13
  by_cases h : n < 0
  · go_wp2_with fail
    go_ret
    exact ⟨rfl, rfl⟩
  · go_wp2_with fail
    refine (queue_nil _).mono ?_
    rintro e w1 ⟨rfl, rfl⟩
    have h2 : n ≥ 0 := by omega
    go_wp2_with fail
    go_ret
    exact ⟨rfl, rfl⟩
end Go.Proofs.YtikmamcbngbipaaGreatDoor
