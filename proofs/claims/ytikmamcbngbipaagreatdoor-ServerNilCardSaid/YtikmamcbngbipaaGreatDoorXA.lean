/- slices.Chunk's closure at a slice of one piece: it yields once, all of it. -/
import Derived.RangeFuncBox
import Derived.RangeFuncLeaves
import Derived.RangeFuncCalls
import Derived.Shelf.Abstract
import Derived.Shelf.RegionOpen
import Derived.WalkKit
import Derived.OwnWalkIn
import Derived.TacticsInMore
import Derived.LoopNIn
import Derived.LoopIn
import Derived.Test.YtikmamcbngbipaaGreatDoorProg
namespace Go.Proofs.YtikmamcbngbipaaGreatDoor
open Go.RowKit Go.Shelf

set_option maxRecDepth 100000 in
set_option maxHeartbeats 2000000 in
theorem chunk130 (n l bs os bn on b off len cap : Nat) (W : World) (hs : W.cell? ⟨bs, os, none⟩ = some (.slice (some ⟨b, off, none⟩) len cap)) (hn : W.cell? ⟨bn, on, none⟩ = some (.int .i64 100)) (h1 : 1 ≤ len) (h2 : len ≤ 100) (hc : len ≤ cap) (h1n : 1 ≤ n) (R : World → Prop)
    (hY : YieldAt Fence.wide (n - 1) Tryz.prog l #[.slice (some ⟨b, off, none⟩) len len] W.drew fun e W' => e = .returned (.bool true) ∧ R W' ∧ W'.cell? ⟨bs, os, none⟩ = some (.slice (some ⟨b, off, none⟩) len cap) ∧ W'.cell? ⟨bn, on, none⟩ = some (.int .i64 100)) :
    CallsIn Fence.wide n Tryz.prog 130 #[.func (.yield l) #[] #[], .pointer (some ⟨bs, os, none⟩), .pointer (some ⟨bn, on, none⟩)] W fun e W' => (∃ v, e = .returned v) ∧ R W' := by
  refine callsIn_of_wp Tryz.func130 rfl trivial ?_ rfl
  simp only [Tryz.ntmps130, List.size_toArray, List.length_cons, List.length_nil, Nat.reduceAdd, Nat.reduceSub, Array.replicate_succ, Array.replicate_zero, List.push_toArray, List.append_toArray, List.nil_append, List.cons_append]
  gi_wp2
  gi_loopw [4] (fun i wr => (i = .int .i64 0 ∧ wr = W) ∨ (i = .int .i64 100 ∧ R wr ∧ wr.cell? ⟨bs, os, none⟩ = some (.slice (some ⟨b, off, none⟩) len cap)))
    (fun i _ => 100 - (intOf i).toNat)
  case atStart => exact .inl ⟨rfl, rfl⟩
  case round =>
    rcases hrel with ⟨rfl, rfl⟩ | ⟨rfl, hR, hs'⟩
    · gi_wp2
      gi_region
      have hmin : (if (len : Int) < 100 then (len : Int) else 100) = len := by split <;> omega
      simp only [hmin]
      have hs1 : wr.drew.cell? ⟨bs, os, none⟩ = some (.slice (some ⟨b, off, none⟩) len cap) := hs
      have hn1 : wr.drew.cell? ⟨bn, on, none⟩ = some (.int .i64 100) := hn
      generalize wr.drew = w1 at *
      obtain ⟨fn, tmps, assign, body, hy, hRd⟩ := hY
      gi_wp2
      refine hRd.mono ?_
      rintro e w2 ⟨rfl, hR2, hs2, hn2⟩
      gi_wp2
      go_roundw
      case rel => exact .inr ⟨rfl, hR2, hs2⟩
      case measure => simp [intOf]
    · gi_wp2
      go_end0
      exact ⟨⟨_, rfl⟩, hR⟩
end Go.Proofs.YtikmamcbngbipaaGreatDoor
