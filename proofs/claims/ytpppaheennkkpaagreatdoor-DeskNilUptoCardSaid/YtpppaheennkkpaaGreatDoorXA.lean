/- slices.Chunk's closure at a slice of one piece: it yields once, all of it. -/
import Derived.RangeFuncBox
import Derived.RangeFuncLeaves
import Derived.RangeFuncCalls
import Derived.Shelf.Abstract
import Derived.Shelf.RegionOpen
import Derived.WalkKit
import Derived.OwnWalkIn
import Derived.TacticsInMore
import Derived.LoopNIn
import Derived.LoopIn
import Derived.Test.YtpppaheennkkpaaGreatDoorProg
import Derived.DefersIn
import Derived.Recover
import Derived.RecoverIn
import Derived.Defers
namespace Go.Proofs.YtpppaheennkkpaaGreatDoor
open Go.RowKit Go.Shelf

set_option maxRecDepth 100000 in
set_option maxHeartbeats 2000000 in
theorem chunk263 (n l bs os bn on b off len cap : Nat) (W : World) (hs : W.cell? ⟨bs, os, none⟩ = some (.slice (some ⟨b, off, none⟩) len cap)) (hn : W.cell? ⟨bn, on, none⟩ = some (.int .i64 100)) (h1 : 1 ≤ len) (h2 : len ≤ 100) (hc : len ≤ cap) (h1n : 1 ≤ n) (R : World → Prop)
    (hY : YieldAt Fence.wide (n - 1) Tryz.prog l #[.slice (some ⟨b, off, none⟩) len len] W.drew fun e W' => e = .returned (.bool true) ∧ R W' ∧ W'.cell? ⟨bs, os, none⟩ = some (.slice (some ⟨b, off, none⟩) len cap) ∧ W'.cell? ⟨bn, on, none⟩ = some (.int .i64 100)) :
    CallsIn Fence.wide n Tryz.prog 263 #[.func (.yield l) #[] #[], .pointer (some ⟨bs, os, none⟩), .pointer (some ⟨bn, on, none⟩)] W fun e W' => (∃ v, e = .returned v) ∧ R W' := by
  refine callsIn_of_wp Tryz.func263 rfl trivial ?_ rfl
  simp only [Tryz.ntmps263, List.size_toArray, List.length_cons, List.length_nil, Nat.reduceAdd, Nat.reduceSub, Array.replicate_succ, Array.replicate_zero, List.push_toArray, List.append_toArray, List.nil_append, List.cons_append]
  gi_wp2
  gi_loopw [4] (fun i wr => (i = .int .i64 0 ∧ wr = W) ∨ (i = .int .i64 100 ∧ R wr ∧ wr.cell? ⟨bs, os, none⟩ = some (.slice (some ⟨b, off, none⟩) len cap)))
    (fun i _ => 100 - (intOf i).toNat)
  case atStart => exact .inl ⟨rfl, rfl⟩
  case round =>
    rcases hrel with ⟨rfl, rfl⟩ | ⟨rfl, hR, hs'⟩
    · gi_wp2
      gi_region
      have hmin : (if (len : Int) < 100 then (len : Int) else 100) = len := by split <;> omega
      simp only [hmin]
      have hs1 : wr.drew.cell? ⟨bs, os, none⟩ = some (.slice (some ⟨b, off, none⟩) len cap) := hs
      have hn1 : wr.drew.cell? ⟨bn, on, none⟩ = some (.int .i64 100) := hn
      generalize wr.drew = w1 at *
      obtain ⟨fn, tmps, assign, body, hy, hRd⟩ := hY
      gi_wp2
      refine hRd.mono ?_
      rintro e w2 ⟨rfl, hR2, hs2, hn2⟩
      gi_wp2
      go_roundw
      case rel => exact .inr ⟨rfl, hR2, hs2⟩
      case measure => simp [intOf]
    · gi_wp2
      go_end0
      exact ⟨⟨_, rfl⟩, hR⟩
end Go.Proofs.YtpppaheennkkpaaGreatDoor

/- commit's deferred closure where nothing went wrong; a walk back over nothing; a walk back over one thing. -/
namespace Go.Proofs.YtpppaheennkkpaaGreatDoor
open Go.RowKit Go.Shelf

set_option maxHeartbeats 2000000 in
theorem defer205 (n b o : Nat) (w : World) (h : w.cell? ⟨b, o, none⟩ = some (.int .i64 0)) :
    CallsDIn Fence.wide n Tryz.prog 205 #[.pointer (some ⟨b, o, none⟩)] .returning w fun e u' w' => (∃ v, e = .returned v) ∧ u' = .returning ∧ w' = w := by
  refine CallsDIn.mono (R := fun e u' w' => u' = .returning ∧ ((∃ v, e = .returned v) ∧ w' = w)) (callsDIn_of_wp Tryz.func205 rfl trivial ?_ rfl) (fun e u' w' h => ⟨h.2.1, h.1, h.2.2⟩)
  simp only [Tryz.ntmps205, List.size_toArray, List.length_cons, List.length_nil, Nat.reduceAdd, Nat.reduceSub, Array.replicate_succ, Array.replicate_zero, List.push_toArray, List.append_toArray, List.nil_append, List.cons_append]
  gi_wp2
  go_end0
  exact ⟨⟨_, rfl⟩, rfl⟩

theorem back318 (n l bs os cap : Nat) (x : Option Addr) (w : World) (k : w.cell? ⟨bs, os, none⟩ = some (.slice x 0 cap)) : CallsIn Fence.wide n Tryz.prog 318 #[.func (.yield l) #[] #[], .pointer (some ⟨bs, os, none⟩)] w fun e w' => (∃ v, e = .returned v) ∧ w' = w := by
  refine callsIn_wide.2 ?_
  go_enter Tryz.func318, Tryz.ntmps318
  go_wp2_with fail
  go_loopw [3] (fun v wr => v = .int .i64 (-1) ∧ w = wr) (fun _ _ => (0 : Nat))
  case atStart => exact ⟨rfl, rfl⟩
  case round =>
    obtain ⟨rfl, rfl⟩ := hrel
    go_wp2_with fail
    go_end0
    exact ⟨⟨_, rfl⟩, rfl⟩

set_option maxRecDepth 100000 in
theorem one318 (n l bs os b off cap : Nat) (cs : List Value) (t : Bool) (W : World) (hs : W.cell? ⟨bs, os, none⟩ = some (.slice (some ⟨b, off, none⟩) 1 cap)) (hl : cs.length = 2) (hx : ∀ i v, cs[i]? = some v → W.cell? ⟨b, off + i, none⟩ = some v) (h1n : 1 ≤ n) (R : World → Prop)
    (hY : ∀ W', W'.heap = W.heap → (W'.os = W.os ∧ W'.output = W.output ∧ W'.tape = W.tape) → YieldAt Fence.wide (n - 1) Tryz.prog l #[.int .i64 0, .agg cs.toArray] W' fun e W'' => e = .returned (.bool t) ∧ R W'') :
    CallsIn Fence.wide n Tryz.prog 318 #[.func (.yield l) #[] #[], .pointer (some ⟨bs, os, none⟩)] W fun e W' => (∃ v, e = .returned v) ∧ R W' := by
  match cs, hl with
  | [c0, c1], _ =>
  have e0 : W.cell? ⟨b, off, none⟩ = some c0 := hx 0 c0 rfl
  have e1 : W.cell? ⟨b, off + 1, none⟩ = some c1 := hx 1 c1 rfl
  clear hx
  refine callsIn_of_wp Tryz.func318 rfl trivial ?_ rfl
  simp only [Tryz.ntmps318, List.size_toArray, List.length_cons, List.length_nil, Nat.reduceAdd, Nat.reduceSub, Array.replicate_succ, Array.replicate_zero, List.push_toArray, List.append_toArray, List.nil_append, List.cons_append]
  gi_wp2
  gi_loopw [3] (fun i wr => (i = .int .i64 0 ∧ wr = W) ∨ (i = .int .i64 (-1) ∧ R wr))
    (fun i _ => (intOf i + 1).toNat)
  case atStart => exact .inl ⟨rfl, rfl⟩
  case round =>
    rcases hrel with ⟨rfl, rfl⟩ | ⟨rfl, hR⟩
    · obtain ⟨fn, tmps, assign, body, hy, hRd⟩ := hY wr rfl ⟨rfl, rfl, rfl⟩
      clear hY
      gi_wp2
      refine hRd.mono ?_
      rintro e w2 ⟨rfl, hR2⟩
      gi_wp2
      · exact ⟨rfl, _, results_none Tryz.results318 _ _ _, ⟨_, rfl⟩, hR2⟩
      · exact ⟨.inr ⟨rfl, hR2⟩, by simp [intOf]⟩
    · gi_wp2
      go_end0
      exact ⟨⟨_, rfl⟩, hR⟩
end Go.Proofs.YtpppaheennkkpaaGreatDoor

/- The deferred closures that look for a panic, where there is none. -/
namespace Go.Proofs.YtpppaheennkkpaaGreatDoor
open Go.RowKit Go.Shelf

theorem idle6 (n : Nat) (a b : Value) (w : World) : CallsDIn Fence.wide n Tryz.prog 6 #[a, b] .returning w fun e u' w' => (∃ v, e = .returned v) ∧ u' = .returning ∧ w' = w := by
  refine callsDIn_of_wpSIn Tryz.func6 rfl trivial fun c₀ cs hu => ?_
  apply wpSIn_seq
  apply wpSIn_region
  simp [wpOpsSIn, go_sem, recoverD, hu, Tryz.ntmps6, Exit.thenS]
  apply wpSIn_seq
  apply wpSIn_region
  simp [wpOpsSIn, go_sem, Exit.thenS, Tryz.underlying20]
  refine wpSIn_cond (t := false) (by simp [Act.eval, Array.replicate]) ?_
  simp only [Bool.false_eq_true, if_false]
  refine wpSIn_of_wpIn rfl (wpIn_skip ?_)
  cases c₀
  simp_all [bodyPostS, results, Tryz.results6]
theorem idle60 (n : Nat) (a b c : Value) (w : World) : CallsDIn Fence.wide n Tryz.prog 60 #[a, b, c] .returning w fun e u' w' => (∃ v, e = .returned v) ∧ u' = .returning ∧ w' = w := by
  refine callsDIn_of_wpSIn Tryz.func60 rfl trivial fun c₀ cs hu => ?_
  apply wpSIn_seq
  apply wpSIn_region
  simp [wpOpsSIn, go_sem, recoverD, hu, Tryz.ntmps60, Exit.thenS]
  apply wpSIn_seq
  apply wpSIn_region
  simp [wpOpsSIn, go_sem, Exit.thenS, Tryz.underlying20]
  refine wpSIn_cond (t := false) (by simp [Act.eval, Array.replicate]) ?_
  simp only [Bool.false_eq_true, if_false]
  refine wpSIn_of_wpIn rfl (wpIn_skip ?_)
  cases c₀
  simp_all [bodyPostS, results, Tryz.results60]
theorem idle62 (n : Nat) (a b c : Value) (w : World) : CallsDIn Fence.wide n Tryz.prog 62 #[a, b, c] .returning w fun e u' w' => (∃ v, e = .returned v) ∧ u' = .returning ∧ w' = w := by
  refine callsDIn_of_wpSIn Tryz.func62 rfl trivial fun c₀ cs hu => ?_
  apply wpSIn_seq
  apply wpSIn_region
  simp [wpOpsSIn, go_sem, recoverD, hu, Tryz.ntmps62, Exit.thenS]
  apply wpSIn_seq
  apply wpSIn_region
  simp [wpOpsSIn, go_sem, Exit.thenS, Tryz.underlying20]
  refine wpSIn_cond (t := false) (by simp [Act.eval, Array.replicate]) ?_
  simp only [Bool.false_eq_true, if_false]
  refine wpSIn_of_wpIn rfl (wpIn_skip ?_)
  cases c₀
  simp_all [bodyPostS, results, Tryz.results62]
end Go.Proofs.YtpppaheennkkpaaGreatDoor
