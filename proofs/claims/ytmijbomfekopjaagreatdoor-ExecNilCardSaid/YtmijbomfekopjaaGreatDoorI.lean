/- A sector read through the cache: no group has it. -/
import Derived.Test.YtmijbomfekopjaaGreatDoorH
import Derived.RangeFuncNested
import Derived.RangeFuncBound
import Derived.RangeFuncCalls
import Derived.RangeFuncLeaves
import Derived.Shelf.Abstract
import Derived.Shelf.RegionOpen
import Derived.WalkKit
import Derived.OwnWalkIn
import Derived.TacticsInMore
import Derived.LoopNIn
import Derived.LoopIn
namespace Go.Proofs.YtmijbomfekopjaaGreatDoor
open Go.RowKit Go.Shelf

theorem backward_ok (w : World) : Calls Tryz.prog 52 #[.slice none 0 0] w fun e w' => ∃ bb, e = .returned (.func (.func 78) #[] #[.pointer (some ⟨bb, 0, none⟩)]) ∧ Mod No w w' ∧ w'.heap[bb]? = some (.cells #[.slice none 0 0] 62 (0, 0)) ∧ w.heap.size ≤ bb := by
  have hmf : ∀ (fn : Fn) (first cap : Array Value) (w : World), (Instr.makeFunc fn first cap).run Tryz.prog w = .ok (.func fn first cap) w := fun _ _ _ _ => rfl
  go_enter Tryz.func52, Tryz.ntmps52
  go_wp2_with fail
  go_ret
  exact ⟨w.heap.size, rfl, (Mod.refl No w).alloc _, blk_new _ _, Nat.le_refl _⟩
theorem back78 (l bb : Nat) (w : World) (h : w.heap[bb]? = some (.cells #[.slice none 0 0] 62 (0, 0))) : Calls Tryz.prog 78 #[.func (.yield l) #[] #[], .pointer (some ⟨bb, 0, none⟩)] w fun e w' => (∃ v, e = .returned v) ∧ w = w' := by
  have k : w.cell? ⟨bb, 0, none⟩ = some (.slice none 0 0) := blk_cell h rfl
  clear h
  go_enter Tryz.func78, Tryz.ntmps78
  go_wp2_with fail
  go_loopw [3] (fun v wr => v = .int .i64 (-1) ∧ w = wr) (fun _ _ => (0 : Nat))
  case atStart => exact ⟨rfl, rfl⟩
  case round =>
    obtain ⟨rfl, rfl⟩ := hrel
    go_wp2_with fail
    go_end0
    exact ⟨⟨_, rfl⟩, rfl⟩
set_option maxRecDepth 100000 in
set_option maxHeartbeats 4000000 in
theorem cread_ok (cb lb cp db m1 m2 m3 ck s : Nat) (le : Array Value) (w : World) (h : CacheAt w cb lb cp db m1 m2 m3 ck (.map none) (.slice none 0 0) le) (hs : s < 4) :
    Calls Tryz.prog 25 #[.pointer (some ⟨cb, 0, none⟩), .int .i64 0, .int .i64 (s : Int)] w fun e w' => ∃ g c, e = .returned (.tuple #[.slice (some ⟨g, 0, none⟩) 64 c, .int .i64 0]) ∧ Mod No w w' ∧ Row64 w' (.slice (some ⟨g, 0, none⟩) 64 c) := by
  have H0 := Lib.hid (h.later (((Mod.refl No w).alloc (.cells #[.slice none 0 0] 23)).alloc (.cells #[.int .i64 0] 26)) (fun x => x))
  have N0 := Lib.hid (((Mod.refl No w).alloc (.cells #[.slice none 0 0] 23)).alloc (.cells #[.int .i64 0] 26))
  have r6 := Lib.hid (show ((w.alloc (.cells #[.slice none 0 0] 23)).alloc (.cells #[.int .i64 0] 26)).heap[w.heap.size]? = some (.cells #[.slice none 0 0] 23 (0, 0)) from blk_old (blk_new _ _))
  have r7 := Lib.hid (show ((w.alloc (.cells #[.slice none 0 0] 23)).alloc (.cells #[.int .i64 0] 26)).heap[w.heap.size + 1]? = some (.cells #[.int .i64 0] 26 (0, 0)) from blk_new' _ (by simp))
  clear h
  generalize hw0 : (w.alloc (.cells #[.slice none 0 0] 23)).alloc (.cells #[.int .i64 0] 26) = w0 at *
  refine (callsIn_wide (n := 4)).1 ?_
  refine callsIn_of_wp_marks Tryz.func25 rfl trivial ?_ rfl
  simp only [Tryz.ntmps25, List.size_toArray, List.length_cons, List.length_nil, Nat.reduceAdd, Nat.reduceSub, Array.replicate_succ, Array.replicate_zero, List.push_toArray, List.append_toArray, List.nil_append, List.cons_append]
  gi_wp2
  refine ⟨trivial, callsIn_wide.2 ((may_ok cb lb cp db m1 m2 m3 ck _ _ le s w0 H0.out hs).mono ?_)⟩
  rintro e w1 ⟨rfl, rfl⟩
  have K1 := Lib.hid (blk_new w0 (.cells #[.int .i64 0, .int .i64 (s : Int)] 108))
  have H1 := Lib.hid (H0.out.later ((Mod.refl No w0).alloc (.cells #[.int .i64 0, .int .i64 (s : Int)] 108)) (fun x => x))
  have a6 := Lib.hid (blk_old (o' := .cells #[.int .i64 0, .int .i64 (s : Int)] 108) r6.out)
  have a7 := Lib.hid (blk_old (o' := .cells #[.int .i64 0, .int .i64 (s : Int)] 108) r7.out)
  have N1 := Lib.hid (N0.out.alloc (.cells #[.int .i64 0, .int .i64 (s : Int)] 108))
  generalize hw2 : w0.alloc (.cells #[.int .i64 0, .int .i64 (s : Int)] 108) = w2 at *
  have d1 : w2.cell? ⟨cb, 1, none⟩ = some (.map none) := blk_cell H1.out.cell rfl
  have d2 : w2.cell? ⟨w0.heap.size, 0, none⟩ = some (.int .i64 0) := blk_cell K1.out rfl
  have d3 : w2.cell? ⟨w0.heap.size, 1, none⟩ = some (.int .i64 (s : Int)) := blk_cell K1.out rfl
  have d4 : ∀ w, (Instr.lookup 58 (.map none) (.agg #[.int .i64 0, .int .i64 (s : Int)]) true).run Tryz.prog w = .ok (.tuple #[.slice none 0 0, .bool false]) w := fun w => look_nil (s : Int) w
  gi_wp2
  gi_region
  have H3 := Lib.hid (H1.out.later ((Mod.refl No w2).drew) (fun x => x))
  have b6 := Lib.hid (show w2.drew.heap[w.heap.size]? = _ from a6.out)
  have b7 := Lib.hid (show w2.drew.heap[w.heap.size + 1]? = _ from a7.out)
  have N3 := Lib.hid (N1.out.drew)
  clear d1 d2 d3 d4 K1 H1 a6 a7 N1
  generalize w2.drew = w3 at *
  have d5 : w3.cell? ⟨cb, 3, none⟩ = some (.slice none 0 0) := blk_cell H3.out.cell rfl
  gi_wp2
  refine ⟨trivial, callsIn_wide.2 ((backward_ok w3).mono ?_)⟩
  rintro e w4 ⟨bb, rfl, hm4, hb4, hbb⟩
  have H4 := Lib.hid (H3.out.later hm4 (fun x => x))
  have B4 := Lib.hid hb4
  have N4 := Lib.hid (N3.out.then hm4)
  have e6 := Lib.hid (hm4.blk b6.out (fun x => x))
  have e7 := Lib.hid (hm4.blk b7.out (fun x => x))
  clear d5 H3 b6 b7 N3 hm4 hb4
  gi_wp2
  refine wpIn_rangeFunc_ownF (α := Empty) rfl (by omega) (gf := 78) (lb := #[.pointer (some ⟨bb, 0, none⟩)]) rfl trivial (enters_of Tryz.func78 (by kernel_rfl) rfl) (encs := fun x => x.elim) (Kp := Below w4.heap.size) (S := fun _ => True) (Sp := fun _ => False) (N := 0) (w0 := w4)
    (fun l J Jx W hW _ _ _ hJ => callsIn_wide.2 ((back78 l bb W ((Mod.of_below hW).blk B4.out (fun x => x))).mono (fun e W' he => ⟨he.1, .inl ⟨[], trivial, by rw [← he.2]; exact hJ⟩⟩)))
    belowK_t (belowK_b (Nat.le_refl _)) (Below.refl _ _) (fun x => x.elim)
    (fun _ W => Below w4.heap.size w4 W) (fun _ _ _ => False) (ownFrom_below (Nat.le_refl _) (Nat.le_refl _)) (fun _ _ _ _ _ hs _ _ => hs) (Below.refl _ _) (fun x => x.elim) (fun l x => x.elim) (fun l pre x => x.elim) ?done ?stop
  case stop =>
    rintro D c pre W _ h _
    exact h.elim
  case done =>
    rintro D ys W hD _ hB hK
    have N5 := Lib.hid (Mod.of_below hB)
    have H5 := Lib.hid (H4.out.later N5.out (fun x => x))
    have f6 := Lib.hid (N5.out.blk e6.out (fun x => x))
    have f7 := Lib.hid (N5.out.blk e7.out (fun x => x))
    have N6 := Lib.hid (N4.out.then N5.out)
    have HK := Lib.hid hK
    have d1 : W.cell? ⟨cb, 0, none⟩ = some (.slice (some ⟨lb, 0, none⟩) 1 cp) := blk_cell H5.out.cell rfl
    have d2 : W.cell? ⟨lb, 0, none⟩ = some (.pointer (some ⟨db, 0, none⟩)) := blk_cell H5.out.row H5.out.one
    have hl7 := blk_lt e7.out
    clear hB hK H4 B4 e6 e7 N4 N5
    gi_wp2
    refine ⟨trivial, callsIn_wide.2 ((dread_ok db m1 m2 m3 ck s W H5.out.dev hs).mono ?_)⟩
    rintro e w6 ⟨g6, c6, rfl, hm6, hg6, hr6⟩
    have hDW := blk_lt HK.out
    have g7 := Lib.hid (hm6.blk f7.out (fun x => x))
    have g6' := Lib.hid (hm6.blk f6.out (fun x => x))
    have hK6 := Lib.hid (hm6.blk HK.out (fun x => x))
    have N7 := Lib.hid (N6.out.then hm6)
    have R6 := Lib.hid hr6
    have s1 : w6.cell? ⟨w.heap.size, 0, none⟩ = some (.slice none 0 0) := blk_cell g6'.out rfl
    have s2 : w6.cell? ⟨w.heap.size + 1, 0, none⟩ = some (.int .i64 0) := blk_cell g7.out rfl
    have t1 : w6.frozen? ⟨w.heap.size, 0, none⟩ = false := blk_free g6'.out
    have t2 : w6.frozen? ⟨w.heap.size + 1, 0, none⟩ = false := blk_free g7.out
    clear d1 d2 f6 f7 HK N6 hm6 hr6
    gi_wp2
    have Z6 := blk_set_other (a := ⟨w.heap.size + 1, 0, none⟩) (v := .int .i64 0) (blk_set (i := 0) (.slice (some ⟨g6, 0, none⟩) 64 c6) g6'.out) (show w.heap.size ≠ w.heap.size + 1 by omega)
    have Z7 := blk_set (i := 0) (.int .i64 0) (blk_set_other (a := ⟨w.heap.size, 0, none⟩) (v := .slice (some ⟨g6, 0, none⟩) 64 c6) g7.out (show w.heap.size + 1 ≠ w.heap.size by omega))
    have ZD := blk_set_other (a := ⟨w.heap.size + 1, 0, none⟩) (v := .int .i64 0) (blk_set_other (a := ⟨w.heap.size, 0, none⟩) (v := .slice (some ⟨g6, 0, none⟩) 64 c6) hK6.out (show D ≠ w.heap.size by omega)) (show D ≠ w.heap.size + 1 by omega)
    refine ⟨by simp, .inl ⟨_, _, rfl, run_takeDeferred ZD, ?_⟩⟩
    have NZ : Mod No w ((w6.setCell ⟨w.heap.size, 0, none⟩ (.slice (some ⟨g6, 0, none⟩) 64 c6)).setCell ⟨w.heap.size + 1, 0, none⟩ (.int .i64 0)) :=
      (N7.out.setCell (p := ⟨w.heap.size, 0, none⟩) (fun h => absurd (show w.heap.size < w.heap.size from h) (by omega)) _).setCell (p := ⟨w.heap.size + 1, 0, none⟩) (fun h => absurd (show w.heap.size + 1 < w.heap.size from h) (by omega)) _
    have RZ : Row64 (((w6.setCell ⟨w.heap.size, 0, none⟩ (.slice (some ⟨g6, 0, none⟩) 64 c6)).setCell ⟨w.heap.size + 1, 0, none⟩ (.int .i64 0)).putObj D (.deferred none)) (.slice (some ⟨g6, 0, none⟩) 64 c6) := by
      have q : ∀ g' c', (Value.slice (some ⟨g6, 0, none⟩) 64 c6) = .slice (some ⟨g', 0, none⟩) 64 c' → g' = g6 := fun g' c' e => by injection e with e1; injection e1 with e1; injection e1 with e1; exact e1.symm
      refine ((R6.out.later ((Mod.refl (Just w.heap.size) w6).setCell (p := ⟨w.heap.size, 0, none⟩) (fun _ => (rfl : w.heap.size = w.heap.size)) _) (fun g' c' e => not_just (by rw [q g' c' e]; omega))).later ((Mod.refl (Just (w.heap.size + 1)) _).setCell (p := ⟨w.heap.size + 1, 0, none⟩) (fun _ => (rfl : w.heap.size + 1 = w.heap.size + 1)) _) (fun g' c' e => not_just (by rw [q g' c' e]; omega))).later ((Mod.refl (Just D) _).putObj (fun _ => (rfl : D = D)) _) (fun g' c' e => not_just (by rw [q g' c' e]; omega))
    have Y6 : (((w6.setCell ⟨w.heap.size, 0, none⟩ (.slice (some ⟨g6, 0, none⟩) 64 c6)).setCell ⟨w.heap.size + 1, 0, none⟩ (.int .i64 0)).putObj D (.deferred none)).heap[w.heap.size]? = _ := (Array.getElem?_setIfInBounds_ne (show D ≠ w.heap.size by omega)).trans Z6
    have Y7 : (((w6.setCell ⟨w.heap.size, 0, none⟩ (.slice (some ⟨g6, 0, none⟩) 64 c6)).setCell ⟨w.heap.size + 1, 0, none⟩ (.int .i64 0)).putObj D (.deferred none)).heap[w.heap.size + 1]? = _ := (Array.getElem?_setIfInBounds_ne (show D ≠ w.heap.size + 1 by omega)).trans Z7
    have MZ : Mod No w (((w6.setCell ⟨w.heap.size, 0, none⟩ (.slice (some ⟨g6, 0, none⟩) 64 c6)).setCell ⟨w.heap.size + 1, 0, none⟩ (.int .i64 0)).putObj D (.deferred none)) := by
      have := NZ.putObj (m := D) (fun h => absurd h (by omega)) (.deferred none)
      exact this
    generalize ((w6.setCell ⟨w.heap.size, 0, none⟩ (.slice (some ⟨g6, 0, none⟩) 64 c6)).setCell ⟨w.heap.size + 1, 0, none⟩ (.int .i64 0)).putObj D (.deferred none) = wE at *
    have y6 : wE.cell? ⟨w.heap.size, 0, none⟩ = some (.slice (some ⟨g6, 0, none⟩) 64 c6) := blk_cell Y6 rfl
    have y7 : wE.cell? ⟨w.heap.size + 1, 0, none⟩ = some (.int .i64 0) := blk_cell Y7 rfl
    exact ⟨.tuple #[.slice (some ⟨g6, 0, none⟩) 64 c6, .int .i64 0], by simp [results, Tryz.results25, go_sem, y6, y7], g6, c6, rfl, MZ, RZ⟩
end Go.Proofs.YtmijbomfekopjaaGreatDoor
