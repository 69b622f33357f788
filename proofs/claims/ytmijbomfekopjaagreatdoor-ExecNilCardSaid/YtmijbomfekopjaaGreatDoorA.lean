/- A device of four sectors, a cache over it: made. -/
import Derived.Test.YtmijbomfekopjaaGreatDoorR
import Derived.Test.YtmijbomfekopjaaGreatDoorChecked
namespace Go.Proofs.YtmijbomfekopjaaGreatDoor
open Go.RowKit

/-- A device of four sectors that was never written. -/
structure DevAt (w : World) (db m1 m2 m3 ck : Nat) : Prop where
  cell : w.heap[db]? = some (.cells #[.int .i64 4, .map (some m1), .map (some m2), .map (some m3), .bool false, .slice none 0 0, .slice none 0 0, .pointer (some ⟨ck, 0, none⟩)] 102 (0, 0))
  now : w.heap[m2]? = some (.map #[] 0)
  bad : w.heap[m3]? = some (.map #[] 0)
theorem DevAt.later {w w' : World} {db m1 m2 m3 ck : Nat} (h : DevAt w db m1 m2 m3 ck) {S : Nat → Prop} (hm : Mod S w w') (h1 : ¬ S db) (h2 : ¬ S m2) (h3 : ¬ S m3) : DevAt w' db m1 m2 m3 ck :=
  ⟨hm.blk h.cell h1, hm.blk h.now h2, hm.blk h.bad h3⟩
set_option maxHeartbeats 1000000 in
theorem dev_new (w : World) : Calls Tryz.prog 12 #[.int .i64 4] w fun e w' => ∃ db m1 m2 m3 ck, e = .returned (.tuple #[.pointer (some ⟨db, 0, none⟩), .int .i64 0]) ∧ Mod No w w' ∧ DevAt w' db m1 m2 m3 ck ∧ w.heap.size ≤ db ∧ w.heap.size ≤ m2 ∧ w.heap.size ≤ m3 := by
  have hmm := @run_makeMap Tryz.prog
  go_enter Tryz.func12, Tryz.ntmps12
  go_wp2_with fail
  refine bodyPost_ret (v := .tuple #[.pointer (some ⟨w.heap.size + 1 + 1 + 1 + 1, 0, none⟩), .int .i64 0]) (by simp [results, Tryz.results12, go_sem]) rfl ?_
  refine ⟨w.heap.size + 1 + 1 + 1 + 1, w.heap.size, w.heap.size + 1, w.heap.size + 1 + 1, w.heap.size + 1 + 1 + 1, rfl, (((((Mod.refl _ _).alloc _).alloc _).alloc _).alloc _).alloc _, ⟨blk_new' _ (by simp), ?_, ?_⟩, by omega, by omega, by omega⟩
  · exact blk_old (blk_old (blk_old (blk_new' _ (by simp))))
  · exact blk_old (blk_old (blk_new' _ (by simp)))
theorem fits_ok (a n s : Nat) (w : World) (h1 : a ≤ s) (h2 : n ≤ s - a) (hs : s < 1000000) : Calls Tryz.prog 14 #[.int .i64 (a : Int), .int .i64 (n : Int), .int .i64 (s : Int)] w fun e w' => e = .returned (.bool true) ∧ w = w' := by
  have h3 : decide ((n : Int) ≤ (s : Int) - (a : Int)) = true := by simp; omega
  go_enter Tryz.func14, Tryz.ntmps14
  go_wp2_with fail
  go_ret
  exact ⟨rfl, rfl⟩
theorem back_any (cb : Nat) (c0 c1 c2 c3 : Value) (w : World) (h : w.heap[cb]? = some (.cells #[c0, c1, c2, c3] 64 (0, 0))) :
    Calls Tryz.prog 6 #[.pointer (some ⟨cb, 0, none⟩)] w fun e w' => e = .returned (.tuple #[]) ∧ Mod (Just cb) w w' ∧ w'.heap[cb]? = some (.cells #[c0, .map none, .slice none 0 0, c3] 64 (0, 0)) := by
  have k1 : w.cell? ⟨cb, 1, none⟩ = some c1 := blk_cell h rfl
  have k2 : w.cell? ⟨cb, 2, none⟩ = some c2 := blk_cell h rfl
  have f1 : w.frozen? ⟨cb, 1, none⟩ = false := blk_free h
  have f2 : w.frozen? ⟨cb, 2, none⟩ = false := blk_free h
  have H := Lib.hid h
  clear h
  go_enter Tryz.func6, Tryz.ntmps6
  go_wp2_with fail
  go_end0
  refine ⟨rfl, ((Mod.refl (Just cb) _).setCell (p := ⟨cb, 1, none⟩) (fun _ => (rfl : cb = cb)) _).setCell (p := ⟨cb, 2, none⟩) (fun _ => (rfl : cb = cb)) _, ?_⟩
  have := blk_set (i := 2) (.slice none 0 0) (blk_set (i := 1) (.map none) H.out)
  simpa using this
end Go.Proofs.YtmijbomfekopjaaGreatDoor
