/- A plan of one disk: a sector read through it. -/
import Derived.Test.YtmijbomfekopjaaGreatDoorI
namespace Go.Proofs.YtmijbomfekopjaaGreatDoor
open Go.RowKit

set_option maxRecDepth 100000 in
set_option maxHeartbeats 4000000 in
theorem mread_ok (sb sc cb lb cp db m1 m2 m3 ck s : Nat) (le : Array Value) (w : World) (h : CacheAt w cb lb cp db m1 m2 m3 ck (.map none) (.slice none 0 0) le) (hs4 : s < 4)
    (hs : w.heap[sb]? = some (.cells stepC 33 (0, 0))) :
    Calls Tryz.prog 9 #[.agg #[.slice (some ⟨sb, 0, none⟩) 1 sc, .int .i64 0, .bool false, .pointer (some ⟨cb, 0, none⟩)], .int .i64 0, .int .i64 (s : Int)] w fun e w' => ∃ g c, e = .returned (.tuple #[.slice (some ⟨g, 0, none⟩) 64 c, .nilIface]) ∧ Mod No w w' ∧ Row64 w' (.slice (some ⟨g, 0, none⟩) 64 c) := by
  have B0 := Lib.hid (blk_new w (.cells #[.slice (some ⟨sb, 0, none⟩) 1 sc, .int .i64 0, .bool false, .pointer (some ⟨cb, 0, none⟩)] 41))
  have S0 := Lib.hid (blk_old (o' := .cells #[.slice (some ⟨sb, 0, none⟩) 1 sc, .int .i64 0, .bool false, .pointer (some ⟨cb, 0, none⟩)] 41) hs)
  have H := Lib.hid h
  clear h hs
  have k0 : (w.alloc (.cells #[.slice (some ⟨sb, 0, none⟩) 1 sc, .int .i64 0, .bool false, .pointer (some ⟨cb, 0, none⟩)] 41)).cell? ⟨w.heap.size, 0, none⟩ = some (.slice (some ⟨sb, 0, none⟩) 1 sc) := blk_cell B0.out rfl
  go_enter Tryz.func9, Tryz.ntmps9
  go_wp2_with (first
    | (refine wpList_load_at rfl 33 _ rfl sb 0 rfl 33 stepC stepC (0, 0) _ S0.out Tryz.underlying33 rfl (by kernel_rfl) (fun j v hv => by rw [Nat.zero_add]; exact hv) ?_)
    | (refine wpList_store_row rfl 33 _ _ rfl (w.heap.size + 1) stepC rfl rfl 33 zstepC (blk_new' _ (by simp)) (by kernel_rfl) rfl (by kernel_rfl) ?_; refine hold ?_))
  unfold Hold
  have X1 := Lib.hid (show (((w.alloc (.cells #[.slice (some ⟨sb, 0, none⟩) 1 sc, .int .i64 0, .bool false, .pointer (some ⟨cb, 0, none⟩)] 41)).alloc (.cells #[.int .i64 0, .int .i64 0, .int .i64 0, .slice none 0 0, .slice none 0 0, .int .i64 0, .int .i64 0, .int .i64 0, .slice none 0 0, .slice none 0 0] 33)).setRow (w.heap.size + 1) stepC).heap[w.heap.size]? = some (.cells #[.slice (some ⟨sb, 0, none⟩) 1 sc, .int .i64 0, .bool false, .pointer (some ⟨cb, 0, none⟩)] 41 (0, 0)) from blk_setRow_other (blk_old B0.out) (by omega))
  have X2 := Lib.hid (show (((w.alloc (.cells #[.slice (some ⟨sb, 0, none⟩) 1 sc, .int .i64 0, .bool false, .pointer (some ⟨cb, 0, none⟩)] 41)).alloc (.cells #[.int .i64 0, .int .i64 0, .int .i64 0, .slice none 0 0, .slice none 0 0, .int .i64 0, .int .i64 0, .int .i64 0, .slice none 0 0, .slice none 0 0] 33)).setRow (w.heap.size + 1) stepC).heap[w.heap.size + 1]? = some (.cells stepC 33 (0, 0)) from blk_setRow (blk_new' _ (by simp)))
  have N2 := Lib.hid (show Mod No w (((w.alloc (.cells #[.slice (some ⟨sb, 0, none⟩) 1 sc, .int .i64 0, .bool false, .pointer (some ⟨cb, 0, none⟩)] 41)).alloc (.cells #[.int .i64 0, .int .i64 0, .int .i64 0, .slice none 0 0, .slice none 0 0, .int .i64 0, .int .i64 0, .int .i64 0, .slice none 0 0, .slice none 0 0] 33)).setRow (w.heap.size + 1) stepC) from (((Mod.refl No w).alloc _).alloc _).setRow _ _ (fun h => absurd (show w.heap.size + 1 < w.heap.size from h) (by omega)))
  generalize (((w.alloc (.cells #[.slice (some ⟨sb, 0, none⟩) 1 sc, .int .i64 0, .bool false, .pointer (some ⟨cb, 0, none⟩)] 41)).alloc (.cells #[.int .i64 0, .int .i64 0, .int .i64 0, .slice none 0 0, .slice none 0 0, .int .i64 0, .int .i64 0, .int .i64 0, .slice none 0 0, .slice none 0 0] 33)).setRow (w.heap.size + 1) stepC) = w2 at *
  have C2 := Lib.hid (H.out.later N2.out (fun x => x))
  have d1 : w2.cell? ⟨w.heap.size, 3, none⟩ = some (.pointer (some ⟨cb, 0, none⟩)) := blk_cell X1.out rfl
  have d2 : w2.cell? ⟨w.heap.size + 1, 0, none⟩ = some (.int .i64 1) := blk_cell X2.out rfl
  have d3 : w2.cell? ⟨w.heap.size + 1, 2, none⟩ = some (.int .i64 0) := blk_cell X2.out rfl
  clear k0 B0 S0 H
  go_wp2_with fail
  refine (cread_ok cb lb cp db m1 m2 m3 ck s le w2 C2.out hs4).mono ?_
  rintro e w3 ⟨g, c, rfl, hm3, hr3⟩
  have R3 := Lib.hid hr3
  have N3 := Lib.hid (N2.out.then hm3)
  clear hr3 hm3
  go_wp2_with fail
  refine (failed_ok _).mono ?_
  rintro e w4 ⟨rfl, rfl⟩
  go_wp2_with fail
  refine bodyPost_ret (v := .tuple #[.slice (some ⟨g, 0, none⟩) 64 c, .nilIface]) (by simp [results, Tryz.results9, go_sem]) rfl ?_
  exact ⟨g, c, rfl, N3.out, R3.out⟩
end Go.Proofs.YtmijbomfekopjaaGreatDoor
