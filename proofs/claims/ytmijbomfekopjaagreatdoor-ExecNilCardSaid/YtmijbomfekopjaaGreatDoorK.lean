/- What may be asked of a plan of one disk. -/
import Derived.Test.YtmijbomfekopjaaGreatDoorJ
import Derived.Deep.QuietTactic
import Derived.BigQuiet
namespace Go.Proofs.YtmijbomfekopjaaGreatDoor
open Go.RowKit

set_option maxRecDepth 100000 in
set_option maxHeartbeats 4000000 in
theorem req_store (sb sc cb zb zc : Nat) (w : World) (hs : w.heap[sb]? = some (.cells stepC 33 (0, 0))) :
    Calls Tryz.prog 7 #[.agg #[.slice (some ⟨sb, 0, none⟩) 1 sc, .int .i64 0, .bool false, .pointer (some ⟨cb, 0, none⟩)], .agg #[.int .i64 1, .int .i64 1, .int .i64 1, .slice (some ⟨zb, 0, none⟩) 64 zc, .bool false]] w fun e w' => e = .returned (.tuple #[.int .i64 0, .bool true]) ∧ Mod No w w' := by
  have B0 := Lib.hid (blk_old (o' := .cells #[.int .i64 1, .int .i64 1, .int .i64 1, .slice (some ⟨zb, 0, none⟩) 64 zc, .bool false] 25) (blk_new w (.cells #[.slice (some ⟨sb, 0, none⟩) 1 sc, .int .i64 0, .bool false, .pointer (some ⟨cb, 0, none⟩)] 41)))
  have B1 := Lib.hid (show ((w.alloc (.cells #[.slice (some ⟨sb, 0, none⟩) 1 sc, .int .i64 0, .bool false, .pointer (some ⟨cb, 0, none⟩)] 41)).alloc (.cells #[.int .i64 1, .int .i64 1, .int .i64 1, .slice (some ⟨zb, 0, none⟩) 64 zc, .bool false] 25)).heap[w.heap.size + 1]? = some (.cells #[.int .i64 1, .int .i64 1, .int .i64 1, .slice (some ⟨zb, 0, none⟩) 64 zc, .bool false] 25 (0, 0)) from blk_new' _ (by simp))
  have S0 := Lib.hid (blk_old (o' := .cells #[.int .i64 1, .int .i64 1, .int .i64 1, .slice (some ⟨zb, 0, none⟩) 64 zc, .bool false] 25) (blk_old (o' := .cells #[.slice (some ⟨sb, 0, none⟩) 1 sc, .int .i64 0, .bool false, .pointer (some ⟨cb, 0, none⟩)] 41) hs))
  have N0 := Lib.hid (((Mod.refl No w).alloc (.cells #[.slice (some ⟨sb, 0, none⟩) 1 sc, .int .i64 0, .bool false, .pointer (some ⟨cb, 0, none⟩)] 41)).alloc (.cells #[.int .i64 1, .int .i64 1, .int .i64 1, .slice (some ⟨zb, 0, none⟩) 64 zc, .bool false] 25))
  clear hs
  generalize hw0 : (w.alloc (.cells #[.slice (some ⟨sb, 0, none⟩) 1 sc, .int .i64 0, .bool false, .pointer (some ⟨cb, 0, none⟩)] 41)).alloc (.cells #[.int .i64 1, .int .i64 1, .int .i64 1, .slice (some ⟨zb, 0, none⟩) 64 zc, .bool false] 25) = w0 at *
  have a0 : w0.cell? ⟨w.heap.size, 0, none⟩ = some (.slice (some ⟨sb, 0, none⟩) 1 sc) := blk_cell B0.out rfl
  have a1 : w0.cell? ⟨w.heap.size, 1, none⟩ = some (.int .i64 0) := blk_cell B0.out rfl
  have a2 : w0.cell? ⟨w.heap.size, 2, none⟩ = some (.bool false) := blk_cell B0.out rfl
  have c0 : w0.cell? ⟨w.heap.size + 1, 0, none⟩ = some (.int .i64 1) := blk_cell B1.out rfl
  have c1 : w0.cell? ⟨w.heap.size + 1, 1, none⟩ = some (.int .i64 1) := blk_cell B1.out rfl
  have c2 : w0.cell? ⟨w.heap.size + 1, 2, none⟩ = some (.int .i64 1) := blk_cell B1.out rfl
  have c3 : w0.cell? ⟨w.heap.size + 1, 3, none⟩ = some (.slice (some ⟨zb, 0, none⟩) 64 zc) := blk_cell B1.out rfl
  have s1 : w0.cell? ⟨sb, 1, none⟩ = some (.int .i64 4) := blk_cell S0.out rfl
  have hf : ∀ w, Calls Tryz.prog 14 #[.int .i64 1, .int .i64 1, .int .i64 4] w fun e w' => e = .returned (.bool true) ∧ w = w' := fun w => fits_ok 1 1 4 w (by omega) (by omega) (by omega)
  go_enter Tryz.func7, Tryz.ntmps7
  go_wp2_with fail
  go_quiet ((go_at_call 14; refine Calls.quiet_of_same ((hf _).mono fun _ _ h => ⟨h.1, h.2.symm⟩)))
  go_wp2_with fail
  refine bodyPost_ret (v := .tuple #[.int .i64 0, .bool true]) (by simp [results, Tryz.results7, go_sem]) rfl ?_
  exact ⟨rfl, N0.out.drewN nq⟩
set_option maxRecDepth 100000 in
set_option maxHeartbeats 4000000 in
theorem req_read (sb sc cb : Nat) (w : World) (hs : w.heap[sb]? = some (.cells stepC 33 (0, 0))) :
    Calls Tryz.prog 7 #[.agg #[.slice (some ⟨sb, 0, none⟩) 1 sc, .int .i64 0, .bool false, .pointer (some ⟨cb, 0, none⟩)], .agg #[.int .i64 0, .int .i64 0, .int .i64 2, .slice none 0 0, .bool false]] w fun e w' => e = .returned (.tuple #[.int .i64 0, .bool false]) ∧ Mod No w w' := by
  have B0 := Lib.hid (blk_old (o' := .cells #[.int .i64 0, .int .i64 0, .int .i64 2, .slice none 0 0, .bool false] 25) (blk_new w (.cells #[.slice (some ⟨sb, 0, none⟩) 1 sc, .int .i64 0, .bool false, .pointer (some ⟨cb, 0, none⟩)] 41)))
  have B1 := Lib.hid (show ((w.alloc (.cells #[.slice (some ⟨sb, 0, none⟩) 1 sc, .int .i64 0, .bool false, .pointer (some ⟨cb, 0, none⟩)] 41)).alloc (.cells #[.int .i64 0, .int .i64 0, .int .i64 2, .slice none 0 0, .bool false] 25)).heap[w.heap.size + 1]? = some (.cells #[.int .i64 0, .int .i64 0, .int .i64 2, .slice none 0 0, .bool false] 25 (0, 0)) from blk_new' _ (by simp))
  have S0 := Lib.hid (blk_old (o' := .cells #[.int .i64 0, .int .i64 0, .int .i64 2, .slice none 0 0, .bool false] 25) (blk_old (o' := .cells #[.slice (some ⟨sb, 0, none⟩) 1 sc, .int .i64 0, .bool false, .pointer (some ⟨cb, 0, none⟩)] 41) hs))
  have N0 := Lib.hid (((Mod.refl No w).alloc (.cells #[.slice (some ⟨sb, 0, none⟩) 1 sc, .int .i64 0, .bool false, .pointer (some ⟨cb, 0, none⟩)] 41)).alloc (.cells #[.int .i64 0, .int .i64 0, .int .i64 2, .slice none 0 0, .bool false] 25))
  clear hs
  generalize hw0 : (w.alloc (.cells #[.slice (some ⟨sb, 0, none⟩) 1 sc, .int .i64 0, .bool false, .pointer (some ⟨cb, 0, none⟩)] 41)).alloc (.cells #[.int .i64 0, .int .i64 0, .int .i64 2, .slice none 0 0, .bool false] 25) = w0 at *
  have a0 : w0.cell? ⟨w.heap.size, 0, none⟩ = some (.slice (some ⟨sb, 0, none⟩) 1 sc) := blk_cell B0.out rfl
  have a1 : w0.cell? ⟨w.heap.size, 1, none⟩ = some (.int .i64 0) := blk_cell B0.out rfl
  have a2 : w0.cell? ⟨w.heap.size, 2, none⟩ = some (.bool false) := blk_cell B0.out rfl
  have c0 : w0.cell? ⟨w.heap.size + 1, 0, none⟩ = some (.int .i64 0) := blk_cell B1.out rfl
  have c1 : w0.cell? ⟨w.heap.size + 1, 1, none⟩ = some (.int .i64 0) := blk_cell B1.out rfl
  have c2 : w0.cell? ⟨w.heap.size + 1, 2, none⟩ = some (.int .i64 2) := blk_cell B1.out rfl
  have c3 : w0.cell? ⟨w.heap.size + 1, 3, none⟩ = some (.slice none 0 0) := blk_cell B1.out rfl
  have s1 : w0.cell? ⟨sb, 1, none⟩ = some (.int .i64 4) := blk_cell S0.out rfl
  have hf : ∀ w, Calls Tryz.prog 14 #[.int .i64 0, .int .i64 2, .int .i64 4] w fun e w' => e = .returned (.bool true) ∧ w = w' := fun w => fits_ok 0 2 4 w (by omega) (by omega) (by omega)
  go_enter Tryz.func7, Tryz.ntmps7
  go_wp2_with fail
  go_quiet ((go_at_call 14; refine Calls.quiet_of_same ((hf _).mono fun _ _ h => ⟨h.1, h.2.symm⟩)))
  go_wp2_with fail
  refine bodyPost_ret (v := .tuple #[.int .i64 0, .bool false]) (by simp [results, Tryz.results7, go_sem]) rfl ?_
  exact ⟨rfl, N0.out.drewN nq⟩
end Go.Proofs.YtmijbomfekopjaaGreatDoor
