/- What through of package aes does: it answers the table S. -/
import Derived.Test.YtkbkobekndfapaaProg
import Derived.Test.YtkbkobekndfapaaM
import Derived.Test.YtkbkobekndfapaaA
import Derived.Deep.LoopGhost
import Derived.BigRegion
import Derived.BigQuiet
import Derived.StillTailTactics
namespace Go.Proofs.Ytkbkobekndfapaa
open Go.RowKit

set_option maxRecDepth 100000 in
set_option maxHeartbeats 1000000 in
theorem through_any (w : World) :
    Calls Try.prog 28 #[] w fun e w' => e = .returned (.agg (bA sboxL)) ∧ w.alloc (.cells (bA sboxL) 54) = w' := by
  have hz : ∀ w, (zeroValue 54).run Try.prog w = .ok (.agg (bA (noughts 256))) w := fun _ => by kernel_rfl
  go_enter Try.func28, Try.ntmps28
  go_wp2_with (first
    | (refine wpList_lit rfl 54 _ rfl (bA sboxL) (by kernel_rfl) ?_)
    | (refine wpList_store_row rfl 54 _ _ rfl w.heap.size (bA sboxL) rfl rfl 54 (bA (noughts 256)) (blk_new _ _) (by kernel_rfl) (by kernel_rfl) (by kernel_rfl) ?_; rw [alloc_setRow]))
  exact bodyPost_ret (v := .agg (bA sboxL)) (results_cell_row rfl _ _ w.heap.size 54 _ (0, 0) _ rfl (blk_new _ _) Try.underlying54 rfl (by kernel_rfl)) rfl ⟨rfl, rfl⟩

end Go.Proofs.Ytkbkobekndfapaa
