/- DeskNil: the row, where what is read is of bulk at most 1048576. -/
import Derived.Test.YtpppaheennkkpaaGreatDoorV
namespace Go.Proofs.YtpppaheennkkpaaGreatDoor.deskNil
open Go.ChangeShapes Go.WideShapes Go.ChangeAt Go.RowKit
open Go.Proofs.YtpppaheennkkpaaGreatDoor

theorem j_laid : laidOutB Tryz.pinned.checked.prog = true := by kernel_rfl
theorem j_maps : mapsRowed Tryz.pinned.checked.prog = true := by kernel_rfl
theorem j_place : (Rows.deskNilUptoRow.inPlace == Tryz.pinned.checked.prog.inPlace 3) = true := by kernel_rfl
theorem j_unf : (Rows.deskNilUptoRow.unfollowed == Tryz.pinned.checked.prog.unfollowed 3) = true := by kernel_rfl
theorem j_recu : (Rows.deskNilUptoRow.recurses == Tryz.pinned.checked.prog.recurses 3) = true := by kernel_rfl
theorem j_named : (Rows.deskNilUptoRow.named == Tryz.pinned.checked.prog.varsNamed 3) = true := by kernel_rfl
theorem j_keys : (Rows.deskNilUptoRow.plainKeys == Tryz.pinned.checked.prog.plainKeys) = true := by kernel_rfl
theorem j_heard : Tryz.pinned.checked.prog.stopsHeard = true := by kernel_rfl
theorem j_may : Tryz.pinned.checked.prog.mayEnter = true := by kernel_rfl
theorem closed : joinedFacts Tryz.pinned.checked.prog 3 Tryz.f3 (Rows.OpenSpec.upto Rows.deskNilSpec).bare Rows.deskNilUptoRow = true := by
  unfold joinedFacts
  rw [j_laid, j_maps, j_place, j_unf, j_recu, j_named, j_keys, j_heard, j_may]
  kernel_rfl

theorem over : Rows.deskNilUptoRow.holds Tryz.pinned (Rows.OpenSpec.upto Rows.deskNilSpec) :=
  OpenClaim.holds_of_cond 3 Tryz.f3 rfl rfl rfl rfl rfl rfl rfl ⟨rfl, rfl, rfl, rfl, rfl⟩ rfl rfl rfl rfl rfl (by kernel_rfl) Tryz.func3 closed
    (of_decide_eq_true (by kernel_rfl)) (by unfold Func.isWrapper; first | (rw [if_pos (by decide +kernel)]; kernel_rfl) | (rw [if_neg (by decide +kernel)]; exact ⟨rfl, rfl⟩))
    (fun os started H enc _ F => by rw [OpenClaim.pre_eq_preRow]; exact lifted os started H enc F)
end Go.Proofs.YtpppaheennkkpaaGreatDoor.deskNil
