/- DeskNil: no desk says so, whatever the line was, where what is read is of bulk at most 1048576: the tied card.
   Conditions: the listed variables are tied to the text of a pruned copy of the project. -/
import Derived.Test.YtpppaheennkkpaaGreatDoorW
import Derived.Test.YtpppaheennkkpaaGreatDoorTie
import Derived.Test.YtpppaheennkkpaaGreatDoorCards
import Derived.SevenTiedAt
namespace Go.Proofs.YtpppaheennkkpaaGreatDoor.deskNil
open Go
open Go.Proofs.YtpppaheennkkpaaGreatDoor

theorem plain (f : FuncId) (fn : Func) (hf : Tryz.pinned.checked.prog.funcNamed "cofferdam/cofferdamlaw24.DeskNil" = some f) (hfn : Tryz.pinned.checked.prog.funcs[f]? = some fn) :
    true = Tryz.pinned.checked.prog.looks [] ∧ ∀ (j : Nat) t, fn.params[j]? = some t → Tryz.pinned.checked.prog.wantsStandIn t = false := by
  obtain rfl : f = 3 := Option.some.inj ((show Tryz.prog.funcNamed "cofferdam/cofferdamlaw24.DeskNil" = some 3 by kernel_rfl).symm.trans hf) |>.symm
  obtain rfl : fn = Tryz.f3 := (Option.some.inj (Tryz.func3.symm.trans hfn)).symm
  refine ⟨by kernel_rfl, fun j t ht => ?_⟩
  rw [Tryz.params3] at ht
  obtain rfl : t = 9 := by simpa using Array.mem_of_getElem? ht
  exact (show Tryz.prog.wantsStandIn 9 = false by kernel_rfl)

/-- THE STATEMENT -/
theorem proved : Rows.DeskNilUptoCardSaid :=
  Claim7.holds_tied_plain_at .later [] [.data, .data, .data, .data, .data, .handle, .sentinel, .sentinel, .pinned] true (true, "56c7f610c8cab3b0762452531aae50ecc69dce20dc4450826ba52f6a7e931eba") true
    over (fun _ h => by cases h) (by kernel_rfl) (fun _ h => by cases h) deskNilUpto_row_tie rfl ⟨rfl, rfl⟩ (by kernel_rfl) rfl plain (by kernel_rfl)
#print axioms proved
end Go.Proofs.YtpppaheennkkpaaGreatDoor.deskNil
