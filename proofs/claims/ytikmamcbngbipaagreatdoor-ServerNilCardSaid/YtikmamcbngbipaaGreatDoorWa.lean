/- ServerNil: no server says so, whatever was asked: the tied card.
   Conditions: the listed variables are tied to the text of a pruned copy of the project. -/
import Derived.Test.YtikmamcbngbipaaGreatDoorW
import Derived.Test.YtikmamcbngbipaaGreatDoorTie
import Derived.Test.YtikmamcbngbipaaGreatDoorCards
import Derived.SevenTiedAt
namespace Go.Proofs.YtikmamcbngbipaaGreatDoor.serverNil
open Go
open Go.Proofs.YtikmamcbngbipaaGreatDoor

/-- THE STATEMENT -/
theorem proved : Rows.ServerNilCardSaid :=
  Claim7.holds_tied_plain_at .later [] [.data, .handle] true (true, "07eec90dbacea1eb76ec7403a291a5234a6691ed1926016c22d049a26c6e6085") true
    over (fun _ h => by cases h) (by kernel_rfl) (fun _ h => by cases h) serverNil_row_tie rfl ⟨rfl, rfl⟩ (by kernel_rfl) rfl
    (fun f fn hf hfn => by
      obtain rfl : f = 3 := Option.some.inj ((show Tryz.prog.funcNamed "cofferdam/cofferdamlaw23.ServerNil" = some 3 by kernel_rfl).symm.trans hf) |>.symm
      obtain rfl : fn = Tryz.f3 := (Option.some.inj (Tryz.func3.symm.trans hfn)).symm
      exact ⟨by kernel_rfl, fun j t ht => by
        rw [Tryz.params3] at ht
        have h3 : t = 3 ∨ t = 22 := by
          rcases j with _ | _ | j
          · exact .inl (by simpa using ht.symm)
          · exact .inr (by simpa using ht.symm)
          · simp at ht
        rcases h3 with rfl | rfl
        · exact (show Tryz.prog.wantsStandIn 3 = false by kernel_rfl)
        · exact (show Tryz.prog.wantsStandIn 22 = false by kernel_rfl)⟩)
    (by kernel_rfl)
#print axioms proved
end Go.Proofs.YtikmamcbngbipaaGreatDoor.serverNil
