/- ExecNil: an apply with no cache says so, whatever was asked: the tied card.
   Conditions: the listed variables are tied to the text of a pruned copy of the project. -/
import Derived.Test.YtmijbomfekopjaaGreatDoorV
import Derived.Test.YtmijbomfekopjaaGreatDoorTie
import Derived.Test.YtmijbomfekopjaaGreatDoorCards
import Derived.SevenTiedAt
namespace Go.Proofs.YtmijbomfekopjaaGreatDoor.execNil
open Go
open Go.Proofs.YtmijbomfekopjaaGreatDoor

/-- THE STATEMENT -/
theorem proved : Rows.ExecNilCardSaid :=
  Claim7.holds_tied_plain_at .later [] [.data, .handle] true (true, "8ef6fbc8750a3dda0051c21ad3a549f638ecbf0e47ab2b94a121c1057aba8b55") true
    over (fun _ h => by cases h) (by kernel_rfl) (fun _ h => by cases h) execNil_row_tie rfl ⟨rfl, rfl⟩ (by kernel_rfl) rfl
    (fun f fn hf hfn => by
      obtain rfl : f = 3 := Option.some.inj ((show Tryz.prog.funcNamed "cofferdam/cofferdamlaw18.ExecNil" = some 3 by kernel_rfl).symm.trans hf) |>.symm
      obtain rfl : fn = Tryz.f3 := (Option.some.inj (Tryz.func3.symm.trans hfn)).symm
      exact ⟨by kernel_rfl, fun j t ht => by
        rw [Tryz.params3] at ht
        have h3 : t = 25 := by
          rcases j with _ | j
          · simpa using ht.symm
          · simp at ht
        subst h3
        exact (show Tryz.prog.wantsStandIn 25 = false by kernel_rfl)⟩)
    (by kernel_rfl)
#print axioms proved
end Go.Proofs.YtmijbomfekopjaaGreatDoor.execNil
