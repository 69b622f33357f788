/- VolumeNil: no volume says so, whatever was asked: the tied card.
   Conditions: the listed variables are tied to the text of a pruned copy of the project. -/
import Derived.Test.YtphlklajljmgdaaGreatDoorV
import Derived.Test.YtphlklajljmgdaaGreatDoorTie
import Derived.Test.YtphlklajljmgdaaGreatDoorCards
import Derived.SevenTiedAt
namespace Go.Proofs.YtphlklajljmgdaaGreatDoor.volumeNil
open Go
open Go.Proofs.YtphlklajljmgdaaGreatDoor

/-- THE STATEMENT -/
theorem proved : Rows.VolumeNilCardSaid :=
  Claim7.holds_tied_plain_at .later [] [.data, .handle] true (true, "cb725d5ae24346534d44ed62ba5d61aeb807c2f9b3b02bf29c7dbc4378cff5a3") true
    over (fun _ h => by cases h) (by kernel_rfl) (fun _ h => by cases h) volumeNil_row_tie rfl ⟨rfl, rfl⟩ (by kernel_rfl) rfl
    (fun f fn hf hfn => by
      obtain rfl : f = 3 := Option.some.inj ((show Tryz.prog.funcNamed "cofferdam/cofferdamlaw19.VolumeNil" = some 3 by kernel_rfl).symm.trans hf) |>.symm
      obtain rfl : fn = Tryz.f3 := (Option.some.inj (Tryz.func3.symm.trans hfn)).symm
      exact ⟨by kernel_rfl, fun j t ht => by
        rw [Tryz.params3] at ht
        have h3 : t = 25 := by
          rcases j with _ | j
          · simpa using ht.symm
          · simp at ht
        subst h3
        exact (show Tryz.prog.wantsStandIn 25 = false by kernel_rfl)⟩)
    (by kernel_rfl)
#print axioms proved
end Go.Proofs.YtphlklajljmgdaaGreatDoor.volumeNil
