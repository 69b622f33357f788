/- ServerNil answers true, whatever was asked, sha's constants being as they were laid. -/
import Derived.Test.YtikmamcbngbipaaGreatDoorXD
namespace Go.Proofs.YtikmamcbngbipaaGreatDoor
open Go.RowKit Go.Shelf

theorem walk3 (i : Int) (b : Value) (h1 : b.oneCell' = true) (w : World) (ty : TypeId) (hw : w.heap[1]? = some (.cells shaV ty (0, 0))) :
    Calls Tryz.prog 3 #[.int .i64 i, b] w fun e w' => e = .returned (.bool true) ∧ Below w.heap.size w w' := by
  obtain ⟨σ, hσ0, hσ1, hs⟩ : ∃ σ : Nat → Value, σ 0 = .int .i64 i ∧ σ 1 = b ∧ ∀ i, (σ i).oneCell' = true :=
    ⟨fun k => match k with
      | 0 => .int .i64 i
      | 1 => b
      | _ => .bool false, rfl, rfl, fun k => by
      match k with
      | 0 => rfl
      | 1 => exact h1
      | _ + 2 => rfl⟩
  have h := Ev.live_many (σ := σ) (P := Tryz.prog) (L := lore) (l := laidL ty) (argv := [.int .i64 i, b]) (by kernel_rfl) hs names_ok (lore_ok _ hs ⟨i, hσ0⟩) (Ev.rangeK_ok (by decide) rfl) (w := w) rfl (show 1 < 65536 by decide)
    (fun k j x y hx hy _ => by
      match k, j with
      | 0, 0 => rfl
      | 0, _ + 1 => cases hy
      | _ + 1, _ => cases hx)
    (fun k x hx => by
      match k with
      | 0 => cases hx; exact ⟨shaV, hw, shaA_conc _⟩
      | _ + 1 => cases hx)
    (fun ρ => by simp [Ev.concs, Ev.conc, hσ0, hσ1]) (run3 ty)
  exact h
end Go.Proofs.YtikmamcbngbipaaGreatDoor
