/- Law 24's live question answers true, sha's constants being as they were laid. -/
import Derived.Test.YtpppaheennkkpaaGreatDoorXP
namespace Go.Proofs.YtpppaheennkkpaaGreatDoor
open Go.RowKit Go.Shelf

theorem walk5 (m : Int) (w : World) (ty : TypeId) (hw : w.heap[9]? = some (.cells shaV ty (0, 0))) (h0 : w.heap[0]? = some (.cells #[.int .i64 m] 3 (0, 0))) :
    Calls Tryz.prog 5 #[] w fun e w' => e = .returned (.bool true) ∧ Below w.heap.size w w' := by
  obtain ⟨σ, hσ0, hs⟩ : ∃ σ : Nat → Value, σ 0 = .int .i64 m ∧ ∀ i, (σ i).oneCell' = true :=
    ⟨fun k => match k with
      | 0 => .int .i64 m
      | _ => .bool false, rfl, fun k => by
      match k with
      | 0 => rfl
      | _ + 1 => rfl⟩
  have h := Ev.live_many (σ := σ) (P := Tryz.prog) (L := lore) (l := laidL ty) (argv := []) (args := []) (by kernel_rfl) hs ⟨_, Tryz.func5, rfl, by kernel_rfl⟩ names_ok (lore_ok _ hs ⟨m, hσ0⟩ rfl) (Ev.rangesK_ok (by decide) rfl) (w := w) rfl (show 2 < 65536 by decide)
    (fun k j x y hx hy e => by
      match k, j with
      | 0, 0 => rfl
      | 1, 1 => rfl
      | 0, 1 => cases hx; cases hy; exact absurd (show 9 = 0 from e) (by decide)
      | 1, 0 => cases hx; cases hy; exact absurd (show 0 = 9 from e) (by decide)
      | _ + 2, _ => cases hx
      | _, _ + 2 => cases hy)
    (fun k x hx => by
      match k with
      | 0 => cases hx; exact ⟨shaV, hw, shaA_conc _⟩
      | 1 => cases hx; exact ⟨_, h0, fun ρ => by simp [Ev.concs, Ev.conc, hσ0]⟩
      | _ + 2 => cases hx)
    (fun ρ => rfl) (run5 ty)
  exact h
end Go.Proofs.YtpppaheennkkpaaGreatDoor
