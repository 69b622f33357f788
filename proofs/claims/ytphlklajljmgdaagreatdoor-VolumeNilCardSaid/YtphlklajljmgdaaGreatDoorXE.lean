/- VolumeNil answers true, whatever was asked, sha's constants being as they were laid. -/
import Derived.Test.YtphlklajljmgdaaGreatDoorXD
namespace Go.Proofs.YtphlklajljmgdaaGreatDoor
open Go.RowKit Go.Shelf

theorem walk3 (r : Array Value) (hr : r.size = 5) (h1 : ∀ v, v ∈ r.toList → v.oneCell' = true) (w : World) (ty : TypeId) (hw : w.heap[1]? = some (.cells shaV ty (0, 0))) :
    Calls Tryz.prog 3 #[.agg r] w fun e w' => e = .returned (.bool true) ∧ Below w.heap.size w w' := by
  have hs : ∀ i, (r.getD i (.bool false)).oneCell' = true := fun i => by
    rw [Array.getD_eq_getD_getElem?]
    cases h : r[i]? with
    | none => rfl
    | some v => exact h1 v (List.mem_of_getElem? (by rw [Array.getElem?_toList]; exact h))
  obtain ⟨l⟩ := r
  match l, hr, h1, hs with
  | [a, b, c, d, e], _, _, hs =>
    exact Ev.live_ok (L := lore) (argv := [.agg #[a, b, c, d, e]]) (by kernel_rfl) hs names_ok (lore_ok _ hs) (Ev.chunkK_ok rfl) hw (shaA_conc _) (fun ρ => rfl) (run3 ty)
end Go.Proofs.YtphlklajljmgdaaGreatDoor
