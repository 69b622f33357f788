/- The compiled run: a range over slices.Chunk at one piece, over slices.Backward where there is nothing. -/
import Derived.Test.YtikmamcbngbipaaGreatDoorGI
import Derived.Test.YtikmamcbngbipaaGreatDoorFD
namespace Go.Proofs.YtikmamcbngbipaaGreatDoor
namespace Ev

noncomputable def backK (G : Nat → Option Nat) (gb : Nat) : XK := fun sz _ c t ht nx ds K => match c with
  | .rangeFunc g _ _ _ => srcK G (srcOf sz g) t fun fv => match fv with
    | .fn (.func g') [] [.ptr i 0] => match Nat.beq g' gb, Heap.load ⟨ht, nx⟩ i 0 with
      | true, some v => match emptyA v with
        | true => K .norm t ht nx (.coll :: ds)
        | false => false
      | _, _ => false
    | _ => false
  | _ => false
noncomputable def rangeK (P : Program) (G : Nat → Option Nat) (gf gb fuel : Nat) : XK := fun sz call c t ht nx ds K => Bool.rec (motive := fun _ => Bool) (chunkK P G gf fuel sz call c t ht nx ds K) true (backK G gb sz call c t ht nx ds K)

theorem rangeK_ok {P : Program} {G : Nat → Option Nat} {gf gb fuel : Nat} (hne : gf ≠ gb) {L : Lore} (hL : L.X = rangeA P gf gb fuel bare) : XOK G L (rangeK P G gf gb fuel) := by
  intro sz call callk hs hc c t ht nx ds K h
  rw [hL]
  unfold rangeK at h
  cases hb : backK G gb sz callk c t ht nx ds K with
  | true =>
    unfold backK at hb
    split at hb
    case h_2 => cases hb
    rename_i g ps assign body
    obtain ⟨fv, h1, hb⟩ := srcK_ok (G := G) hs hb
    split at hb
    case h_2 => cases hb
    rename_i g' i
    split at hb
    case h_2 => cases hb
    rename_i v hg hv
    split at hb
    case h_2 => cases hb
    rename_i hemp
    have hv : Heap.load ⟨ht, nx⟩ i 0 = some v := hv
    refine ⟨_, t, ⟨ht, nx⟩, _, ?_, hb⟩
    unfold rangeA backA
    simp only [h1, hg, hv, hemp]
  | false =>
    rw [hb] at h
    obtain ⟨e, t', H', ds', h1, h2⟩ := chunkK_ok (P := P) (G := G) (gf := gf) (fuel := fuel) (L := ⟨fun _ _ => none, chunkA P gf fuel bare, fun _ => none⟩) rfl sz call callk hs hc c t ht nx ds K h
    refine ⟨e, t', H', ds', ?_, h2⟩
    have h1 : chunkA P gf fuel bare call c ⟨⟨t, sz, G⟩, ⟨ht, nx⟩, ds⟩ = _ := h1
    unfold rangeA
    rw [backA_none hne h1]
    exact h1
end Ev
end Go.Proofs.YtikmamcbngbipaaGreatDoor
