/- The compiled run: a range over slices.Chunk at one piece. -/
import Derived.Test.YtikmamcbngbipaaGreatDoorGF
import Derived.Test.YtikmamcbngbipaaGreatDoorFC
namespace Go.Proofs.YtikmamcbngbipaaGreatDoor
namespace Ev

def noX : XK := fun _ _ _ _ _ _ _ _ => false
def bare : Lore := ⟨fun _ _ => none, fun _ _ _ => none, fun _ => none⟩
theorem noX_ok {G : Nat → Option Nat} : XOK G bare noX := fun _ _ _ _ _ _ _ _ _ _ _ h => by cases h

noncomputable def chunkK (P : Program) (G : Nat → Option Nat) (gf fuel : Nat) : XK := fun sz call c t ht nx ds K => match c with
  | .rangeFunc g ps assign body => match ps.toList, plainC assign && plainC body with
    | [p], true => srcK G (srcOf sz g) t fun fv => match fv with
      | .fn (.func g') [] [.ptr i 0, .ptr j 0] => match Nat.beq g' gf, Heap.load ⟨ht, nx⟩ i 0, Heap.load ⟨ht, nx⟩ j 0 with
        | true, some sv, some nv => match wholeA sv, abeq nv (.int .i64 100) with
          | some xv, true => fV xv fun xv => dsK (dsOf sz (some p)) t xv fun t1 => codeK P G noX call fuel sz (ccOf P sz assign) t1 ht nx [] fun e t2 ht2 nx2 ds2 => match e with
            | .norm => codeK P G noX call fuel sz (ccOf P sz body) t2 ht2 nx2 ds2 fun e _ ht3 nx3 _ => match e with
              | .norm => match Heap.load ⟨ht3, nx3⟩ i 0, Heap.load ⟨ht3, nx3⟩ j 0 with
                | some a, some b => match abeq a sv && abeq b nv with
                  | true => K .norm t ht3 nx3 (.coll :: ds)
                  | false => false
                | _, _ => false
              | _ => false
            | _ => false
          | _, _ => false
        | _, _, _ => false
      | _ => false
    | _, _ => false
  | _ => false

theorem chunkK_ok {P : Program} {G : Nat → Option Nat} {gf fuel : Nat} {L : Lore} (hL : L.X = chunkA P gf fuel bare) : XOK G L (chunkK P G gf fuel) := by
  intro sz call callk hs hc c t ht nx ds K h
  rw [hL]
  unfold chunkK at h
  split at h
  case h_2 => cases h
  rename_i g ps assign body
  split at h
  case h_2 => cases h
  rename_i p hps hpl
  obtain ⟨fv, h1, h⟩ := srcK_ok (G := G) hs h
  split at h
  case h_2 => cases h
  rename_i g' i j
  split at h
  case h_2 => cases h
  rename_i sv nv hgf hsv hnv
  split at h
  case h_2 => cases h
  rename_i xv hwh hnb
  rw [fV_eq] at h
  obtain ⟨t1, h2, h⟩ := dsK_ok (G := G) h
  obtain ⟨e, t2, H2, ds2, h3, h⟩ := codeK_ok (L := bare) hs hc noX_ok assign _ _ _ _ _ h
  dsimp only at h
  split at h
  case h_2 => cases h
  obtain ⟨e, t3, H3, ds3, h4, h⟩ := codeK_ok (L := bare) hs hc noX_ok body _ _ _ _ _ h
  dsimp only at h
  split at h
  case h_2 => cases h
  split at h
  case h_2 => cases h
  rename_i a b ha hb
  split at h
  case h_2 => cases h
  rename_i hsame
  have ha : H3.load i 0 = some a := ha
  have hb : H3.load j 0 = some b := hb
  have h4 : codeA P bare call fuel body ⟨⟨t2, sz, G⟩, H2, ds2⟩ = _ := h4
  refine ⟨_, t, H3, _, ?_, h⟩
  unfold chunkA
  simp only [hps, h1, hpl, hgf, hsv, hnv, hwh, hnb, h2, h3, h4, ha, hb, hsame]
end Ev
end Go.Proofs.YtikmamcbngbipaaGreatDoor
