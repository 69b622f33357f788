/- What is taken for known in the run of law 24's live question holds. -/
import Derived.Test.YtpppaheennkkpaaGreatDoorXK
import Derived.Test.YtpppaheennkkpaaGreatDoorGG
import Derived.KernelRfl
namespace Go.Proofs.YtpppaheennkkpaaGreatDoor
open Go.RowKit Go.Shelf

def shaL : List Nat := [1116352408, 1899447441, 3049323471, 3921009573, 961987163, 1508970993, 2453635748, 2870763221, 3624381080, 310598401, 607225278, 1426881987, 1925078388, 2162078206, 2614888103, 3248222580, 3835390401, 4022224774, 264347078, 604807628, 770255983, 1249150122, 1555081692, 1996064986, 2554220882, 2821834349, 2952996808, 3210313671, 3336571891, 3584528711, 113926993, 338241895, 666307205, 773529912, 1294757372, 1396182291, 1695183700, 1986661051, 2177026350, 2456956037, 2730485921, 2820302411, 3259730800, 3345764771, 3516065817, 3600352804, 4094571909, 275423344, 430227734, 506948616, 659060556, 883997877, 958139571, 1322822218, 1537002063, 1747873779, 1955562222, 2024104815, 2227730452, 2361852424, 2428436474, 2756734187, 3204031479, 3329325298]
def shaV : Array Value := (shaL.map fun n => Value.int .u32 (.ofNat n)).toArray
def shaA : List Ev.AV := shaL.map fun n => Ev.AV.int .u32 (.ofNat n)
noncomputable def d205 : List Ev.AV → Ev.Heap → Option Ev.Heap := fun args H => match args with
  | [.ptr id o] => match H.load id o with
    | some (.int .i64 (.ofNat 0)) => some H
    | _ => none
  | _ => none
noncomputable def idleD (n : Nat) : List Ev.AV → Ev.Heap → Option Ev.Heap := fun args H => match Nat.beq args.length n with
  | true => some H
  | false => none
noncomputable def dD : Ev.Dn := fun g => match Nat.beq g 205 with
  | true => some d205
  | false => match Nat.beq g 6 with
    | true => some (idleD 2)
    | false => match Nat.beq g 60 with
      | true => some (idleD 3)
      | false => match Nat.beq g 62 with
        | true => some (idleD 3)
        | false => none
noncomputable def lore : Ev.Lore := ⟨kD, Ev.rangesA Tryz.prog 263 318 2 100000 Ev.bare, dD⟩

theorem shaA_conc (σ : Nat → Value) (ρ : Ev.Place) : Ev.concs σ ρ shaA = some shaV.toList := by
  have : ∀ l : List Nat, Ev.concs σ ρ (l.map fun n => Ev.AV.int .u32 (.ofNat n)) = some (l.map fun n => Value.int .u32 (.ofNat n)) := fun l => by
    induction l with
    | nil => rfl
    | cons a l ih => rw [List.map_cons, List.map_cons, Ev.concs, ih]; rfl
  exact this shaL
theorem names_ok : ∀ (g : Nat) (fn : Func), Tryz.prog.funcs[g]? = some fn → (fn.name == "runtime.NumGoroutine") = false := by
  have h : (Tryz.prog.funcs.toList.all fun f => !(f.name == "runtime.NumGoroutine")) = true := by kernel_rfl
  intro g fn hg
  rw [List.all_eq_true] at h
  have := h fn (List.mem_of_getElem? (by rw [Array.getElem?_toList]; exact hg))
  simpa using this
theorem lore_ok (σ : Nat → Value) (hs : ∀ i, (σ i).oneCell' = true) (h0 : ∃ m, σ 0 = .int .i64 m) {G : Nat → Option Nat} (hG01 : G 0 = some 1) : Ev.LoreOK σ Tryz.prog G lore := by
  refine ⟨(fun g s args H r H' h h2 => kD_ok hG01 h0 h h2), fun call hc c s e s' h => ?_, fun g d args H H' hd h n ρ w argv hr hG ha => ?_⟩
  · exact Ev.rangesA_ok (by kernel_rfl) hs hc (fun n l bs os bn on b off len cap W h1 h2 h3 h4 h5 h6 R h7 => chunk263 n l bs os bn on b off len cap W h1 h2 h3 h4 h5 h6 R h7) ⟨_, Tryz.func263, rfl, by kernel_rfl⟩ (fun n l bs os cap x W h => back318 n l bs os cap x W h)
      (fun n l bs os b off cap cs t W h1 h2 h3 h4 R h5 => one318 n l bs os b off cap cs t W h1 h2 h3 h4 R h5) ⟨_, Tryz.func318, rfl, by kernel_rfl⟩ h
  · have hd : dD g = some d := hd
    unfold dD at hd
    split at hd
    · rename_i hg
      have hg := Nat.eq_of_beq_eq_true hg
      subst hg
      cases hd
      unfold d205 at h
      split at h
      · rename_i id o
        split at h
        · rename_i hl
          cases h
          simp only [Ev.concs] at ha
          cases hc : Ev.conc σ ρ (.ptr id o) with
          | none => rw [hc] at ha; cases ha
          | some v =>
            rw [hc] at ha
            cases ha
            obtain ⟨p, hp, rfl⟩ := Ev.conc_ptr hc
            obtain ⟨x, q1, q2⟩ := Ev.load_cell hr hp hl
            simp only [Ev.conc, Option.some.injEq] at q2
            subst q2
            refine (defer205 n p.b (p.o + o) w q1).mono ?_
            rintro e u' w' ⟨h1, h2, rfl⟩
            exact ⟨h1, h2, ρ, hr, .refl⟩
        · cases h
      · cases h
    · have hlen : argv.length = args.length := Ev.concs_length ha
      have idle : ∀ k, idleD k args H = some H' → argv.length = k ∧ H' = H := fun k h => by
        unfold idleD at h
        split at h
        · rename_i hb
          cases h
          exact ⟨hlen.trans (Nat.eq_of_beq_eq_true hb), rfl⟩
        · cases h
      split at hd
      · rename_i hg
        have hg := Nat.eq_of_beq_eq_true hg
        subst hg
        cases hd
        obtain ⟨h1, rfl⟩ := idle _ h
        match argv, h1 with
        | [a, b], _ =>
          refine (idle6 n a b w).mono ?_
          rintro e u' w' ⟨h1, h2, rfl⟩
          exact ⟨h1, h2, ρ, hr, .refl⟩
      · split at hd
        · rename_i hg
          have hg := Nat.eq_of_beq_eq_true hg
          subst hg
          cases hd
          obtain ⟨h1, rfl⟩ := idle _ h
          match argv, h1 with
          | [a, b, c], _ =>
            refine (idle60 n a b c w).mono ?_
            rintro e u' w' ⟨h1, h2, rfl⟩
            exact ⟨h1, h2, ρ, hr, .refl⟩
        · split at hd
          · rename_i hg
            have hg := Nat.eq_of_beq_eq_true hg
            subst hg
            cases hd
            obtain ⟨h1, rfl⟩ := idle _ h
            match argv, h1 with
            | [a, b, c], _ =>
              refine (idle62 n a b c w).mono ?_
              rintro e u' w' ⟨h1, h2, rfl⟩
              exact ⟨h1, h2, ρ, hr, .refl⟩
          · cases hd
end Go.Proofs.YtpppaheennkkpaaGreatDoor
