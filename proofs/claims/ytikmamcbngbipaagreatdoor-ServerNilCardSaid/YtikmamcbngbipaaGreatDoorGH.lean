/- A live question, run by the kernel, where one laid variable is read on the way. -/
import Derived.Test.YtikmamcbngbipaaGreatDoorGG
import Derived.Below
namespace Go.Proofs.YtikmamcbngbipaaGreatDoor
namespace Ev
open Go.RowKit

def oneG (g0 : Nat) : Nat → Option Nat := fun g => match Nat.beq g g0 with
  | true => some 0
  | false => none
noncomputable def oneH (cs : List AV) (ty : TypeId) : HT := T.set 16 (.leaf none) 0 (some (.cells (T.lay (dep cs.length) (.leaf default) 0 cs) cs.length ty))
noncomputable def sameBlk (ht : HT) (cs : List AV) : Bool := match ht.get 0 with
  | some (.cells t m _) => Nat.beq m cs.length && abeqs (t.list 0 m) cs
  | _ => false
def isTrue : AV → Bool
  | .bool true => true
  | _ => false

section
variable {σ : Nat → Value} {P : Program} {L : Lore} {X : XK} {fuel n f g0 : Nat} {cs : List AV} {ty : TypeId}

theorem live_ok (hm : P.follows .mixedOrders = true) (hs : ∀ i, (σ i).oneCell' = true) (hn : ∀ (g : Nat) (fn : Func), P.funcs[g]? = some fn → (fn.name == "runtime.NumGoroutine") = false) (hL : LoreOK σ P (oneG g0) L) (hX : XOK (oneG g0) L X) {w : World} {c : Array Value} (hw : w.heap[g0]? = some (.cells c ty (0, 0))) (hc : ∀ ρ, concs σ ρ cs = some c.toList) {args : List AV} {argv : List Value} (ha : ∀ ρ, concs σ ρ args = some argv)
    (hk : callK P (oneG g0) X L.D L.K fuel n f args (oneH cs ty) 1 (fun v ht _ => isTrue v && sameBlk ht cs) = true) :
    Calls P f argv.toArray w fun e w' => e = .returned (.bool true) ∧ Below w.heap.size w w' := by
  obtain ⟨r, H', h1, h2⟩ := callK_ok hX n f args _ _ _ hk
  rw [Bool.and_eq_true] at h2
  have hlen : c.size = cs.length := by have := concs_length (hc (fun _ => none)); simpa using this
  have hlt : g0 < w.heap.size := (Array.getElem?_eq_some_iff.1 hw).1
  let ρ0 : Place := fun i => match Nat.beq i 0 with
    | true => some ⟨g0, 0, cs.length⟩
    | false => none
  have r0 : ρ0 0 = some ⟨g0, 0, cs.length⟩ := rfl
  have rn : ∀ i p, ρ0 i = some p → i = 0 ∧ p = ⟨g0, 0, cs.length⟩ := fun i p h => by
    cases i with
    | zero => cases h; exact ⟨rfl, rfl⟩
    | succ i => cases h
  have hget : ∀ i, i < 65536 → (⟨oneH cs ty, 1⟩ : Heap).get i = if i = 0 then some (.cells (T.lay (dep cs.length) (.leaf default) 0 cs) cs.length ty) else none := fun i hi => by
    show (oneH cs ty).get i = _
    unfold oneH
    rw [T.get_set_lt (d := 16) (by omega) hi]
    rfl
  have hb : BR σ ρ0 ⟨g0, 0, cs.length⟩ (w.heap[g0]?) (.cells (T.lay (dep cs.length) (.leaf default) 0 cs) cs.length ty) := by
    refine ⟨c, (0, 0), hw, .inl rfl, by simp [hlen], Nat.le_refl _, fun i hi => ?_⟩
    have h3 := T.get_lay_in (d := dep cs.length) cs (.leaf default) 0 i (by have := lt_dep cs.length; omega) (Nat.zero_le _) (by omega)
    rw [Nat.sub_zero] at h3
    obtain ⟨v, h4, h5⟩ := concs_get (hc ρ0) h3
    exact ⟨v, by simpa using h4, h5⟩
  have hr : HR σ ρ0 ⟨oneH cs ty, 1⟩ w.heap := by
    refine ⟨by show 1 ≤ 65536; omega, fun i hi hi2 => ?_, fun i hi => ?_, fun i p hp => ?_, fun i k hi hk => ?_, fun i j k l p q hi hj _ _ _ _ _ => ?_⟩
    · have hi : 1 ≤ i := hi
      rw [hget i hi2, if_neg (by omega)]
    · have hi : 1 ≤ i := hi
      cases i with
      | zero => omega
      | succ i => rfl
    · obtain ⟨_, rfl⟩ := rn i p hp
      exact hlt
    · have hi : i < 1 := hi
      have : i = 0 := by omega
      subst this
      rw [hget 0 (by omega), if_pos rfl] at hk
      cases hk
      exact ⟨_, r0, hb⟩
    · have hi : i < 1 := hi
      have hj : j < 1 := hj
      omega
  have hG : GOK (oneG g0) ρ0 := fun g id hg => by
    unfold oneG at hg
    split at hg
    · rename_i hb
      cases hg
      have := Nat.eq_of_beq_eq_true hb
      subst this
      exact ⟨_, r0⟩
    · cases hg
  obtain ⟨_, hcalls⟩ := callA_ok (fuel := fuel) hm hs hn hL n f args _ r H' h1
  refine (hcalls ρ0 w argv hr hG (ha ρ0)).mono ?_
  rintro e w' ⟨ρ', v', rfl, g1, g2, g3⟩
  have hv : v' = .bool true := by
    cases r with
    | bool b => cases b with
      | true => simpa [conc] using g1.symm
      | false => exact absurd h2.1 (by simp [isTrue])
    | _ => exact absurd h2.1 (by simp [isTrue])
  subst hv
  refine ⟨rfl, g3.rest.1, g3.rest.2.2, g3.rest.2.1, g3.size, fun k hk => ?_⟩
  by_cases hkg : k = g0
  · subst hkg
    -- the laid variable
    have hsame := h2.2
    unfold sameBlk at hsame
    split at hsame
    · rename_i t m ty' hblk
      rw [Bool.and_eq_true] at hsame
      have e1 := Nat.eq_of_beq_eq_true hsame.1
      have e3 := abeqs_eq _ _ hsame.2
      have hblk' : H'.get 0 = some (.cells t m ty') := hblk
      have hm1 := g3.more
      have hm1 : 1 ≤ H'.next := hm1
      obtain ⟨p, q1, c2, fz, q2, _, q3, _, q4⟩ := g2.live 0 _ (by omega) hblk'
      have := g3.ext 0 _ r0
      rw [q1] at this; cases this
      have q2 : w'.heap[k]? = some (.cells c2 ty' fz) := q2
      obtain ⟨c3, q5⟩ := g3.cells 0 _ _ c ty (0, 0) (by show 0 < 1; omega) hblk' r0 hw
      rw [q2] at q5
      cases q5
      rw [hw, q2]
      congr 2
      refine Array.ext (by rw [q3, hlen]; simp) (fun i hi1 hi2 => ?_)
      obtain ⟨v, q6, q7⟩ := q4 i (by rw [e1, ← hlen]; exact hi2)
      have hl := T.list_get t m 0 i (by rw [e1, ← hlen]; exact hi2)
      rw [e3, Nat.zero_add] at hl
      obtain ⟨v2, q8, q9⟩ := concs_get (hc ρ') hl
      rw [q7] at q9; cases q9
      have q6 : c2[i]? = some v := by simpa using q6
      rw [Array.getElem?_eq_getElem hi1] at q6
      have q8 : c[i]? = some v := by simpa using q8
      rw [Array.getElem?_eq_getElem hi2] at q8
      exact (Option.some.inj q6).trans (Option.some.inj q8).symm
    · cases hsame
  · refine g3.keep k hk (fun i kk p hi hkk hp e => ?_)
    obtain ⟨_, rfl⟩ := rn i p hp
    exact hkg e.symm
end
end Ev
end Go.Proofs.YtikmamcbngbipaaGreatDoor
