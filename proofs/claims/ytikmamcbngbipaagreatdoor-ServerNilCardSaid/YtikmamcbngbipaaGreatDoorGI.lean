/- A live question, run by the kernel, where laid variables are read on the way. -/
import Derived.Test.YtikmamcbngbipaaGreatDoorGH
namespace Go.Proofs.YtikmamcbngbipaaGreatDoor
namespace Ev
open Go.RowKit

/-- A laid variable: its number, its cells, its block's type. -/
structure Lv where
  g : Nat
  cs : List AV
  ty : TypeId
noncomputable def Lv.blk (x : Lv) : ABlk := .cells (T.lay (dep x.cs.length) (.leaf default) 0 x.cs) x.cs.length x.ty
def gsG : List Lv → Nat → Nat → Option Nat
  | [], _, _ => none
  | x :: l, i, g => match Nat.beq g x.g with
    | true => some i
    | false => gsG l (i + 1) g
noncomputable def hsH : List Lv → Nat → HT → HT
  | [], _, t => t
  | x :: l, i, t => hsH l (i + 1) (T.set 16 t i (some x.blk))
noncomputable def sameAt (ht : HT) (i : Nat) (cs : List AV) : Bool := match ht.get i with
  | some (.cells t m _) => Nat.beq m cs.length && abeqs (t.list 0 m) cs
  | _ => false
noncomputable def sameAll : List Lv → Nat → HT → Bool
  | [], _, _ => true
  | x :: l, i, ht => sameAt ht i x.cs && sameAll l (i + 1) ht

theorem gsG_some : ∀ (l : List Lv) (j g id : Nat), gsG l j g = some id → j ≤ id ∧ ∃ x, l[id - j]? = some x ∧ x.g = g
  | x :: l, j, g, id, h => by
    unfold gsG at h
    split at h
    · rename_i hb
      cases h
      exact ⟨Nat.le_refl _, x, by simp, (Nat.eq_of_beq_eq_true hb).symm⟩
    · obtain ⟨h1, y, h2, h3⟩ := gsG_some l (j + 1) g id h
      refine ⟨by omega, y, ?_, h3⟩
      rw [show id - j = (id - (j + 1)) + 1 by omega, List.getElem?_cons_succ]
      exact h2
theorem hsH_get : ∀ (l : List Lv) (j : Nat) (t : HT) (i : Nat), j + l.length ≤ 65536 → i < 65536 →
    (hsH l j t).get i = if j ≤ i ∧ i < j + l.length then (l[i - j]?).map Lv.blk else t.get i
  | [], j, t, i, _, _ => by
    rw [if_neg (fun h => by have := h.2; simp at this; omega)]; rfl
  | x :: l, j, t, i, hj, hi => by
    simp only [List.length_cons] at hj ⊢
    rw [hsH, hsH_get l (j + 1) _ i (by omega) hi]
    by_cases h1 : i = j
    · subst h1
      rw [if_neg (by omega), if_pos (by omega), Nat.sub_self, T.get_set_lt (d := 16) (by omega) hi, if_pos rfl]
      rfl
    · by_cases h2 : j + 1 ≤ i ∧ i < j + 1 + l.length
      · rw [if_pos h2, if_pos (by omega), show i - j = (i - (j + 1)) + 1 by omega, List.getElem?_cons_succ]
      · rw [if_neg h2, if_neg (by omega), T.get_set_lt (d := 16) (by omega) hi, if_neg h1]
theorem sameAll_at : ∀ (l : List Lv) (j : Nat) (ht : HT), sameAll l j ht = true → ∀ i x, l[i]? = some x → sameAt ht (j + i) x.cs = true
  | y :: l, j, ht, h, 0, x, hx => by
    rw [sameAll, Bool.and_eq_true] at h
    simp only [List.getElem?_cons_zero, Option.some.injEq] at hx
    subst hx
    exact h.1
  | y :: l, j, ht, h, i + 1, x, hx => by
    rw [sameAll, Bool.and_eq_true] at h
    rw [List.getElem?_cons_succ] at hx
    have := sameAll_at l (j + 1) ht h.2 i x hx
    rw [show j + (i + 1) = j + 1 + i by omega]
    exact this

section
variable {σ : Nat → Value} {P : Program} {L : Lore} {X : XK} {fuel n f N : Nat} {l : List Lv}

theorem live_many (hm : P.follows .mixedOrders = true) (hs : ∀ i, (σ i).oneCell' = true) (hn : ∀ (g : Nat) (fn : Func), P.funcs[g]? = some fn → (fn.name == "runtime.NumGoroutine") = false) (hL : LoreOK σ P (gsG l 0) L) (hX : XOK (gsG l 0) L X) {w : World} (hN : N = l.length) (hN2 : N < 65536) (hnd : ∀ (i j : Nat) (x y : Lv), l[i]? = some x → l[j]? = some y → x.g = y.g → i = j)
    (hw : ∀ (i : Nat) (x : Lv), l[i]? = some x → ∃ c, w.heap[x.g]? = some (.cells c x.ty (0, 0)) ∧ ∀ ρ, concs σ ρ x.cs = some c.toList) {args : List AV} {argv : List Value} (ha : ∀ ρ, concs σ ρ args = some argv)
    (hk : callK P (gsG l 0) X L.D L.K fuel n f args (hsH l 0 (.leaf none)) N (fun v ht _ => isTrue v && sameAll l 0 ht) = true) :
    Calls P f argv.toArray w fun e w' => e = .returned (.bool true) ∧ Below w.heap.size w w' := by
  obtain ⟨r, H', h1, h2⟩ := callK_ok hX n f args _ _ _ hk
  rw [Bool.and_eq_true] at h2
  have hlt : ∀ (i : Nat) (x : Lv), l[i]? = some x → x.g < w.heap.size := fun i x hx => by
    obtain ⟨c, hc, _⟩ := hw i x hx
    exact (Array.getElem?_eq_some_iff.1 hc).1
  have hil : ∀ (i : Nat) (x : Lv), l[i]? = some x → i < N := fun i x hx => by rw [hN]; exact (List.getElem?_eq_some_iff.1 hx).1
  let ρ0 : Place := fun i => (l[i]?).map fun x : Lv => ⟨x.g, 0, x.cs.length⟩
  have rn : ∀ i p, ρ0 i = some p → ∃ x, l[i]? = some x ∧ p = ⟨x.g, 0, x.cs.length⟩ := fun i p h => by
    have h : (l[i]?).map (fun x : Lv => (⟨x.g, 0, x.cs.length⟩ : Pl)) = some p := h
    cases e : l[i]? with
    | none => rw [e] at h; cases h
    | some x => rw [e] at h; cases h; exact ⟨x, rfl, rfl⟩
  have r0 : ∀ (i : Nat) (x : Lv), l[i]? = some x → ρ0 i = some ⟨x.g, 0, x.cs.length⟩ := fun i x h => by
    show (l[i]?).map _ = _
    rw [h]; rfl
  have hget : ∀ i, i < 65536 → (⟨hsH l 0 (.leaf none), N⟩ : Heap).get i = (l[i]?).map Lv.blk := fun i hi => by
    show (hsH l 0 (.leaf none)).get i = _
    rw [hsH_get l 0 _ i (by omega) hi, Nat.sub_zero]
    by_cases h : 0 ≤ i ∧ i < 0 + l.length
    · rw [if_pos h]
    · rw [if_neg h, List.getElem?_eq_none (by omega)]; rfl
  have hb : ∀ (i : Nat) (x : Lv), l[i]? = some x → BR σ ρ0 ⟨x.g, 0, x.cs.length⟩ (w.heap[x.g]?) x.blk := fun i x hx => by
    obtain ⟨c, hc, hcs⟩ := hw i x hx
    have hlen : c.size = x.cs.length := by have := concs_length (hcs (fun _ => none)); simpa using this
    refine ⟨c, (0, 0), hc, .inl rfl, by simp [hlen], Nat.le_refl _, fun j hj => ?_⟩
    have h3 := T.get_lay_in (d := dep x.cs.length) x.cs (.leaf default) 0 j (by have := lt_dep x.cs.length; omega) (Nat.zero_le _) (by omega)
    rw [Nat.sub_zero] at h3
    obtain ⟨v, h4, h5⟩ := concs_get (hcs ρ0) h3
    exact ⟨v, by simpa using h4, h5⟩
  have hr : HR σ ρ0 ⟨hsH l 0 (.leaf none), N⟩ w.heap := by
    refine ⟨by show N ≤ 65536; omega, fun i hi hi2 => ?_, fun i hi => ?_, fun i p hp => ?_, fun i k hi hk => ?_, fun i j k k' p q hi hj _ _ hp hq e => ?_⟩
    · have hi : N ≤ i := hi
      rw [hget i hi2, List.getElem?_eq_none (by omega)]; rfl
    · have hi : N ≤ i := hi
      show (l[i]?).map _ = none
      rw [List.getElem?_eq_none (by omega)]; rfl
    · obtain ⟨x, hx, rfl⟩ := rn i p hp
      exact hlt i x hx
    · have hi : i < N := hi
      rw [hget i (by omega)] at hk
      cases e : l[i]? with
      | none => rw [e] at hk; cases hk
      | some x =>
        rw [e] at hk
        cases hk
        exact ⟨_, r0 i x e, hb i x e⟩
    · obtain ⟨x, hx, rfl⟩ := rn i p hp
      obtain ⟨y, hy, rfl⟩ := rn j q hq
      exact hnd i j x y hx hy e
  have hG : GOK (gsG l 0) ρ0 := fun g id hg => by
    obtain ⟨_, x, hx, rfl⟩ := gsG_some l 0 g id hg
    rw [Nat.sub_zero] at hx
    exact ⟨_, r0 id x hx⟩
  obtain ⟨_, hcalls⟩ := callA_ok (fuel := fuel) hm hs hn hL n f args _ r H' h1
  refine (hcalls ρ0 w argv hr hG (ha ρ0)).mono ?_
  rintro e w' ⟨ρ', v', rfl, g1, g2, g3⟩
  have hv : v' = .bool true := by
    cases r with
    | bool b => cases b with
      | true => simpa [conc] using g1.symm
      | false => exact absurd h2.1 (by simp [isTrue])
    | _ => exact absurd h2.1 (by simp [isTrue])
  subst hv
  refine ⟨rfl, g3.rest.1, g3.rest.2.2, g3.rest.2.1, g3.size, fun k hk => ?_⟩
  by_cases hkg : ∃ (i : Nat) (x : Lv), l[i]? = some x ∧ x.g = k
  · obtain ⟨i, x, hx, rfl⟩ := hkg
    obtain ⟨c, hc, hcs⟩ := hw i x hx
    have hlen : c.size = x.cs.length := by have := concs_length (hcs (fun _ => none)); simpa using this
    have hsame := sameAll_at l 0 _ h2.2 i x hx
    rw [Nat.zero_add] at hsame
    have hiN := hil i x hx
    unfold sameAt at hsame
    split at hsame
    · rename_i t m ty' hblk
      rw [Bool.and_eq_true] at hsame
      have e1 := Nat.eq_of_beq_eq_true hsame.1
      have e3 := abeqs_eq _ _ hsame.2
      have hblk' : H'.get i = some (.cells t m ty') := hblk
      have hm1 := g3.more
      have hm1 : N ≤ H'.next := hm1
      obtain ⟨p, q1, c2, fz, q2, _, q3, _, q4⟩ := g2.live i _ (by omega) hblk'
      have := g3.ext i _ (r0 i x hx)
      rw [q1] at this; cases this
      have q2 : w'.heap[x.g]? = some (.cells c2 ty' fz) := q2
      obtain ⟨c3, q5⟩ := g3.cells i _ _ c x.ty (0, 0) hiN hblk' (r0 i x hx) hc
      rw [q2] at q5
      cases q5
      rw [hc, q2]
      congr 2
      refine Array.ext (by rw [q3, hlen]; simp) (fun j hi1 hi2 => ?_)
      obtain ⟨v, q6, q7⟩ := q4 j (by rw [e1, ← hlen]; exact hi2)
      have hl := T.list_get t m 0 j (by rw [e1, ← hlen]; exact hi2)
      rw [e3, Nat.zero_add] at hl
      obtain ⟨v2, q8, q9⟩ := concs_get (hcs ρ') hl
      rw [q7] at q9; cases q9
      have q6 : c2[j]? = some v := by simpa using q6
      rw [Array.getElem?_eq_getElem hi1] at q6
      have q8 : c[j]? = some v := by simpa using q8
      rw [Array.getElem?_eq_getElem hi2] at q8
      exact (Option.some.inj q6).trans (Option.some.inj q8).symm
    · cases hsame
  · refine g3.keep k hk (fun i kk p hi hkk hp e => ?_)
    obtain ⟨x, hx, rfl⟩ := rn i p hp
    exact hkg ⟨i, x, hx, e⟩
end
end Ev
end Go.Proofs.YtikmamcbngbipaaGreatDoor
