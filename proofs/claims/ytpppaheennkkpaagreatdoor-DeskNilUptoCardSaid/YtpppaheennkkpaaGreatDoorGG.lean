/- The compiled run: a range over slices.Chunk at one piece. -/
import Derived.Test.YtpppaheennkkpaaGreatDoorGC
import Derived.Test.YtpppaheennkkpaaGreatDoorFB
import Derived.Below
import Derived.Test.YtpppaheennkkpaaGreatDoorFF
namespace Go.Proofs.YtpppaheennkkpaaGreatDoor
namespace Ev

def noX : XK := fun _ _ _ _ _ _ _ _ => false
def bare : Lore := ⟨fun _ _ => none, fun _ _ _ => none, fun _ => none⟩
theorem noX_ok {G : Nat → Option Nat} : XOK G bare noX := fun _ _ _ _ _ _ _ _ _ _ _ h => by cases h

noncomputable def chunkK (P : Program) (G : Nat → Option Nat) (gf fuel : Nat) : XK := fun sz call c t ht nx ds K => match c with
  | .rangeFunc g ps assign body => match ps.toList, plainC assign && plainC body with
    | [p], true => srcK G (srcOf sz g) t fun fv => match fv with
      | .fn (.func g') [] [.ptr i 0, .ptr j 0] => match Nat.beq g' gf, Heap.load ⟨ht, nx⟩ i 0, Heap.load ⟨ht, nx⟩ j 0 with
        | true, some sv, some nv => match wholeA sv, abeq nv (.int .i64 100) with
          | some xv, true => fV xv fun xv => dsK (dsOf sz (some p)) t xv fun t1 => codeK P G noX call fuel sz (ccOf P sz assign) t1 ht nx [] fun e t2 ht2 nx2 ds2 => match e with
            | .norm => codeK P G noX call fuel sz (ccOf P sz body) t2 ht2 nx2 ds2 fun e _ ht3 nx3 _ => match e with
              | .norm => match Heap.load ⟨ht3, nx3⟩ i 0, Heap.load ⟨ht3, nx3⟩ j 0 with
                | some a, some b => match abeq a sv && abeq b nv with
                  | true => K .norm t ht3 nx3 (.coll :: ds)
                  | false => false
                | _, _ => false
              | _ => false
            | _ => false
          | _, _ => false
        | _, _, _ => false
      | _ => false
    | _, _ => false
  | _ => false

theorem chunkK_ok {P : Program} {G : Nat → Option Nat} {gf fuel : Nat} {L : Lore} (hL : L.X = chunkA P gf fuel bare) : XOK G L (chunkK P G gf fuel) := by
  intro sz call callk hs hc c t ht nx ds K h
  rw [hL]
  unfold chunkK at h
  split at h
  case h_2 => cases h
  rename_i g ps assign body
  split at h
  case h_2 => cases h
  rename_i p hps hpl
  obtain ⟨fv, h1, h⟩ := srcK_ok (G := G) hs h
  split at h
  case h_2 => cases h
  rename_i g' i j
  split at h
  case h_2 => cases h
  rename_i sv nv hgf hsv hnv
  split at h
  case h_2 => cases h
  rename_i xv hwh hnb
  rw [fV_eq] at h
  obtain ⟨t1, h2, h⟩ := dsK_ok (G := G) h
  obtain ⟨e, t2, H2, ds2, h3, h⟩ := codeK_ok (L := bare) hs hc noX_ok assign _ _ _ _ _ h
  dsimp only at h
  split at h
  case h_2 => cases h
  obtain ⟨e, t3, H3, ds3, h4, h⟩ := codeK_ok (L := bare) hs hc noX_ok body _ _ _ _ _ h
  dsimp only at h
  split at h
  case h_2 => cases h
  split at h
  case h_2 => cases h
  rename_i a b ha hb
  split at h
  case h_2 => cases h
  rename_i hsame
  have ha : H3.load i 0 = some a := ha
  have hb : H3.load j 0 = some b := hb
  have h4 : codeA P bare call fuel body ⟨⟨t2, sz, G⟩, H2, ds2⟩ = _ := h4
  refine ⟨_, t, H3, _, ?_, h⟩
  unfold chunkA
  simp only [hps, h1, hpl, hgf, hsv, hnv, hwh, hnb, h2, h3, h4, ha, hb, hsame]
end Ev
end Go.Proofs.YtpppaheennkkpaaGreatDoor

/- A live question, run by the kernel, where one laid variable is read on the way. -/
namespace Go.Proofs.YtpppaheennkkpaaGreatDoor
namespace Ev
open Go.RowKit

def oneG (g0 : Nat) : Nat → Option Nat := fun g => match Nat.beq g g0 with
  | true => some 0
  | false => none
noncomputable def oneH (cs : List AV) (ty : TypeId) : HT := T.set 16 (.leaf none) 0 (some (.cells (T.lay (dep cs.length) (.leaf default) 0 cs) cs.length ty))
noncomputable def sameBlk (ht : HT) (cs : List AV) : Bool := match ht.get 0 with
  | some (.cells t m _) => Nat.beq m cs.length && abeqs (t.list 0 m) cs
  | _ => false
def isTrue : AV → Bool
  | .bool true => true
  | _ => false

section
variable {σ : Nat → Value} {P : Program} {L : Lore} {X : XK} {fuel n f g0 : Nat} {cs : List AV} {ty : TypeId}

theorem live_ok (hm : P.follows .mixedOrders = true) (hs : ∀ i, (σ i).oneCell' = true) (hent : Enters P f) (hn : ∀ (g : Nat) (fn : Func), P.funcs[g]? = some fn → (fn.name == "runtime.NumGoroutine") = false) (hL : LoreOK σ P (oneG g0) L) (hX : XOK (oneG g0) L X) {w : World} {c : Array Value} (hw : w.heap[g0]? = some (.cells c ty (0, 0))) (hc : ∀ ρ, concs σ ρ cs = some c.toList) {args : List AV} {argv : List Value} (ha : ∀ ρ, concs σ ρ args = some argv)
    (hk : callK P (oneG g0) X L.D L.K fuel n f args (oneH cs ty) 1 (fun v ht _ => isTrue v && sameBlk ht cs) = true) :
    Calls P f argv.toArray w fun e w' => e = .returned (.bool true) ∧ Below w.heap.size w w' := by
  obtain ⟨r, H', h1, h2⟩ := callK_ok hX n f args _ _ _ hk
  rw [Bool.and_eq_true] at h2
  have hlen : c.size = cs.length := by have := concs_length (hc (fun _ => none)); simpa using this
  have hlt : g0 < w.heap.size := (Array.getElem?_eq_some_iff.1 hw).1
  let ρ0 : Place := fun i => match Nat.beq i 0 with
    | true => some ⟨g0, 0, cs.length⟩
    | false => none
  have r0 : ρ0 0 = some ⟨g0, 0, cs.length⟩ := rfl
  have rn : ∀ i p, ρ0 i = some p → i = 0 ∧ p = ⟨g0, 0, cs.length⟩ := fun i p h => by
    cases i with
    | zero => cases h; exact ⟨rfl, rfl⟩
    | succ i => cases h
  have hget : ∀ i, i < 65536 → (⟨oneH cs ty, 1⟩ : Heap).get i = if i = 0 then some (.cells (T.lay (dep cs.length) (.leaf default) 0 cs) cs.length ty) else none := fun i hi => by
    show (oneH cs ty).get i = _
    unfold oneH
    rw [T.get_set_lt (d := 16) (by omega) hi]
    rfl
  have hb : BR σ ρ0 ⟨g0, 0, cs.length⟩ (w.heap[g0]?) (.cells (T.lay (dep cs.length) (.leaf default) 0 cs) cs.length ty) := by
    refine ⟨c, (0, 0), hw, .inl rfl, by simp [hlen], Nat.le_refl _, fun i hi => ?_⟩
    have h3 := T.get_lay_in (d := dep cs.length) cs (.leaf default) 0 i (by have := lt_dep cs.length; omega) (Nat.zero_le _) (by omega)
    rw [Nat.sub_zero] at h3
    obtain ⟨v, h4, h5⟩ := concs_get (hc ρ0) h3
    exact ⟨v, by simpa using h4, h5⟩
  have hr : HR σ ρ0 ⟨oneH cs ty, 1⟩ w.heap := by
    refine ⟨by show 1 ≤ 65536; omega, fun i hi hi2 => ?_, fun i hi => ?_, fun i p hp => ?_, fun i k hi hk => ?_, fun i j k l p q hi hj _ _ _ _ _ => ?_⟩
    · have hi : 1 ≤ i := hi
      rw [hget i hi2, if_neg (by omega)]
    · have hi : 1 ≤ i := hi
      cases i with
      | zero => omega
      | succ i => rfl
    · obtain ⟨_, rfl⟩ := rn i p hp
      exact hlt
    · have hi : i < 1 := hi
      have : i = 0 := by omega
      subst this
      rw [hget 0 (by omega), if_pos rfl] at hk
      cases hk
      exact ⟨_, r0, hb⟩
    · have hi : i < 1 := hi
      have hj : j < 1 := hj
      omega
  have hG : GOK (oneG g0) ρ0 := fun g id hg => by
    unfold oneG at hg
    split at hg
    · rename_i hb
      cases hg
      have := Nat.eq_of_beq_eq_true hb
      subst this
      exact ⟨_, r0⟩
    · cases hg
  obtain ⟨_, hcalls⟩ : Enters P f ∧ _ := by
    rcases callA_ok (fuel := fuel) hm hs hn hL n f args _ r H' h1 with h | h
    · exact h
    · obtain ⟨_, _, _, h0, _⟩ := h ρ0 w argv hr hG (ha ρ0)
      rw [callFunc_run hent] at h0
      cases h0
  refine (hcalls ρ0 w argv hr hG (ha ρ0)).mono ?_
  rintro e w' ⟨ρ', v', rfl, g1, g2, g3⟩
  have hv : v' = .bool true := by
    cases r with
    | bool b => cases b with
      | true => simpa [conc] using g1.symm
      | false => exact absurd h2.1 (by simp [isTrue])
    | _ => exact absurd h2.1 (by simp [isTrue])
  subst hv
  refine ⟨rfl, g3.rest.1, g3.rest.2.2, g3.rest.2.1, g3.size, fun k hk => ?_⟩
  by_cases hkg : k = g0
  · subst hkg
    -- the laid variable
    have hsame := h2.2
    unfold sameBlk at hsame
    split at hsame
    · rename_i t m ty' hblk
      rw [Bool.and_eq_true] at hsame
      have e1 := Nat.eq_of_beq_eq_true hsame.1
      have e3 := abeqs_eq _ _ hsame.2
      have hblk' : H'.get 0 = some (.cells t m ty') := hblk
      have hm1 := g3.more
      have hm1 : 1 ≤ H'.next := hm1
      obtain ⟨p, q1, c2, fz, q2, _, q3, _, q4⟩ := g2.live 0 _ (by omega) hblk'
      have := g3.ext 0 _ r0
      rw [q1] at this; cases this
      have q2 : w'.heap[k]? = some (.cells c2 ty' fz) := q2
      obtain ⟨c3, q5⟩ := g3.cells 0 _ _ c ty (0, 0) (by show 0 < 1; omega) hblk' r0 hw
      rw [q2] at q5
      cases q5
      rw [hw, q2]
      congr 2
      refine Array.ext (by rw [q3, hlen]; simp) (fun i hi1 hi2 => ?_)
      obtain ⟨v, q6, q7⟩ := q4 i (by rw [e1, ← hlen]; exact hi2)
      have hl := T.list_get t m 0 i (by rw [e1, ← hlen]; exact hi2)
      rw [e3, Nat.zero_add] at hl
      obtain ⟨v2, q8, q9⟩ := concs_get (hc ρ') hl
      rw [q7] at q9; cases q9
      have q6 : c2[i]? = some v := by simpa using q6
      rw [Array.getElem?_eq_getElem hi1] at q6
      have q8 : c[i]? = some v := by simpa using q8
      rw [Array.getElem?_eq_getElem hi2] at q8
      exact (Option.some.inj q6).trans (Option.some.inj q8).symm
    · cases hsame
  · refine g3.keep k hk (fun i kk p hi hkk hp e => ?_)
    obtain ⟨_, rfl⟩ := rn i p hp
    exact hkg e.symm
end
end Ev
end Go.Proofs.YtpppaheennkkpaaGreatDoor

/- A live question, run by the kernel, where laid variables are read on the way. -/
namespace Go.Proofs.YtpppaheennkkpaaGreatDoor
namespace Ev
open Go.RowKit

/-- A laid variable: its number, its cells, its block's type. -/
structure Lv where
  g : Nat
  cs : List AV
  ty : TypeId
noncomputable def Lv.blk (x : Lv) : ABlk := .cells (T.lay (dep x.cs.length) (.leaf default) 0 x.cs) x.cs.length x.ty
def gsG : List Lv → Nat → Nat → Option Nat
  | [], _, _ => none
  | x :: l, i, g => match Nat.beq g x.g with
    | true => some i
    | false => gsG l (i + 1) g
noncomputable def hsH : List Lv → Nat → HT → HT
  | [], _, t => t
  | x :: l, i, t => hsH l (i + 1) (T.set 16 t i (some x.blk))
noncomputable def sameAt (ht : HT) (i : Nat) (cs : List AV) : Bool := match ht.get i with
  | some (.cells t m _) => Nat.beq m cs.length && abeqs (t.list 0 m) cs
  | _ => false
noncomputable def sameAll : List Lv → Nat → HT → Bool
  | [], _, _ => true
  | x :: l, i, ht => sameAt ht i x.cs && sameAll l (i + 1) ht

theorem gsG_some : ∀ (l : List Lv) (j g id : Nat), gsG l j g = some id → j ≤ id ∧ ∃ x, l[id - j]? = some x ∧ x.g = g
  | x :: l, j, g, id, h => by
    unfold gsG at h
    split at h
    · rename_i hb
      cases h
      exact ⟨Nat.le_refl _, x, by simp, (Nat.eq_of_beq_eq_true hb).symm⟩
    · obtain ⟨h1, y, h2, h3⟩ := gsG_some l (j + 1) g id h
      refine ⟨by omega, y, ?_, h3⟩
      rw [show id - j = (id - (j + 1)) + 1 by omega, List.getElem?_cons_succ]
      exact h2
theorem hsH_get : ∀ (l : List Lv) (j : Nat) (t : HT) (i : Nat), j + l.length ≤ 65536 → i < 65536 →
    (hsH l j t).get i = if j ≤ i ∧ i < j + l.length then (l[i - j]?).map Lv.blk else t.get i
  | [], j, t, i, _, _ => by
    rw [if_neg (fun h => by have := h.2; simp at this; omega)]; rfl
  | x :: l, j, t, i, hj, hi => by
    simp only [List.length_cons] at hj ⊢
    rw [hsH, hsH_get l (j + 1) _ i (by omega) hi]
    by_cases h1 : i = j
    · subst h1
      rw [if_neg (by omega), if_pos (by omega), Nat.sub_self, T.get_set_lt (d := 16) (by omega) hi, if_pos rfl]
      rfl
    · by_cases h2 : j + 1 ≤ i ∧ i < j + 1 + l.length
      · rw [if_pos h2, if_pos (by omega), show i - j = (i - (j + 1)) + 1 by omega, List.getElem?_cons_succ]
      · rw [if_neg h2, if_neg (by omega), T.get_set_lt (d := 16) (by omega) hi, if_neg h1]
theorem sameAll_at : ∀ (l : List Lv) (j : Nat) (ht : HT), sameAll l j ht = true → ∀ i x, l[i]? = some x → sameAt ht (j + i) x.cs = true
  | y :: l, j, ht, h, 0, x, hx => by
    rw [sameAll, Bool.and_eq_true] at h
    simp only [List.getElem?_cons_zero, Option.some.injEq] at hx
    subst hx
    exact h.1
  | y :: l, j, ht, h, i + 1, x, hx => by
    rw [sameAll, Bool.and_eq_true] at h
    rw [List.getElem?_cons_succ] at hx
    have := sameAll_at l (j + 1) ht h.2 i x hx
    rw [show j + (i + 1) = j + 1 + i by omega]
    exact this

section
variable {σ : Nat → Value} {P : Program} {L : Lore} {X : XK} {fuel n f N : Nat} {l : List Lv}

theorem live_many (hm : P.follows .mixedOrders = true) (hs : ∀ i, (σ i).oneCell' = true) (hent : Enters P f) (hn : ∀ (g : Nat) (fn : Func), P.funcs[g]? = some fn → (fn.name == "runtime.NumGoroutine") = false) (hL : LoreOK σ P (gsG l 0) L) (hX : XOK (gsG l 0) L X) {w : World} (hN : N = l.length) (hN2 : N < 65536) (hnd : ∀ (i j : Nat) (x y : Lv), l[i]? = some x → l[j]? = some y → x.g = y.g → i = j)
    (hw : ∀ (i : Nat) (x : Lv), l[i]? = some x → ∃ c, w.heap[x.g]? = some (.cells c x.ty (0, 0)) ∧ ∀ ρ, concs σ ρ x.cs = some c.toList) {args : List AV} {argv : List Value} (ha : ∀ ρ, concs σ ρ args = some argv)
    (hk : callK P (gsG l 0) X L.D L.K fuel n f args (hsH l 0 (.leaf none)) N (fun v ht _ => isTrue v && sameAll l 0 ht) = true) :
    Calls P f argv.toArray w fun e w' => e = .returned (.bool true) ∧ Below w.heap.size w w' := by
  obtain ⟨r, H', h1, h2⟩ := callK_ok hX n f args _ _ _ hk
  rw [Bool.and_eq_true] at h2
  have hlt : ∀ (i : Nat) (x : Lv), l[i]? = some x → x.g < w.heap.size := fun i x hx => by
    obtain ⟨c, hc, _⟩ := hw i x hx
    exact (Array.getElem?_eq_some_iff.1 hc).1
  have hil : ∀ (i : Nat) (x : Lv), l[i]? = some x → i < N := fun i x hx => by rw [hN]; exact (List.getElem?_eq_some_iff.1 hx).1
  let ρ0 : Place := fun i => (l[i]?).map fun x : Lv => ⟨x.g, 0, x.cs.length⟩
  have rn : ∀ i p, ρ0 i = some p → ∃ x, l[i]? = some x ∧ p = ⟨x.g, 0, x.cs.length⟩ := fun i p h => by
    have h : (l[i]?).map (fun x : Lv => (⟨x.g, 0, x.cs.length⟩ : Pl)) = some p := h
    cases e : l[i]? with
    | none => rw [e] at h; cases h
    | some x => rw [e] at h; cases h; exact ⟨x, rfl, rfl⟩
  have r0 : ∀ (i : Nat) (x : Lv), l[i]? = some x → ρ0 i = some ⟨x.g, 0, x.cs.length⟩ := fun i x h => by
    show (l[i]?).map _ = _
    rw [h]; rfl
  have hget : ∀ i, i < 65536 → (⟨hsH l 0 (.leaf none), N⟩ : Heap).get i = (l[i]?).map Lv.blk := fun i hi => by
    show (hsH l 0 (.leaf none)).get i = _
    rw [hsH_get l 0 _ i (by omega) hi, Nat.sub_zero]
    by_cases h : 0 ≤ i ∧ i < 0 + l.length
    · rw [if_pos h]
    · rw [if_neg h, List.getElem?_eq_none (by omega)]; rfl
  have hb : ∀ (i : Nat) (x : Lv), l[i]? = some x → BR σ ρ0 ⟨x.g, 0, x.cs.length⟩ (w.heap[x.g]?) x.blk := fun i x hx => by
    obtain ⟨c, hc, hcs⟩ := hw i x hx
    have hlen : c.size = x.cs.length := by have := concs_length (hcs (fun _ => none)); simpa using this
    refine ⟨c, (0, 0), hc, .inl rfl, by simp [hlen], Nat.le_refl _, fun j hj => ?_⟩
    have h3 := T.get_lay_in (d := dep x.cs.length) x.cs (.leaf default) 0 j (by have := lt_dep x.cs.length; omega) (Nat.zero_le _) (by omega)
    rw [Nat.sub_zero] at h3
    obtain ⟨v, h4, h5⟩ := concs_get (hcs ρ0) h3
    exact ⟨v, by simpa using h4, h5⟩
  have hr : HR σ ρ0 ⟨hsH l 0 (.leaf none), N⟩ w.heap := by
    refine ⟨by show N ≤ 65536; omega, fun i hi hi2 => ?_, fun i hi => ?_, fun i p hp => ?_, fun i k hi hk => ?_, fun i j k k' p q hi hj _ _ hp hq e => ?_⟩
    · have hi : N ≤ i := hi
      rw [hget i hi2, List.getElem?_eq_none (by omega)]; rfl
    · have hi : N ≤ i := hi
      show (l[i]?).map _ = none
      rw [List.getElem?_eq_none (by omega)]; rfl
    · obtain ⟨x, hx, rfl⟩ := rn i p hp
      exact hlt i x hx
    · have hi : i < N := hi
      rw [hget i (by omega)] at hk
      cases e : l[i]? with
      | none => rw [e] at hk; cases hk
      | some x =>
        rw [e] at hk
        cases hk
        exact ⟨_, r0 i x e, hb i x e⟩
    · obtain ⟨x, hx, rfl⟩ := rn i p hp
      obtain ⟨y, hy, rfl⟩ := rn j q hq
      exact hnd i j x y hx hy e
  have hG : GOK (gsG l 0) ρ0 := fun g id hg => by
    obtain ⟨_, x, hx, rfl⟩ := gsG_some l 0 g id hg
    rw [Nat.sub_zero] at hx
    exact ⟨_, r0 id x hx⟩
  obtain ⟨_, hcalls⟩ : Enters P f ∧ _ := by
    rcases callA_ok (fuel := fuel) hm hs hn hL n f args _ r H' h1 with h | h
    · exact h
    · obtain ⟨_, _, _, h0, _⟩ := h ρ0 w argv hr hG (ha ρ0)
      rw [callFunc_run hent] at h0
      cases h0
  refine (hcalls ρ0 w argv hr hG (ha ρ0)).mono ?_
  rintro e w' ⟨ρ', v', rfl, g1, g2, g3⟩
  have hv : v' = .bool true := by
    cases r with
    | bool b => cases b with
      | true => simpa [conc] using g1.symm
      | false => exact absurd h2.1 (by simp [isTrue])
    | _ => exact absurd h2.1 (by simp [isTrue])
  subst hv
  refine ⟨rfl, g3.rest.1, g3.rest.2.2, g3.rest.2.1, g3.size, fun k hk => ?_⟩
  by_cases hkg : ∃ (i : Nat) (x : Lv), l[i]? = some x ∧ x.g = k
  · obtain ⟨i, x, hx, rfl⟩ := hkg
    obtain ⟨c, hc, hcs⟩ := hw i x hx
    have hlen : c.size = x.cs.length := by have := concs_length (hcs (fun _ => none)); simpa using this
    have hsame := sameAll_at l 0 _ h2.2 i x hx
    rw [Nat.zero_add] at hsame
    have hiN := hil i x hx
    unfold sameAt at hsame
    split at hsame
    · rename_i t m ty' hblk
      rw [Bool.and_eq_true] at hsame
      have e1 := Nat.eq_of_beq_eq_true hsame.1
      have e3 := abeqs_eq _ _ hsame.2
      have hblk' : H'.get i = some (.cells t m ty') := hblk
      have hm1 := g3.more
      have hm1 : N ≤ H'.next := hm1
      obtain ⟨p, q1, c2, fz, q2, _, q3, _, q4⟩ := g2.live i _ (by omega) hblk'
      have := g3.ext i _ (r0 i x hx)
      rw [q1] at this; cases this
      have q2 : w'.heap[x.g]? = some (.cells c2 ty' fz) := q2
      obtain ⟨c3, q5⟩ := g3.cells i _ _ c x.ty (0, 0) hiN hblk' (r0 i x hx) hc
      rw [q2] at q5
      cases q5
      rw [hc, q2]
      congr 2
      refine Array.ext (by rw [q3, hlen]; simp) (fun j hi1 hi2 => ?_)
      obtain ⟨v, q6, q7⟩ := q4 j (by rw [e1, ← hlen]; exact hi2)
      have hl := T.list_get t m 0 j (by rw [e1, ← hlen]; exact hi2)
      rw [e3, Nat.zero_add] at hl
      obtain ⟨v2, q8, q9⟩ := concs_get (hcs ρ') hl
      rw [q7] at q9; cases q9
      have q6 : c2[j]? = some v := by simpa using q6
      rw [Array.getElem?_eq_getElem hi1] at q6
      have q8 : c[j]? = some v := by simpa using q8
      rw [Array.getElem?_eq_getElem hi2] at q8
      exact (Option.some.inj q6).trans (Option.some.inj q8).symm
    · cases hsame
  · refine g3.keep k hk (fun i kk p hi hkk hp e => ?_)
    obtain ⟨x, hx, rfl⟩ := rn i p hp
    exact hkg ⟨i, x, hx, e⟩
end
end Ev
end Go.Proofs.YtpppaheennkkpaaGreatDoor

/- The compiled run: a range over slices.Chunk at one piece, over slices.Backward where there is nothing. -/
namespace Go.Proofs.YtpppaheennkkpaaGreatDoor
namespace Ev

noncomputable def backK (G : Nat → Option Nat) (gb : Nat) : XK := fun sz _ c t ht nx ds K => match c with
  | .rangeFunc g _ _ _ => srcK G (srcOf sz g) t fun fv => match fv with
    | .fn (.func g') [] [.ptr i 0] => match Nat.beq g' gb, Heap.load ⟨ht, nx⟩ i 0 with
      | true, some v => match emptyA v with
        | true => K .norm t ht nx (.coll :: ds)
        | false => false
      | _, _ => false
    | _ => false
  | _ => false
noncomputable def rangeK (P : Program) (G : Nat → Option Nat) (gf gb fuel : Nat) : XK := fun sz call c t ht nx ds K => Bool.rec (motive := fun _ => Bool) (chunkK P G gf fuel sz call c t ht nx ds K) true (backK G gb sz call c t ht nx ds K)

theorem rangeK_ok {P : Program} {G : Nat → Option Nat} {gf gb fuel : Nat} (hne : gf ≠ gb) {L : Lore} (hL : L.X = rangeA P gf gb fuel bare) : XOK G L (rangeK P G gf gb fuel) := by
  intro sz call callk hs hc c t ht nx ds K h
  rw [hL]
  unfold rangeK at h
  cases hb : backK G gb sz callk c t ht nx ds K with
  | true =>
    unfold backK at hb
    split at hb
    case h_2 => cases hb
    rename_i g ps assign body
    obtain ⟨fv, h1, hb⟩ := srcK_ok (G := G) hs hb
    split at hb
    case h_2 => cases hb
    rename_i g' i
    split at hb
    case h_2 => cases hb
    rename_i v hg hv
    split at hb
    case h_2 => cases hb
    rename_i hemp
    have hv : Heap.load ⟨ht, nx⟩ i 0 = some v := hv
    refine ⟨_, t, ⟨ht, nx⟩, _, ?_, hb⟩
    unfold rangeA backA
    simp only [h1, hg, hv, hemp]
  | false =>
    rw [hb] at h
    obtain ⟨e, t', H', ds', h1, h2⟩ := chunkK_ok (P := P) (G := G) (gf := gf) (fuel := fuel) (L := ⟨fun _ _ => none, chunkA P gf fuel bare, fun _ => none⟩) rfl sz call callk hs hc c t ht nx ds K h
    refine ⟨e, t', H', ds', ?_, h2⟩
    have h1 : chunkA P gf fuel bare call c ⟨⟨t, sz, G⟩, ⟨ht, nx⟩, ds⟩ = _ := h1
    unfold rangeA
    rw [backA_none hne h1]
    exact h1
end Ev
end Go.Proofs.YtpppaheennkkpaaGreatDoor

/- The compiled run: the ranges over slices.Chunk and slices.Backward that are met. -/
namespace Go.Proofs.YtpppaheennkkpaaGreatDoor
namespace Ev

noncomputable def backOneK (P : Program) (G : Nat → Option Nat) (gb k fuel : Nat) : XK := fun sz call c t ht nx ds K => match c with
  | .rangeFunc g ps assign body => match ps.toList, plainC assign && plainC body with
    | [p, q], true => srcK G (srcOf sz g) t fun fv => match fv with
      | .fn (.func g') [] [.ptr i 0] => match Nat.beq g' gb, Heap.load ⟨ht, nx⟩ i 0 with
        | true, some sv => match oneA sv with
          | some (id, off) => match Heap.loads ⟨ht, nx⟩ id off k with
            | some xl => fV (.agg xl) fun xv => dsK (dsOf sz (some p)) t (.int .i64 (.ofNat 0)) fun t0 => dsK (dsOf sz (some q)) t0 xv fun t1 => codeK P G noX call fuel sz (ccOf P sz assign) t1 ht nx [] fun e t2 ht2 nx2 ds2 => match e with
              | .norm => codeK P G noX call fuel sz (ccOf P sz body) t2 ht2 nx2 ds2 fun e _ ht3 nx3 _ => K e t ht3 nx3 (.coll :: ds)
              | _ => false
            | none => false
          | none => false
        | _, _ => false
      | _ => false
    | _, _ => false
  | _ => false
theorem backOneK_ok {P : Program} {G : Nat → Option Nat} {gb k fuel : Nat} {L : Lore} (hL : L.X = backOneA P gb k fuel bare) : XOK G L (backOneK P G gb k fuel) := by
  intro sz call callk hs hc c t ht nx ds K h
  rw [hL]
  unfold backOneK at h
  split at h
  case h_2 => cases h
  rename_i g ps assign body
  split at h
  case h_2 => cases h
  rename_i p q hps hpl
  obtain ⟨fv, h1, h⟩ := srcK_ok (G := G) hs h
  split at h
  case h_2 => cases h
  rename_i g' i
  split at h
  case h_2 => cases h
  rename_i sv hgf hsv
  split at h
  case h_2 => cases h
  rename_i id off hone
  split at h
  case h_2 => cases h
  rename_i xl hxv
  rw [fV_eq] at h
  obtain ⟨t0, h2, h⟩ := dsK_ok (G := G) h
  obtain ⟨t1, h3, h⟩ := dsK_ok (G := G) h
  obtain ⟨e, t2, H2, ds2, h4, h⟩ := codeK_ok (L := bare) hs hc noX_ok assign _ _ _ _ _ h
  dsimp only at h
  split at h
  case h_2 => cases h
  obtain ⟨e, t3, H3, ds3, h5, h⟩ := codeK_ok (L := bare) hs hc noX_ok body _ _ _ _ _ h
  have h5 : codeA P bare call fuel body ⟨⟨t2, sz, G⟩, H2, ds2⟩ = _ := h5
  refine ⟨e, t, H3, _, ?_, h⟩
  unfold backOneA
  simp only [hps, h1, hpl, hgf, hsv, hone, hxv, h2, h3, h4, h5]

noncomputable def rangesK (P : Program) (G : Nat → Option Nat) (gf gb k fuel : Nat) : XK := fun sz call c t ht nx ds K => Bool.rec (motive := fun _ => Bool) (Bool.rec (motive := fun _ => Bool) (chunkK P G gf fuel sz call c t ht nx ds K) true (backOneK P G gb k fuel sz call c t ht nx ds K)) true (backK G gb sz call c t ht nx ds K)
theorem backK_ok {G : Nat → Option Nat} {gb : Nat} {L : Lore} (hL : L.X = fun _ => backA gb) : XOK G L (backK G gb) := by
  intro sz call callk hs hc c t ht nx ds K hb
  rw [hL]
  unfold backK at hb
  split at hb
  case h_2 => cases hb
  rename_i g ps assign body
  obtain ⟨fv, h1, hb⟩ := srcK_ok (G := G) hs hb
  split at hb
  case h_2 => cases hb
  rename_i g' i
  split at hb
  case h_2 => cases hb
  rename_i v hg hv
  split at hb
  case h_2 => cases hb
  rename_i hemp
  have hv : Heap.load ⟨ht, nx⟩ i 0 = some v := hv
  refine ⟨_, t, ⟨ht, nx⟩, _, ?_, hb⟩
  unfold backA
  simp only [h1, hg, hv, hemp]
theorem rangesK_ok {P : Program} {G : Nat → Option Nat} {gf gb k fuel : Nat} (hne : gf ≠ gb) {L : Lore} (hL : L.X = rangesA P gf gb k fuel bare) : XOK G L (rangesK P G gf gb k fuel) := by
  intro sz call callk hs hc c t ht nx ds K h
  rw [hL]
  unfold rangesK at h
  cases hb : backK G gb sz callk c t ht nx ds K with
  | true =>
    obtain ⟨e, t', H', ds', h1, h2⟩ := backK_ok (G := G) (gb := gb) (L := ⟨fun _ _ => none, fun _ => backA gb, fun _ => none⟩) rfl sz call callk hs hc c t ht nx ds K hb
    have h1 : backA gb c ⟨⟨t, sz, G⟩, ⟨ht, nx⟩, ds⟩ = _ := h1
    exact ⟨e, t', H', ds', by unfold rangesA; rw [h1], h2⟩
  | false =>
    rw [hb] at h
    cases ho : backOneK P G gb k fuel sz callk c t ht nx ds K with
    | true =>
      obtain ⟨e, t', H', ds', h1, h2⟩ := backOneK_ok (P := P) (G := G) (gb := gb) (k := k) (fuel := fuel) (L := ⟨fun _ _ => none, backOneA P gb k fuel bare, fun _ => none⟩) rfl sz call callk hs hc c t ht nx ds K ho
      have h1 : backOneA P gb k fuel bare call c ⟨⟨t, sz, G⟩, ⟨ht, nx⟩, ds⟩ = _ := h1
      exact ⟨e, t', H', ds', by unfold rangesA; rw [backA_none' h1, h1], h2⟩
    | false =>
      rw [ho] at h
      obtain ⟨e, t', H', ds', h1, h2⟩ := chunkK_ok (P := P) (G := G) (gf := gf) (fuel := fuel) (L := ⟨fun _ _ => none, chunkA P gf fuel bare, fun _ => none⟩) rfl sz call callk hs hc c t ht nx ds K h
      have h1 : chunkA P gf fuel bare call c ⟨⟨t, sz, G⟩, ⟨ht, nx⟩, ds⟩ = _ := h1
      exact ⟨e, t', H', ds', by unfold rangesA; rw [backA_none hne h1, backOneA_none h1]; exact h1, h2⟩
end Ev
end Go.Proofs.YtpppaheennkkpaaGreatDoor
