/- A statement whose order Go leaves open: memory in parts. -/
import Derived.Test.YtikmamcbngbipaaGreatDoorES
namespace Go.Proofs.YtikmamcbngbipaaGreatDoor
namespace Ev

section
variable {σ : Nat → Value} {ρ ρ' : Place} {P : Program} {G : Nat → Option Nat} {H H' C : Heap} {h : Array Obj} {w w' : World}

/-- Of less memory as much is known. -/
theorem HR.sub {X Y : Heap} (hr : HR σ ρ X h) (hn : Y.next = X.next) (hs : ∀ i k, i < 65536 → Y.get i = some k → X.get i = some k) : HR σ ρ Y h := by
  have s := hr.small
  refine ⟨by rw [hn]; exact hr.small, fun i hi hi2 => ?_, by rw [hn]; exact hr.fresh, hr.bound, fun i k hi e => hr.live i k (hn ▸ hi) (hs i k (by omega) e), fun i j k l p q hi hj e1 e2 => hr.inj i j k l p q (hn ▸ hi) (hn ▸ hj) (hs i k (by omega) e1) (hs j l (by omega) e2)⟩
  cases hg : Y.get i with
  | none => rfl
  | some k =>
    have := hs i k hi2 hg
    rw [hr.out i (hn ▸ hi) hi2] at this; cases this

/-- What an operation does to a part of the memory, the rest of it standing beside. -/
theorem HR.join {X Y Z : Heap} (hx : HR σ ρ X w.heap) (hn : Y.next = X.next) (hsub : ∀ i k, i < 65536 → Y.get i = some k → X.get i = some k) (hst : Step ρ Y w ρ' C w') (hc : HR σ ρ' C w'.heap) (hz : Z.next = C.next)
    (hzg : ∀ i k, i < 65536 → Z.get i = some k → C.get i = some k ∨ (i < X.next ∧ X.get i = some k ∧ Y.get i = none)) : HR σ ρ' Z w'.heap := by
  have s := hc.small
  have sx := hx.small
  refine ⟨by rw [hz]; exact hc.small, fun i hi hi2 => ?_, by rw [hz]; exact hc.fresh, hc.bound, fun i k hi e => ?_, fun i j k l p q hi hj e1 e2 p1 p2 hpq => ?_⟩
  · cases hg : Z.get i with
    | none => rfl
    | some k =>
      rw [hz] at hi
      rcases hzg i k hi2 hg with e | ⟨e1, e2, e3⟩
      · rw [hc.out i hi hi2] at e; cases e
      · have := hst.more; omega
  · rw [hz] at hi
    rcases hzg i k (by omega) e with e | ⟨e1, e2, e3⟩
    · exact hc.live i k hi e
    · obtain ⟨p, hp, hb⟩ := hx.live i k e1 e2
      refine ⟨p, hst.ext i p hp, ?_⟩
      rw [hst.keep p.b (hx.bound i p hp) (fun j l q hj hl hq hqp => ?_)]
      · exact hb.mono hst.ext
      · have hj' : j < X.next := hn ▸ hj
        have := hx.inj j i l k q p hj' e1 (hsub j l (by omega) hl) e2 hq hp hqp
        subst this
        rw [e3] at hl; cases hl
  · rw [hz] at hi hj
    have old : ∀ i k p, i < X.next → X.get i = some k → ρ' i = some p → ρ i = some p := fun i k p hi hk hp => by
      obtain ⟨q, hq, _⟩ := hx.live i k hi hk
      have := hst.ext i q hq
      rw [hp] at this; cases this; exact hq
    have cross : ∀ i j k l p q, i < C.next → C.get i = some k → ρ' i = some p → j < X.next → X.get j = some l → Y.get j = none → ρ' j = some q → p.b = q.b → False := fun i j k l p q hi hk hp hj hl hyn hq hpq => by
      have hq' := old j l q hj hl hq
      obtain ⟨j', l', q', h1, h2, h3, h4⟩ := hst.back i k p hi hk hp (by rw [hpq]; exact hx.bound j q hq')
      have h1' : j' < X.next := hn ▸ h1
      have := hx.inj j' j l' l q' q h1' hj (hsub j' l' (by omega) h2) hl h3 hq' (h4.trans hpq)
      subst this
      rw [hyn] at h2; cases h2
    rcases hzg i k (by omega) e1 with a | ⟨a1, a2, a3⟩ <;> rcases hzg j l (by omega) e2 with b | ⟨b1, b2, b3⟩
    · exact hc.inj i j k l p q hi hj a b p1 p2 hpq
    · exact (cross i j k l p q hi a p1 b1 b2 b3 p2 hpq).elim
    · exact (cross j i l k q p hj b p2 a1 a2 a3 p1 hpq.symm).elim
    · exact hx.inj i j k l p q a1 b1 a2 b2 (old i k p a1 a2 p1) (old j l q b1 b2 p2) hpq

/-- The same of what was done since the statement's beginning. -/
theorem Step.join {ρ0 : Place} {H0 X Y Z : Heap} {w0 : World} (hx : HR σ ρ X w.heap) (h0 : Step ρ0 H0 w0 ρ X w) (hn : Y.next = X.next) (hsub : ∀ i k, i < 65536 → Y.get i = some k → X.get i = some k) (hst : Step ρ Y w ρ' C w') (hc : HR σ ρ' C w'.heap) (hz : Z.next = C.next)
    (hzg : ∀ i k, i < 65536 → Z.get i = some k → C.get i = some k ∨ (H0.next ≤ i ∧ i < X.next ∧ X.get i = some k ∧ Y.get i = none)) (hzn : ∀ i, i < H0.next → C.get i = none → Z.get i = none) : Step ρ0 H0 w0 ρ' Z w' := by
  have s := hc.small
  have sx := hx.small
  refine ⟨h0.ext.trans hst.ext, Nat.le_trans h0.size hst.size, fun c hc' hne => ?_, fun i k p hi e hp hb => ?_, ⟨hst.rest.1.trans h0.rest.1, hst.rest.2.1.trans h0.rest.2.1, hst.rest.2.2.trans h0.rest.2.2⟩, ?_, fun i hi => ?_, fun i hi e => ?_, fun i k p c ty f hi hk hp h => ?_⟩
  case refine_6 =>
    have hm := h0.more
    have hCi : C.get i = some k := by
      rcases hzg i k (by omega) hk with a | ⟨a1, _⟩
      · exact a
      · omega
    cases e : Y.get i with
    | none => rw [hst.dead i (by omega) e] at hCi; cases hCi
    | some k2 =>
      obtain ⟨c1, h1⟩ := h0.cells i k2 p c ty f hi (hsub i k2 (by omega) e) hp h
      exact hst.cells i k p c1 ty f (by omega) hCi ((h0.same i hi).trans hp) h1
  · rw [hst.keep c (Nat.lt_of_lt_of_le hc' h0.size) (fun j l q hj hl hq hqc => ?_), h0.keep c hc' hne]
    have hj' : j < X.next := hn ▸ hj
    obtain ⟨j', l', q', h1, h2, h3, h4⟩ := h0.back j l q hj' (hsub j l (by omega) hl) hq (hqc ▸ hc')
    exact hne j' l' q' h1 h2 h3 (h4.trans hqc)
  · rw [hz] at hi
    rcases hzg i k (by omega) e with a | ⟨_, a1, a2, a3⟩
    · obtain ⟨j, l, q, h1, h2, h3, h4⟩ := hst.back i k p hi a hp (Nat.lt_of_lt_of_le hb h0.size)
      have h1' : j < X.next := hn ▸ h1
      obtain ⟨j', l', q', g1, g2, g3, g4⟩ := h0.back j l q h1' (hsub j l (by omega) h2) h3 (h4 ▸ hb)
      exact ⟨j', l', q', g1, g2, g3, g4.trans h4⟩
    · obtain ⟨q, hq, _⟩ := hx.live i k a1 a2
      have := hst.ext i q hq
      rw [hp] at this; cases this
      exact h0.back i k p a1 a2 hq hb
  · rw [hz]; exact Nat.le_trans h0.more (hn ▸ hst.more)
  · rw [hst.same i (by rw [hn]; exact Nat.lt_of_lt_of_le hi h0.more), h0.same i hi]
  · refine hzn i hi (hst.dead i (by rw [hn]; exact Nat.lt_of_lt_of_le hi h0.more) ?_)
    cases hg : Y.get i with
    | none => rfl
    | some k =>
      have hx0 := h0.dead i hi e
      rw [hsub i k (by have := h0.more; omega) hg] at hx0; cases hx0

/-- A block made under a number that was kept for it. -/
theorem HR.newAt {X : Heap} (hr : HR σ ρ X h) {i : Nat} (hi : i < X.next) (he : ρ i = none) {p : Pl} {k : ABlk} {x : Obj} (hp : p.b = h.size) (hb : BR σ (ρ.with i p) p (some x) k) : HR σ (ρ.with i p) (X.put i k) (h.push x) := by
  have s := hr.small
  have hle : ρ.le (ρ.with i p) := Place.with_le he
  have gp : ∀ j, j < 65536 → (X.put i k).get j = if j = i then some k else X.get j := fun j hj => get_put (by omega) hj
  refine ⟨hr.small, fun j hj hj2 => ?_, fun j hj => ?_, fun j q e => ?_, fun j l hj e => ?_, fun j1 j2 l1 l2 q1 q2 h1 h2 e1 e2 p1 p2 hc => ?_⟩
  · have hj' : X.next ≤ j := hj
    rw [gp j hj2, if_neg (by omega)]; exact hr.out j hj' hj2
  · have hj' : X.next ≤ j := hj
    rw [Place.with_ne (by omega)]; exact hr.fresh j hj'
  · rw [Array.size_push]
    by_cases hj : j = i
    · subst hj; rw [Place.with_self] at e; cases e; omega
    · rw [Place.with_ne hj] at e; have := hr.bound _ _ e; omega
  · have hj' : j < X.next := hj
    rw [gp j (by omega)] at e
    split at e
    · rename_i hji; subst hji; cases e
      exact ⟨_, Place.with_self, by rw [hp, Array.getElem?_push_size]; exact hb⟩
    · rename_i hji
      obtain ⟨q, a, b⟩ := hr.live j l hj' e
      have hc := hr.bound _ _ a
      refine ⟨q, hle _ _ a, ?_⟩
      rw [Array.getElem?_push_lt hc, ← Array.getElem?_eq_getElem hc]
      exact b.mono hle
  · have h1' : j1 < X.next := h1
    have h2' : j2 < X.next := h2
    rw [gp _ (by omega)] at e1 e2
    by_cases a1 : j1 = i
    · by_cases a2 : j2 = i
      · omega
      · rw [a1, Place.with_self] at p1; cases p1
        rw [Place.with_ne a2] at p2
        have := hr.bound _ _ p2; omega
    · rw [Place.with_ne a1] at p1
      by_cases a2 : j2 = i
      · rw [a2, Place.with_self] at p2; cases p2
        have := hr.bound _ _ p1; omega
      · rw [Place.with_ne a2] at p2
        rw [if_neg a1] at e1
        rw [if_neg a2] at e2
        exact hr.inj j1 j2 l1 l2 q1 q2 h1' h2' e1 e2 p1 p2 hc
theorem Step.newAt {ρ0 : Place} {H0 X : Heap} {w0 : World} (hx : HR σ ρ X w.heap) (h0 : Step ρ0 H0 w0 ρ X w) {i : Nat} (h1 : H0.next ≤ i) (hi : i < X.next) (he : ρ i = none) {p : Pl} {k : ABlk} {x : Obj} (hp : p.b = w.heap.size)
    (hw' : w'.heap = w.heap.push x) (rest : w'.os = w.os ∧ w'.output = w.output ∧ w'.tape = w.tape) : Step ρ0 H0 w0 (ρ.with i p) (X.put i k) w' := by
  have s := hx.small
  have gp : ∀ j, j < 65536 → (X.put i k).get j = if j = i then some k else X.get j := fun j hj => get_put (by omega) hj
  refine ⟨h0.ext.trans (Place.with_le he), by rw [hw', Array.size_push]; have := h0.size; omega, fun c hc hne => ?_, fun j l q hj e a hc => ?_, ⟨rest.1.trans h0.rest.1, rest.2.1.trans h0.rest.2.1, rest.2.2.trans h0.rest.2.2⟩, h0.more, fun j hj => ?_, fun j hj e => ?_, fun j l q c ty f hj e hq hy => by
    have := h0.more
    rw [gp j (by omega), if_neg (by omega)] at e
    obtain ⟨c1, h1⟩ := h0.cells j l q c ty f hj e hq hy
    have hlt := (Array.getElem?_eq_some_iff.1 h1).1
    exact ⟨c1, by rw [hw', Array.getElem?_push_lt hlt, ← Array.getElem?_eq_getElem hlt]; exact h1⟩⟩
  · have := h0.size
    rw [hw', Array.getElem?_push_lt (by omega), ← Array.getElem?_eq_getElem (by omega)]
    exact h0.keep c hc hne
  · have hj' : j < X.next := hj
    rw [gp j (by omega)] at e
    by_cases b : j = i
    · rw [b, Place.with_self] at a; cases a
      have := h0.size; omega
    · rw [if_neg b] at e
      rw [Place.with_ne b] at a
      exact h0.back j l q hj' e a hc
  · rw [Place.with_ne (by omega)]; exact h0.same j hj
  · rw [gp j (by have := h0.more; omega), if_neg (by omega)]; exact h0.dead j hj e
end
end Ev
end Go.Proofs.YtikmamcbngbipaaGreatDoor
