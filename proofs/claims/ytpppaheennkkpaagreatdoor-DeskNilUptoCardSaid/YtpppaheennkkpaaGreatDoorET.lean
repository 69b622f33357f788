/- A statement whose order Go leaves open: memory in parts. -/
import Derived.Test.YtpppaheennkkpaaGreatDoorEK
import Derived.StillTail
namespace Go.Proofs.YtpppaheennkkpaaGreatDoor
namespace Ev

section
variable {σ : Nat → Value} {ρ ρ' : Place} {P : Program} {G : Nat → Option Nat} {H H' C : Heap} {h : Array Obj} {w w' : World}

/-- Of less memory as much is known. -/
theorem HR.sub {X Y : Heap} (hr : HR σ ρ X h) (hn : Y.next = X.next) (hs : ∀ i k, i < 65536 → Y.get i = some k → X.get i = some k) : HR σ ρ Y h := by
  have s := hr.small
  refine ⟨by rw [hn]; exact hr.small, fun i hi hi2 => ?_, by rw [hn]; exact hr.fresh, hr.bound, fun i k hi e => hr.live i k (hn ▸ hi) (hs i k (by omega) e), fun i j k l p q hi hj e1 e2 => hr.inj i j k l p q (hn ▸ hi) (hn ▸ hj) (hs i k (by omega) e1) (hs j l (by omega) e2)⟩
  cases hg : Y.get i with
  | none => rfl
  | some k =>
    have := hs i k hi2 hg
    rw [hr.out i (hn ▸ hi) hi2] at this; cases this

/-- What an operation does to a part of the memory, the rest of it standing beside. -/
theorem HR.join {X Y Z : Heap} (hx : HR σ ρ X w.heap) (hn : Y.next = X.next) (hsub : ∀ i k, i < 65536 → Y.get i = some k → X.get i = some k) (hst : Step ρ Y w ρ' C w') (hc : HR σ ρ' C w'.heap) (hz : Z.next = C.next)
    (hzg : ∀ i k, i < 65536 → Z.get i = some k → C.get i = some k ∨ (i < X.next ∧ X.get i = some k ∧ Y.get i = none)) : HR σ ρ' Z w'.heap := by
  have s := hc.small
  have sx := hx.small
  refine ⟨by rw [hz]; exact hc.small, fun i hi hi2 => ?_, by rw [hz]; exact hc.fresh, hc.bound, fun i k hi e => ?_, fun i j k l p q hi hj e1 e2 p1 p2 hpq => ?_⟩
  · cases hg : Z.get i with
    | none => rfl
    | some k =>
      rw [hz] at hi
      rcases hzg i k hi2 hg with e | ⟨e1, e2, e3⟩
      · rw [hc.out i hi hi2] at e; cases e
      · have := hst.more; omega
  · rw [hz] at hi
    rcases hzg i k (by omega) e with e | ⟨e1, e2, e3⟩
    · exact hc.live i k hi e
    · obtain ⟨p, hp, hb⟩ := hx.live i k e1 e2
      refine ⟨p, hst.ext i p hp, ?_⟩
      rw [hst.keep p.b (hx.bound i p hp) (fun j l q hj hl hq hqp => ?_)]
      · exact hb.mono hst.ext
      · have hj' : j < X.next := hn ▸ hj
        have := hx.inj j i l k q p hj' e1 (hsub j l (by omega) hl) e2 hq hp hqp
        subst this
        rw [e3] at hl; cases hl
  · rw [hz] at hi hj
    have old : ∀ i k p, i < X.next → X.get i = some k → ρ' i = some p → ρ i = some p := fun i k p hi hk hp => by
      obtain ⟨q, hq, _⟩ := hx.live i k hi hk
      have := hst.ext i q hq
      rw [hp] at this; cases this; exact hq
    have cross : ∀ i j k l p q, i < C.next → C.get i = some k → ρ' i = some p → j < X.next → X.get j = some l → Y.get j = none → ρ' j = some q → p.b = q.b → False := fun i j k l p q hi hk hp hj hl hyn hq hpq => by
      have hq' := old j l q hj hl hq
      obtain ⟨j', l', q', h1, h2, h3, h4⟩ := hst.back i k p hi hk hp (by rw [hpq]; exact hx.bound j q hq')
      have h1' : j' < X.next := hn ▸ h1
      have := hx.inj j' j l' l q' q h1' hj (hsub j' l' (by omega) h2) hl h3 hq' (h4.trans hpq)
      subst this
      rw [hyn] at h2; cases h2
    rcases hzg i k (by omega) e1 with a | ⟨a1, a2, a3⟩ <;> rcases hzg j l (by omega) e2 with b | ⟨b1, b2, b3⟩
    · exact hc.inj i j k l p q hi hj a b p1 p2 hpq
    · exact (cross i j k l p q hi a p1 b1 b2 b3 p2 hpq).elim
    · exact (cross j i l k q p hj b p2 a1 a2 a3 p1 hpq.symm).elim
    · exact hx.inj i j k l p q a1 b1 a2 b2 (old i k p a1 a2 p1) (old j l q b1 b2 p2) hpq

/-- The same of what was done since the statement's beginning. -/
theorem Step.join {ρ0 : Place} {H0 X Y Z : Heap} {w0 : World} (hx : HR σ ρ X w.heap) (h0 : Step ρ0 H0 w0 ρ X w) (hn : Y.next = X.next) (hsub : ∀ i k, i < 65536 → Y.get i = some k → X.get i = some k) (hst : Step ρ Y w ρ' C w') (hc : HR σ ρ' C w'.heap) (hz : Z.next = C.next)
    (hzg : ∀ i k, i < 65536 → Z.get i = some k → C.get i = some k ∨ (H0.next ≤ i ∧ i < X.next ∧ X.get i = some k ∧ Y.get i = none)) (hzn : ∀ i, i < H0.next → C.get i = none → Z.get i = none) : Step ρ0 H0 w0 ρ' Z w' := by
  have s := hc.small
  have sx := hx.small
  refine ⟨h0.ext.trans hst.ext, Nat.le_trans h0.size hst.size, fun c hc' hne => ?_, fun i k p hi e hp hb => ?_, ⟨hst.rest.1.trans h0.rest.1, hst.rest.2.1.trans h0.rest.2.1, hst.rest.2.2.trans h0.rest.2.2⟩, ?_, fun i hi => ?_, fun i hi e => ?_, fun i k p c ty f hi hk hp h => ?_⟩
  case refine_6 =>
    have hm := h0.more
    have hCi : C.get i = some k := by
      rcases hzg i k (by omega) hk with a | ⟨a1, _⟩
      · exact a
      · omega
    cases e : Y.get i with
    | none => rw [hst.dead i (by omega) e] at hCi; cases hCi
    | some k2 =>
      obtain ⟨c1, h1⟩ := h0.cells i k2 p c ty f hi (hsub i k2 (by omega) e) hp h
      exact hst.cells i k p c1 ty f (by omega) hCi ((h0.same i hi).trans hp) h1
  · rw [hst.keep c (Nat.lt_of_lt_of_le hc' h0.size) (fun j l q hj hl hq hqc => ?_), h0.keep c hc' hne]
    have hj' : j < X.next := hn ▸ hj
    obtain ⟨j', l', q', h1, h2, h3, h4⟩ := h0.back j l q hj' (hsub j l (by omega) hl) hq (hqc ▸ hc')
    exact hne j' l' q' h1 h2 h3 (h4.trans hqc)
  · rw [hz] at hi
    rcases hzg i k (by omega) e with a | ⟨_, a1, a2, a3⟩
    · obtain ⟨j, l, q, h1, h2, h3, h4⟩ := hst.back i k p hi a hp (Nat.lt_of_lt_of_le hb h0.size)
      have h1' : j < X.next := hn ▸ h1
      obtain ⟨j', l', q', g1, g2, g3, g4⟩ := h0.back j l q h1' (hsub j l (by omega) h2) h3 (h4 ▸ hb)
      exact ⟨j', l', q', g1, g2, g3, g4.trans h4⟩
    · obtain ⟨q, hq, _⟩ := hx.live i k a1 a2
      have := hst.ext i q hq
      rw [hp] at this; cases this
      exact h0.back i k p a1 a2 hq hb
  · rw [hz]; exact Nat.le_trans h0.more (hn ▸ hst.more)
  · rw [hst.same i (by rw [hn]; exact Nat.lt_of_lt_of_le hi h0.more), h0.same i hi]
  · refine hzn i hi (hst.dead i (by rw [hn]; exact Nat.lt_of_lt_of_le hi h0.more) ?_)
    cases hg : Y.get i with
    | none => rfl
    | some k =>
      have hx0 := h0.dead i hi e
      rw [hsub i k (by have := h0.more; omega) hg] at hx0; cases hx0

/-- A block made under a number that was kept for it. -/
theorem HR.newAt {X : Heap} (hr : HR σ ρ X h) {i : Nat} (hi : i < X.next) (he : ρ i = none) {p : Pl} {k : ABlk} {x : Obj} (hp : p.b = h.size) (hb : BR σ (ρ.with i p) p (some x) k) : HR σ (ρ.with i p) (X.put i k) (h.push x) := by
  have s := hr.small
  have hle : ρ.le (ρ.with i p) := Place.with_le he
  have gp : ∀ j, j < 65536 → (X.put i k).get j = if j = i then some k else X.get j := fun j hj => get_put (by omega) hj
  refine ⟨hr.small, fun j hj hj2 => ?_, fun j hj => ?_, fun j q e => ?_, fun j l hj e => ?_, fun j1 j2 l1 l2 q1 q2 h1 h2 e1 e2 p1 p2 hc => ?_⟩
  · have hj' : X.next ≤ j := hj
    rw [gp j hj2, if_neg (by omega)]; exact hr.out j hj' hj2
  · have hj' : X.next ≤ j := hj
    rw [Place.with_ne (by omega)]; exact hr.fresh j hj'
  · rw [Array.size_push]
    by_cases hj : j = i
    · subst hj; rw [Place.with_self] at e; cases e; omega
    · rw [Place.with_ne hj] at e; have := hr.bound _ _ e; omega
  · have hj' : j < X.next := hj
    rw [gp j (by omega)] at e
    split at e
    · rename_i hji; subst hji; cases e
      exact ⟨_, Place.with_self, by rw [hp, Array.getElem?_push_size]; exact hb⟩
    · rename_i hji
      obtain ⟨q, a, b⟩ := hr.live j l hj' e
      have hc := hr.bound _ _ a
      refine ⟨q, hle _ _ a, ?_⟩
      rw [Array.getElem?_push_lt hc, ← Array.getElem?_eq_getElem hc]
      exact b.mono hle
  · have h1' : j1 < X.next := h1
    have h2' : j2 < X.next := h2
    rw [gp _ (by omega)] at e1 e2
    by_cases a1 : j1 = i
    · by_cases a2 : j2 = i
      · omega
      · rw [a1, Place.with_self] at p1; cases p1
        rw [Place.with_ne a2] at p2
        have := hr.bound _ _ p2; omega
    · rw [Place.with_ne a1] at p1
      by_cases a2 : j2 = i
      · rw [a2, Place.with_self] at p2; cases p2
        have := hr.bound _ _ p1; omega
      · rw [Place.with_ne a2] at p2
        rw [if_neg a1] at e1
        rw [if_neg a2] at e2
        exact hr.inj j1 j2 l1 l2 q1 q2 h1' h2' e1 e2 p1 p2 hc
theorem Step.newAt {ρ0 : Place} {H0 X : Heap} {w0 : World} (hx : HR σ ρ X w.heap) (h0 : Step ρ0 H0 w0 ρ X w) {i : Nat} (h1 : H0.next ≤ i) (hi : i < X.next) (he : ρ i = none) {p : Pl} {k : ABlk} {x : Obj} (hp : p.b = w.heap.size)
    (hw' : w'.heap = w.heap.push x) (rest : w'.os = w.os ∧ w'.output = w.output ∧ w'.tape = w.tape) : Step ρ0 H0 w0 (ρ.with i p) (X.put i k) w' := by
  have s := hx.small
  have gp : ∀ j, j < 65536 → (X.put i k).get j = if j = i then some k else X.get j := fun j hj => get_put (by omega) hj
  refine ⟨h0.ext.trans (Place.with_le he), by rw [hw', Array.size_push]; have := h0.size; omega, fun c hc hne => ?_, fun j l q hj e a hc => ?_, ⟨rest.1.trans h0.rest.1, rest.2.1.trans h0.rest.2.1, rest.2.2.trans h0.rest.2.2⟩, h0.more, fun j hj => ?_, fun j hj e => ?_, fun j l q c ty f hj e hq hy => by
    have := h0.more
    rw [gp j (by omega), if_neg (by omega)] at e
    obtain ⟨c1, h1⟩ := h0.cells j l q c ty f hj e hq hy
    have hlt := (Array.getElem?_eq_some_iff.1 h1).1
    exact ⟨c1, by rw [hw', Array.getElem?_push_lt hlt, ← Array.getElem?_eq_getElem hlt]; exact h1⟩⟩
  · have := h0.size
    rw [hw', Array.getElem?_push_lt (by omega), ← Array.getElem?_eq_getElem (by omega)]
    exact h0.keep c hc hne
  · have hj' : j < X.next := hj
    rw [gp j (by omega)] at e
    by_cases b : j = i
    · rw [b, Place.with_self] at a; cases a
      have := h0.size; omega
    · rw [if_neg b] at e
      rw [Place.with_ne b] at a
      exact h0.back j l q hj' e a hc
  · rw [Place.with_ne (by omega)]; exact h0.same j hj
  · rw [gp j (by have := h0.more; omega), if_neg (by omega)]; exact h0.dead j hj e
end
end Ev
end Go.Proofs.YtpppaheennkkpaaGreatDoor

/- A statement whose order Go leaves open: an append that stands in no order to an act. -/
namespace Go.Proofs.YtpppaheennkkpaaGreatDoor
namespace Ev

def Place.upto (ρ : Place) (n : Nat) : Place := fun j => if j < n then ρ j else none
theorem Place.upto_lt {ρ : Place} {n j : Nat} (h : j < n) : (ρ.upto n) j = ρ j := if_pos h
theorem Place.upto_ge {ρ : Place} {n j : Nat} (h : n ≤ j) : (ρ.upto n) j = none := if_neg (by omega)
theorem Place.upto_some {ρ : Place} {n j : Nat} {p : Pl} (h : (ρ.upto n) j = some p) : j < n ∧ ρ j = some p := by
  unfold Place.upto at h
  split at h
  · rename_i a; exact ⟨a, h⟩
  · cases h

section
variable {σ : Nat → Value} {ρ : Place} {P : Program} {G : Nat → Option Nat}

/-- What an append does to a part of the memory that it alone sees, the rest of it standing beside. -/
theorem app_put {X Y C H0 : Heap} {ρ0 ρ' : Place} {w0 w w' : World} {n : Nat} {k : ABlk} (hx : HR σ ρ X w.heap) (hn : n < X.next) (hfr : ρ n = none) (hst : Step (ρ.upto n) Y w ρ' C w') (hc : HR σ ρ' C w'.heap) (hYn : Y.next = n) (hCn : C.next = n + 1) (hk : C.get n = some k)
    (h0 : Step ρ0 H0 w0 ρ X w) (h0n : H0.next ≤ n)
    (hY : ∀ m l, m < n → Y.get m = some l → (∃ p kk, m < H0.next ∧ H0.get m = some kk ∧ ρ0 m = some p ∧ ∀ j l' q, j < X.next → X.get j = some l' → ρ j = some q → q.b ≠ p.b) ∨ (H0.next ≤ m ∧ X.get m = some l ∧ C.get m = some l)) :
    ∃ q, ρ'.le (ρ.with n q) ∧ ρ' n = some q ∧ HR σ (ρ.with n q) (X.put n k) w'.heap ∧ Step ρ0 H0 w0 (ρ.with n q) (X.put n k) w' := by
  have s := hx.small
  obtain ⟨q, hq, hB⟩ := hc.live n k (by omega) hk
  have same : ∀ j, j < n → ρ' j = ρ j := fun j hj => by rw [hst.same j (by omega), Place.upto_lt hj]
  have hle : ρ'.le (ρ.with n q) := fun j p hj => by
    have hlt := hc.lt hj
    by_cases e : j = n
    · subst e; rw [Place.with_self]; rw [hq] at hj; exact hj
    · rw [Place.with_ne e, ← same j (by omega)]; exact hj
  have hle2 : ρ.le (ρ.with n q) := Place.with_le hfr
  have gp : ∀ j, j < 65536 → (X.put n k).get j = if j = n then some k else X.get j := fun j hj => get_put (by omega) hj
  -- who may lie where the append sees
  have seen : ∀ j l p, j < X.next → X.get j = some l → ρ j = some p → w'.heap[p.b]? = w.heap[p.b]? ∨ (j < n ∧ H0.next ≤ j ∧ Y.get j = some l ∧ C.get j = some l) := fun j l p hj hl hp => by
    by_cases hsee : ∃ m km pm, m < n ∧ Y.get m = some km ∧ ρ m = some pm ∧ pm.b = p.b
    · obtain ⟨m, km, pm, h1, h2, h3, h4⟩ := hsee
      rcases hY m km h1 h2 with ⟨p', kk, a1, a2, a3, a4⟩ | ⟨a1, a2, a3⟩
      · have := h0.ext _ _ a3
        rw [h3] at this; cases this
        exact absurd h4.symm (a4 j l p hj hl hp)
      · have := hx.inj m j km l pm p (by omega) hj a2 hl h3 hp h4
        subst this
        rw [hl] at a2; cases a2
        exact .inr ⟨h1, a1, h2, a3⟩
    · refine .inl (hst.keep p.b (hx.bound j p hp) (fun m km pm h1 h2 h3 h4 => hsee ?_))
      obtain ⟨h5, h6⟩ := Place.upto_some h3
      exact ⟨m, km, pm, h5, h2, h6, h4⟩
  -- where the new block lies
  have lies : q.b < w.heap.size → (∃ m p kk, m < H0.next ∧ H0.get m = some kk ∧ ρ0 m = some p ∧ p.b = q.b ∧ ∀ j l' r, j < X.next → X.get j = some l' → ρ j = some r → r.b ≠ q.b) := fun hb => by
    obtain ⟨m, km, pm, h1, h2, h3, h4⟩ := hst.back n k q (by omega) hk hq hb
    obtain ⟨h5, h6⟩ := Place.upto_some h3
    rcases hY m km h5 h2 with ⟨p', kk, a1, a2, a3, a4⟩ | ⟨a1, a2, a3⟩
    · have := h0.ext _ _ a3
      rw [h6] at this; cases this
      exact ⟨m, _, kk, a1, a2, a3, h4, by rw [← h4]; exact a4⟩
    · have := hc.inj m n km k pm q (by omega) (by omega) a3 hk (by rw [same m h5]; exact h6) hq h4
      omega
  refine ⟨q, hle, hq, ⟨hx.small, fun j hj hj2 => ?_, fun j hj => ?_, fun j p e => ?_, fun j l hj e => ?_, fun j1 j2 l1 l2 q1 q2 h1 h2 e1 e2 p1 p2 hcc => ?_⟩,
    ⟨h0.ext.trans hle2, Nat.le_trans h0.size hst.size, fun c hcs hne => ?_, fun j l r hj e a hcs => ?_, ⟨hst.rest.1.trans h0.rest.1, hst.rest.2.1.trans h0.rest.2.1, hst.rest.2.2.trans h0.rest.2.2⟩, h0.more, fun j hj => ?_, fun j hj e => ?_, fun j l r c ty f hj e hr hy => ?_⟩⟩
  · have hj' : X.next ≤ j := hj
    rw [gp j hj2, if_neg (by omega)]; exact hx.out j hj' hj2
  · have hj' : X.next ≤ j := hj
    rw [Place.with_ne (by omega)]; exact hx.fresh j hj'
  · by_cases hj : j = n
    · subst hj; rw [Place.with_self] at e; cases e; exact hc.bound _ _ hq
    · rw [Place.with_ne hj] at e
      exact Nat.lt_of_lt_of_le (hx.bound _ _ e) hst.size
  · have hj' : j < X.next := hj
    rw [gp j (by omega)] at e
    by_cases hjn : j = n
    · subst hjn; rw [if_pos rfl] at e; cases e
      exact ⟨q, Place.with_self, hB.mono hle⟩
    · rw [if_neg hjn] at e
      obtain ⟨p, hp, hb⟩ := hx.live j l hj' e
      refine ⟨p, hle2 _ _ hp, ?_⟩
      rcases seen j l p hj' e hp with a | ⟨a1, a2, a3, a4⟩
      · rw [a]; exact hb.mono hle2
      · obtain ⟨p', hp', hb'⟩ := hc.live j l (by omega) a4
        rw [same j a1, hp] at hp'; cases hp'
        exact hb'.mono hle
  · have h1' : j1 < X.next := h1
    have h2' : j2 < X.next := h2
    rw [gp _ (by omega)] at e1 e2
    have cross : ∀ j l p, j ≠ n → j < X.next → X.get j = some l → ρ j = some p → p.b = q.b → False := fun j l p hjn hj hl hp hpq => by
      obtain ⟨m, p', kk, _, _, _, _, hno⟩ := lies (by rw [← hpq]; exact hx.bound _ _ hp)
      exact hno j l p hj hl hp hpq
    by_cases a1 : j1 = n
    · by_cases a2 : j2 = n
      · omega
      · rw [if_neg a2] at e2
        rw [a1, Place.with_self] at p1; cases p1
        rw [Place.with_ne a2] at p2
        exact (cross j2 l2 q2 a2 h2' e2 p2 hcc.symm).elim
    · rw [if_neg a1] at e1
      rw [Place.with_ne a1] at p1
      by_cases a2 : j2 = n
      · rw [a2, Place.with_self] at p2; cases p2
        exact (cross j1 l1 q1 a1 h1' e1 p1 hcc).elim
      · rw [if_neg a2] at e2
        rw [Place.with_ne a2] at p2
        exact hx.inj j1 j2 l1 l2 q1 q2 h1' h2' e1 e2 p1 p2 hcc
  · -- kept
    rw [hst.keep c (Nat.lt_of_lt_of_le hcs h0.size) (fun m km pm h1 h2 h3 h4 => ?_), h0.keep c hcs hne]
    obtain ⟨h5, h6⟩ := Place.upto_some h3
    rcases hY m km h5 h2 with ⟨p', kk, a1, a2, a3, a4⟩ | ⟨a1, a2, a3⟩
    · have := h0.ext _ _ a3
      rw [h6] at this; cases this
      exact hne m kk _ a1 a2 a3 h4
    · obtain ⟨j', l', q', b1, b2, b3, b4⟩ := h0.back m km pm (by omega) a2 h6 (by rw [h4]; exact hcs)
      exact hne j' l' q' b1 b2 b3 (b4.trans h4)
  · have hj' : j < X.next := hj
    rw [gp j (by omega)] at e
    by_cases b : j = n
    · rw [b, Place.with_self] at a; cases a
      obtain ⟨m, p', kk, a1, a2, a3, a4, _⟩ := lies (Nat.lt_of_lt_of_le hcs h0.size)
      exact ⟨m, kk, p', a1, a2, a3, a4⟩
    · rw [if_neg b] at e
      rw [Place.with_ne b] at a
      exact h0.back j l r hj' e a hcs
  · rw [Place.with_ne (by omega)]; exact h0.same j hj
  · rw [gp j (by have := h0.more; omega), if_neg (by omega)]; exact h0.dead j hj e
  · have hm := h0.more
    rw [gp j (by omega), if_neg (by omega)] at e
    obtain ⟨c1, h1⟩ := h0.cells j l r c ty f hj e hr hy
    have hp : ρ j = some r := (h0.same j hj).trans hr
    rcases seen j l r (by omega) e hp with a | ⟨a1, a2, _⟩
    · exact ⟨c1, by rw [a]; exact h1⟩
    · omega

/-- An append that makes a block turns no other. -/
theorem newCells_get {H H' : Heap} {l : List AV} {e : TypeId} (h : newCells H l e = some H') {m : Nat} (hm : m < H.next) : H'.get m = H.get m := by
  unfold newCells at h
  split at h
  · rename_i hlt
    cases h
    have hlt := bl hlt
    rw [get_add hlt (by omega), if_neg (by omega)]
  · cases h
theorem stores_next {H H' : Heap} {id off : Nat} {l : List AV} (h : H.stores id off l = some H') : H'.next = H.next := by
  unfold Heap.stores at h
  split at h
  · split at h
    · cases h; rfl
    · cases h
  · cases h
theorem appendA_get {H H' : Heap} {t u : TypeId} {s x v : AV} (h : appendA P t u s x H = some (v, H')) (hs0 : ∀ id off0 off len k, s = .osl id off0 off len k → id < 65536) (hn : H'.next = H.next + 1) {m : Nat} (hm : m < H.next) : H'.get m = H.get m ∨ ∃ off0 off len k, s = .osl m off0 off len k := by
  unfold appendA at h
  split at h
  case h_2 => cases h
  split at h
  case h_2 => cases h
  dsimp only at h
  split at h
  case h_2 => cases h
  split at h
  · -- nil
    split at h
    · cases h; omega
    · split at h
      · rename_i hnew
        cases h
        exact .inl (newCells_get hnew hm)
      · cases h
  · split at h
    · split at h
      · cases h; omega
      · cases h
    · split at h
      · split at h
        · rename_i hst
          cases h
          have := stores_next hst; omega
        · cases h
      · split at h
        · split at h
          · rename_i hnew
            cases h
            exact .inl (newCells_get hnew hm)
          · cases h
        · cases h
  · rename_i id off0 off len k'
    have hid := hs0 id off0 off len k' rfl
    split at h
    · cases h; omega
    · split at h
      · split at h
        · split at h
          · rename_i hst
            cases h
            have := stores_next hst; omega
          · cases h
        · split at h
          · rename_i hc
            cases h
            simp only [Bool.and_eq_true] at hc
            have hlt := bl hc.1.2
            by_cases hmi : m = id
            · subst hmi; exact .inr ⟨_, _, _, _, rfl⟩
            · refine .inl ?_
              rw [get_add (H := H.drop id) hlt (by omega), if_neg (by show m ≠ H.next; omega), get_drop hid (by omega), if_neg hmi]
          · cases h
      · cases h
  · cases h

theorem noNum_conc {ρ' : Place} {v : AV} (h : noNum v = true) : conc σ ρ v = conc σ ρ' v := by
  cases v <;> first | rfl | (cases h; done) | skip
  all_goals simp [conc]
theorem noNums_BR {ρ' : Place} {p : Pl} {x : Option Obj} {k : ABlk} (h : noNums k = true) (hb : BR σ ρ p x k) : BR σ ρ' p x k := by
  cases k with
  | cells t n ty =>
    obtain ⟨c, fz, h1, h2, h3, h4, h5⟩ := hb
    refine ⟨c, fz, h1, h2, h3, h4, fun i hi => ?_⟩
    obtain ⟨v, a, b⟩ := h5 i hi
    refine ⟨v, a, ?_⟩
    have hall : (t.list 0 n).all noNum = true := h
    have hi' := t.list_get n 0 i hi
    rw [Nat.zero_add] at hi'
    have := List.all_eq_true.1 hall _ (List.mem_of_getElem? hi')
    rw [noNum_conc this (ρ' := ρ)]; exact b
  | _ => cases h
theorem baseH_get {n : Nat} {old : Option (Nat × ABlk)} (hid : ∀ id k, old = some (id, k) → id < 65536) {m : Nat} (hm : m < 65536) {l : ABlk} (h : (baseH n old).get m = some l) : old = some (m, l) := by
  unfold baseH at h
  split at h
  · rename_i id k
    rw [get_put (hid id k rfl) hm] at h
    split at h
    · rename_i e; cases h; rw [e]
    · cases h
  · cases h
theorem baseH_next {n : Nat} {old : Option (Nat × ABlk)} : (baseH n old).next = n := by
  unfold baseH
  split <;> rfl
theorem appH_get {n : Nat} {old : Option (Nat × ABlk)} {V Y : Heap} {x : AV} (h : appH n old V x = some Y) (hid : ∀ id k, old = some (id, k) → id < 65536) (hx : ∀ j, srcId x = some (some j) → j < 65536) :
    Y.next = n ∧ ∀ m l, m < 65536 → Y.get m = some l → old = some (m, l) ∨ (V.get m = some l ∧ noNums l = true) := by
  unfold appH at h
  split at h
  · cases h
    exact ⟨baseH_next, fun m l hm hl => .inl (baseH_get hid hm hl)⟩
  · rename_i j hj
    split at h
    · rename_i k hk
      split at h
      · rename_i hnn
        cases h
        refine ⟨(baseH_next (n := n) (old := old) : (baseH n old).next = n), fun m l hm hl => ?_⟩
        rw [get_put (hx j hj) hm] at hl
        split at hl
        · rename_i e; cases hl; subst e; exact .inr ⟨hk, hnn⟩
        · exact .inl (baseH_get hid hm hl)
      · cases h
    · cases h
  · cases h

theorem fappA_wp (hs : ∀ i, (σ i).oneCell' = true) {f : Fr} {a : Act} {o : Oper} (hf : EV σ ρ f a o.op.operands.toList) {n : Nat} {old : Option (Nat × ABlk)} {V X H0 : Heap} {k : ABlk} {v : AV} {ρ0 : Place} {w0 w : World} (h : fappA P f o n old V = some (k, v))
    (hx : HR σ ρ X w.heap) (hn : n < X.next) (hfr : ρ n = none) (h0 : Step ρ0 H0 w0 ρ X w) (h0n : H0.next ≤ n) (hr0 : HR σ ρ0 H0 w0.heap)
    (hold : ∀ id kk, old = some (id, kk) → id < H0.next ∧ H0.get id = some kk ∧ ∃ p, ρ0 id = some p ∧ BR σ ρ0 p w.heap[p.b]? kk ∧ ∀ j l' q, j < X.next → X.get j = some l' → ρ j = some q → q.b ≠ p.b)
    (hV : ∀ j kk, j < 65536 → V.get j = some kk → H0.next ≤ j ∧ j < n ∧ X.get j = some kk) {next : Act → World → Prop} {Q : Exit → Act → World → Prop}
    (hk : ∀ q v' w', HR σ (ρ.with n q) (X.put n k) w'.heap → Step ρ0 H0 w0 (ρ.with n q) (X.put n k) w' → conc σ (ρ.with n q) v = some v' → next (a.put o.dst v') w') : o.wp P a w next Q := by
  have sX := hx.small
  unfold fappA at h
  split at h
  case h_2 => cases h
  rename_i args argTypes ho
  split at h
  case h_2 => cases h
  rename_i s x t u hargs hts
  split at h
  case h_2 => cases h
  rename_i s' x' hs' hx'
  split at h
  case h_2 => cases h
  rename_i Y hrow hY
  have e1 := hf.one (by simp [ho, Op.operands, Call.operands, hargs]) hs'
  have e2 := hf.one (by simp [ho, Op.operands, Call.operands, hargs]) hx'
  have hid : ∀ id k, old = some (id, k) → id < 65536 := fun id kk e => by have := (hold id kk e).1; omega
  have hsrc : ∀ j, srcId x' = some (some j) → j < 65536 := fun j hj => by
    cases x' <;> simp only [srcId, Option.some.injEq, reduceCtorEq] at hj
    · subst hj
      obtain ⟨p, hp, _⟩ := conc_slice e2
      have := hx.lt hp; omega
    · subst hj
      obtain ⟨p, hp, _⟩ := conc_osl e2
      have := hx.lt hp; omega
  obtain ⟨hYn, hYg⟩ := appH_get hY hid hsrc
  have hle0 : ρ0.le (ρ.upto n) := fun j p e => by
    have := hr0.lt e
    rw [Place.upto_lt (by omega)]; exact h0.ext _ _ e
  have hrY : HR σ (ρ.upto n) Y w.heap := by
    refine ⟨by omega, fun i hi hi2 => ?_, fun i hi => Place.upto_ge (by omega), fun i p e => hx.bound i p (Place.upto_some e).2, fun i l hi e => ?_, fun i j l l' p q hi hj e1 e2 p1 p2 hpq => ?_⟩
    · cases hg : Y.get i with
      | none => rfl
      | some l =>
        rcases hYg i l hi2 hg with g | ⟨g, _⟩
        · have := (hold i l g).1; omega
        · have := hV i l hi2 g; omega
    · rcases hYg i l (by omega) e with g | ⟨g, g2⟩
      · obtain ⟨b1, b2, p, b3, b4, b5⟩ := hold i l g
        exact ⟨p, hle0 _ _ b3, b4.mono hle0⟩
      · obtain ⟨b1, b2, b3⟩ := hV i l (by omega) g
        obtain ⟨p, hp, hb⟩ := hx.live i l (by omega) b3
        exact ⟨p, by rw [Place.upto_lt b2]; exact hp, noNums_BR g2 hb⟩
    · obtain ⟨p1', p1⟩ := Place.upto_some p1
      obtain ⟨p2', p2⟩ := Place.upto_some p2
      have cross : ∀ i j l l' p q, i < n → j < n → old = some (i, l) → V.get j = some l' → ρ i = some p → ρ j = some q → p.b = q.b → False := fun i j l l' p q hi hj g1 g2 hp hq hpq => by
        obtain ⟨b1, b2, p', b3, b4, b5⟩ := hold i l g1
        have := h0.ext _ _ b3
        rw [hp] at this; cases this
        obtain ⟨c1, c2, c3⟩ := hV j l' (by omega) g2
        exact b5 j l' q (by omega) c3 hq hpq.symm
      rcases hYg i l (by omega) e1 with g | ⟨g, _⟩ <;> rcases hYg j l' (by omega) e2 with g' | ⟨g', _⟩
      · rw [g] at g'; cases g'; rfl
      · exact (cross i j l l' p q p1' p2' g g' p1 p2 hpq).elim
      · exact (cross j i l' l q p p2' p1' g' g p2 p1 hpq.symm).elim
      · exact hx.inj i j l l' p q (by omega) (by omega) (hV i l (by omega) g).2.2 (hV j l' (by omega) g').2.2 p1 p2 hpq
  have c1 : conc σ (ρ.upto n) s' = some (a.eval s) := by
    unfold rowOk at hrow
    split at hrow
    · simpa [conc] using e1
    · split at hrow
      · rename_i id off0 off len k' id' kk
        have hii := Nat.eq_of_beq_eq_true hrow
        subst hii
        have := (hold _ _ rfl).1
        simp only [conc] at e1 ⊢
        rw [Place.upto_lt (by omega)]; exact e1
      · cases hrow
    · cases hrow
  have hjn : ∀ j, srcId x' = some (some j) → j < n := fun j hj => by
    have hj2 := hsrc j hj
    unfold appH at hY
    rw [hj] at hY
    simp only at hY
    split at hY
    · rename_i kk hkk; exact (hV j kk hj2 hkk).2.1
    · cases hY
  have c2 : conc σ (ρ.upto n) x' = some (a.eval x) := by
    cases x' <;> first | (simpa [conc] using e2; done) | skip
    all_goals first
      | (have := hjn _ rfl
         simp only [conc] at e2 ⊢
         rw [Place.upto_lt this]; exact e2)
      | (unfold appH at hY; simp only [srcId] at hY; cases hY; done)
  unfold appR at h
  split at h
  case h_2 => cases h
  rename_i v1 C hap
  split at h
  case h_2 => cases h
  rename_i k1 hget hnext
  cases h
  have hnext := Nat.eq_of_beq_eq_true hnext
  obtain ⟨ρ', v', w', r1, r2, r3, r4⟩ := appendA_run (ty := o.type) hs hrY hap c1 c2
  obtain ⟨q, q1, q2, q3, q4⟩ := app_put hx hn hfr r3 r2 hYn (by rw [hnext]) hget h0 h0n (fun m l hm hl => by
    rcases hYg m l (by omega) hl with g | ⟨g, _⟩
    · obtain ⟨b1, b2, p, b3, _, b5⟩ := hold m l g
      exact .inl ⟨p, l, b1, b2, b3, b5⟩
    · obtain ⟨b1, b2, b3⟩ := hV m l (by omega) g
      refine .inr ⟨b1, b3, ?_⟩
      rcases appendA_get hap (fun id off0 off len k' e => by
        subst e
        obtain ⟨p, hp, _⟩ := conc_osl e1
        have := hx.lt hp; omega) (by rw [hnext, hYn]) (m := m) (by omega) with g' | ⟨off0, off, len, k', g'⟩
      · rw [g']; exact hl
      · subst g'
        unfold rowOk at hrow
        simp only at hrow
        split at hrow
        · have hii := Nat.eq_of_beq_eq_true hrow
          have := (hold _ _ rfl).1
          omega
        · cases hrow)
  have ha : args = #[s, x] := by rw [← Array.toArray_toList (xs := args), hargs]
  have ht : argTypes = #[t, u] := by rw [← Array.toArray_toList (xs := argTypes), hts]
  unfold Oper.wp
  have he : execOp a.eval o = (do pure (.value (← Builtin.append_ #[t, u] o.type #[a.eval s, a.eval x]))) := by simp [execOp, ho, resolve, ha, ht, invoke, builtin]
  rw [he, bind_ok r1]
  exact hk q v' w' q3 q4 (conc_mono q1 _ _ r4)
end
end Ev
end Go.Proofs.YtpppaheennkkpaaGreatDoor

/- A statement whose order Go leaves open: what the run has laid down of it. -/
namespace Go.Proofs.YtpppaheennkkpaaGreatDoor
namespace Ev

section
variable {σ : Nat → Value} {P : Program} {G : Nat → Option Nat}

/-- Blocks that were made, those of some operations. -/
noncomputable def viewP (p : Nat → Bool) : Heap → List Rec → Nat → Heap
  | C, [], _ => C
  | C, r :: l, i => match r.kd with
    | .mk id k => match p i with
      | true => viewP p (C.put id k) l (i + 1)
      | false => viewP p C l (i + 1)
    | _ => viewP p C l (i + 1)
theorem view_eq (mask M : Nat) : ∀ (rs : List Rec) (C : Heap) (i : Nat), view mask M C rs i = viewP (fun j => Nat.testBit mask j && !Nat.testBit M j) C rs i
  | [], C, i => rfl
  | r :: l, C, i => by
    unfold view viewP
    cases hk : r.kd <;> simp only [] <;> first | exact view_eq mask M l C (i + 1) | skip
    rename_i id k
    cases hb : (Nat.testBit mask i && !Nat.testBit M i)
    · exact view_eq mask M l C (i + 1)
    · exact view_eq mask M l _ (i + 1)
theorem lastView_eq (M : Nat) : ∀ (rs : List Rec) (C : Heap) (i : Nat), lastView M C rs i = viewP (fun j => !Nat.testBit M j) C rs i
  | [], C, i => rfl
  | r :: l, C, i => by
    unfold lastView viewP
    cases hk : r.kd <;> simp only [] <;> first | exact lastView_eq M l C (i + 1) | skip
    rename_i id k
    cases hb : Nat.testBit M i
    · exact lastView_eq M l _ (i + 1)
    · exact lastView_eq M l C (i + 1)
theorem viewP_next (p : Nat → Bool) : ∀ (rs : List Rec) (C : Heap) (i : Nat), (viewP p C rs i).next = C.next
  | [], C, i => rfl
  | r :: l, C, i => by
    unfold viewP
    cases r.kd <;> simp only [] <;> first | exact viewP_next p l C (i + 1) | skip
    cases p i
    · exact viewP_next p l C (i + 1)
    · exact viewP_next p l _ (i + 1)

/-- The block that an operation made. -/
def mkAt (n0 : Nat) (rs : List Rec) (id : Nat) : Option ABlk := match Nat.ble n0 id with
  | true => match rs[id - n0]? with
    | some r => match r.kd with
      | .mk _ k => some k
      | _ => none
    | none => none
  | false => none

theorem viewP_get {n0 : Nat} (p : Nat → Bool) : ∀ (rs pre : List Rec) (C : Heap), n0 + (pre ++ rs).length ≤ 65536 → (∀ j r id k, (pre ++ rs)[j]? = some r → r.kd = .mk id k → id = n0 + j) → ∀ id, id < 65536 →
    (viewP p C rs pre.length).get id = if n0 + pre.length ≤ id ∧ p (id - n0) = true ∧ (mkAt n0 (pre ++ rs) id).isSome = true then mkAt n0 (pre ++ rs) id else C.get id
  | [], pre, C, hl, hk, id, hid => by
    rw [if_neg]
    · rfl
    · rintro ⟨h1, _, h3⟩
      unfold mkAt at h3
      split at h3
      · rw [List.getElem?_eq_none (by simp; omega)] at h3; cases h3
      · cases h3
  | r :: l, pre, C, hl, hk, id, hid => by
    have e : pre ++ r :: l = (pre ++ [r]) ++ l := by simp
    have ih := fun C' => viewP_get p l (pre ++ [r]) C' (by rw [← e]; exact hl) (by rw [← e]; exact hk) id hid
    simp only [List.length_append, List.length_singleton] at ih
    rw [← e] at ih
    have hget : (pre ++ r :: l)[pre.length]? = some r := by simp
    have hlen : pre.length < (pre ++ r :: l).length := by simp
    have hat : id = n0 + pre.length → mkAt n0 (pre ++ r :: l) id = match r.kd with
        | .mk _ k => some k
        | _ => none := fun hid => by
      subst hid
      unfold mkAt
      rw [Nat.ble_eq_true_of_le (by omega), show n0 + pre.length - n0 = pre.length by omega]
      simp only [hget]
    have split_at : ∀ (X : Heap), (id ≠ n0 + pre.length → X.get id = C.get id) → (id = n0 + pre.length → (if p pre.length = true ∧ (mkAt n0 (pre ++ r :: l) id).isSome = true then mkAt n0 (pre ++ r :: l) id else C.get id) = X.get id) →
        (if n0 + (pre.length + 1) ≤ id ∧ p (id - n0) = true ∧ (mkAt n0 (pre ++ r :: l) id).isSome = true then mkAt n0 (pre ++ r :: l) id else X.get id) =
        (if n0 + pre.length ≤ id ∧ p (id - n0) = true ∧ (mkAt n0 (pre ++ r :: l) id).isSome = true then mkAt n0 (pre ++ r :: l) id else C.get id) := fun X h1 h2 => by
      by_cases hid : id = n0 + pre.length
      · rw [if_neg (by omega), ← h2 hid]
        have : id - n0 = pre.length := by omega
        rw [this]
        by_cases hc : p pre.length = true ∧ (mkAt n0 (pre ++ r :: l) id).isSome = true
        · rw [if_pos hc, if_pos ⟨by omega, hc⟩]
        · rw [if_neg hc, if_neg (fun h => hc h.2)]
      · rw [h1 hid]
        by_cases hc : n0 + (pre.length + 1) ≤ id ∧ p (id - n0) = true ∧ (mkAt n0 (pre ++ r :: l) id).isSome = true
        · rw [if_pos hc, if_pos ⟨by omega, hc.2⟩]
        · rw [if_neg hc, if_neg (fun h => hc ⟨by omega, h.2⟩)]
    unfold viewP
    cases hkd : r.kd with
    | mk i k =>
      have hi := hk pre.length r i k hget hkd
      subst hi
      have hb : n0 + pre.length < 65536 := by omega
      simp only []
      cases hp : p pre.length with
      | true =>
        simp only []
        rw [ih]
        refine split_at _ (fun h => by rw [get_put hb hid, if_neg h]) (fun h => ?_)
        rw [hat h, hkd]
        simp only [hp, Option.isSome_some, and_self, if_true]
        rw [h, get_put hb (h ▸ hid), if_pos rfl]
      | false =>
        simp only []
        rw [ih]
        exact split_at _ (fun h => rfl) (fun h => by rw [if_neg (fun hh => by rw [hp] at hh; cases hh.1)])
    | skip =>
      simp only []
      rw [ih]
      exact split_at _ (fun h => rfl) (fun h => by rw [if_neg (fun hh => by rw [hat h, hkd] at hh; cases hh.2)])
    | flt =>
      simp only []
      rw [ih]
      exact split_at _ (fun h => rfl) (fun h => by rw [if_neg (fun hh => by rw [hat h, hkd] at hh; cases hh.2)])
    | act =>
      simp only []
      rw [ih]
      exact split_at _ (fun h => rfl) (fun h => by rw [if_neg (fun hh => by rw [hat h, hkd] at hh; cases hh.2)])
    | late _ _ =>
      simp only []
      rw [ih]
      exact split_at _ (fun h => rfl) (fun h => by rw [if_neg (fun hh => by rw [hat h, hkd] at hh; cases hh.2)])

/-- The state ahead of an operation. -/
def stAt (rs : List Rec) (fin : Fr × Heap × Nat × Nat) (i : Nat) : Fr × Heap × Nat × Nat := match rs[i]? with
  | some r => (r.f, r.C, r.M, r.A)
  | none => fin

/-- What the run has laid down. -/
structure Laid (P : Program) (call : FuncId → List AV → Heap → Option (AV × Heap)) (ops : Array Oper) (bm : T Nat) (ap : AP) (n0 : Nat) (rs : List Rec) (fin : Fr × Heap × Nat × Nat) (i0 : Nat) : Prop where
  each : ∀ i o r, i0 ≤ i → ops[i]? = some o → rs[i]? = some r → ∃ f2, r.f.put o.dst r.v = some f2 ∧
    ((r.kd = .skip ∧ wantA r.f ops o = some false ∧ r.v = undefA ∧ stAt rs fin (i + 1) = (f2, r.C, r.M, r.A)) ∨
     (r.kd = .flt ∧ wantA r.f ops o = some true ∧ isAct o.op = false ∧ fop P r.f o (view (bm.get i) r.M r.C (rs.take i) 0) = some (.val r.v) ∧ stAt rs fin (i + 1) = (f2, r.C, r.M, r.A)) ∨
     (∃ k n v, r.kd = .mk (n0 + i) k ∧ wantA r.f ops o = some true ∧ isAct o.op = false ∧ fop P r.f o (view (bm.get i) r.M r.C (rs.take i) 0) = some (.new k n v) ∧ r.v = v (n0 + i) ∧ stAt rs fin (i + 1) = (f2, r.C, r.M, r.A)) ∨
     (∃ C2, r.kd = .act ∧ wantA r.f ops o = some true ∧ isAct o.op = true ∧ Nat.land (bm.get i) r.A = r.A ∧ aop P call r.f o (view (bm.get i) r.M r.C (rs.take i) 0) = some (r.v, C2) ∧ stAt rs fin (i + 1) = (f2, C2, Nat.lor r.M (bm.get i), Nat.lor r.A (2 ^ i))) ∨
     (∃ k old, r.kd = .mk (n0 + i) k ∧ wantA r.f ops o = some true ∧ apHere ap i = some old ∧ fappA P r.f o (n0 + i) old (view (bm.get i) 0 ⟨.leaf none, n0 + i⟩ (rs.take i) 0) = some (k, r.v) ∧ stAt rs fin (i + 1) = (f2, r.C, r.M, r.A)) ∨
     (∃ id k, r.kd = .late id k ∧ wantA r.f ops o = some true ∧ ltHere ap i = true ∧ lateA P r.f o (view (bm.get i) r.M r.C (rs.take i) 0) = some (id, k, r.v) ∧ stAt rs fin (i + 1) = (f2, r.C, r.M, r.A)))

theorem runD_laid {call : FuncId → List AV → Heap → Option (AV × Heap)} {ops : Array Oper} {bm : T Nat} {ap : AP} {n0 : Nat} : ∀ (l : List Oper) (f : Fr) (C : Heap) (M A : Nat) (pre rs : List Rec) (fin : Fr × Heap × Nat × Nat),
    runD P call ops bm ap n0 l pre.length f C M A pre = some (rs, fin.1, fin.2.1, fin.2.2.1, fin.2.2.2) → (∀ i, l[i]? = ops[pre.length + i]?) → (∃ tl, rs = pre ++ tl ∧ tl.length = l.length) ∧ stAt rs fin pre.length = (f, C, M, A) ∧ Laid P call ops bm ap n0 rs fin pre.length
  | [], f, C, M, A, pre, rs, fin, h, hl => by
    cases h
    refine ⟨⟨[], by simp, rfl⟩, ?_, ⟨fun i o r hi ho hr => ?_⟩⟩
    · unfold stAt
      rw [List.getElem?_eq_none (Nat.le_refl _)]
    · rw [List.getElem?_eq_none hi] at hr; cases hr
  | o :: l, f, C, M, A, pre, rs, fin, h, hl => by
    have ho : ops[pre.length]? = some o := by have := hl 0; simpa using this.symm
    have hl' : ∀ (r : Rec) (i : Nat), l[i]? = ops[(pre ++ [r]).length + i]? := fun r i => by
      have := hl (i + 1)
      rw [List.length_append, List.length_singleton, show pre.length + 1 + i = pre.length + (i + 1) by omega]; simpa using this
    -- the rest, behind one record more
    have go : ∀ (r : Rec) (f2 : Fr) (C2 : Heap) (M2 A2 : Nat), r.f = f → r.C = C → r.M = M → r.A = A → r.f.put o.dst r.v = some f2 →
        runD P call ops bm ap n0 l (pre.length + 1) f2 C2 M2 A2 (pre ++ [r]) = some (rs, fin.1, fin.2.1, fin.2.2.1, fin.2.2.2) →
        ((∀ r0, rs[pre.length]? = some r0 → r0 = r) → rs.take pre.length = pre → stAt rs fin (pre.length + 1) = (f2, C2, M2, A2) →
          ((r.kd = .skip ∧ wantA r.f ops o = some false ∧ r.v = undefA ∧ stAt rs fin (pre.length + 1) = (f2, r.C, r.M, r.A)) ∨
           (r.kd = .flt ∧ wantA r.f ops o = some true ∧ isAct o.op = false ∧ fop P r.f o (view (bm.get pre.length) r.M r.C (rs.take pre.length) 0) = some (.val r.v) ∧ stAt rs fin (pre.length + 1) = (f2, r.C, r.M, r.A)) ∨
           (∃ k n v, r.kd = .mk (n0 + pre.length) k ∧ wantA r.f ops o = some true ∧ isAct o.op = false ∧ fop P r.f o (view (bm.get pre.length) r.M r.C (rs.take pre.length) 0) = some (.new k n v) ∧ r.v = v (n0 + pre.length) ∧ stAt rs fin (pre.length + 1) = (f2, r.C, r.M, r.A)) ∨
           (∃ C2, r.kd = .act ∧ wantA r.f ops o = some true ∧ isAct o.op = true ∧ Nat.land (bm.get pre.length) r.A = r.A ∧ aop P call r.f o (view (bm.get pre.length) r.M r.C (rs.take pre.length) 0) = some (r.v, C2) ∧ stAt rs fin (pre.length + 1) = (f2, C2, Nat.lor r.M (bm.get pre.length), Nat.lor r.A (2 ^ pre.length))) ∨
           (∃ k old, r.kd = .mk (n0 + pre.length) k ∧ wantA r.f ops o = some true ∧ apHere ap pre.length = some old ∧ fappA P r.f o (n0 + pre.length) old (view (bm.get pre.length) 0 ⟨.leaf none, n0 + pre.length⟩ (rs.take pre.length) 0) = some (k, r.v) ∧ stAt rs fin (pre.length + 1) = (f2, r.C, r.M, r.A)) ∨
           (∃ id k, r.kd = .late id k ∧ wantA r.f ops o = some true ∧ ltHere ap pre.length = true ∧ lateA P r.f o (view (bm.get pre.length) r.M r.C (rs.take pre.length) 0) = some (id, k, r.v) ∧ stAt rs fin (pre.length + 1) = (f2, r.C, r.M, r.A)))) →
        (∃ tl, rs = pre ++ tl ∧ tl.length = (o :: l).length) ∧ stAt rs fin pre.length = (f, C, M, A) ∧ Laid P call ops bm ap n0 rs fin pre.length := by
      intro r f2 C2 M2 A2 e1 e2 e3 e4 hput hrun hcase
      have hlen : (pre ++ [r]).length = pre.length + 1 := by simp
      obtain ⟨⟨tl, t1, t2⟩, t3, t4⟩ := runD_laid l f2 C2 M2 A2 (pre ++ [r]) rs fin (by rw [hlen]; exact hrun) (hl' r)
      rw [hlen] at t3 t4
      have hget : rs[pre.length]? = some r := by rw [t1]; simp
      have htake : rs.take pre.length = pre := by rw [t1]; simp
      refine ⟨⟨r :: tl, by rw [t1]; simp, by simp [t2]⟩, ?_, ⟨fun i o' r' hi ho' hr' => ?_⟩⟩
      · unfold stAt
        rw [hget]
        simp only [e1, e2, e3, e4]
      · by_cases hi' : i = pre.length
        · subst hi'
          rw [hget] at hr'; cases hr'
          rw [ho] at ho'; cases ho'
          exact ⟨f2, hput, hcase (fun r0 h0 => by rw [hget] at h0; cases h0; rfl) htake t3⟩
        · exact t4.each i o' r' (by omega) ho' hr'
    unfold runD at h
    split at h
    · rename_i hw
      split at h
      · rename_i old hold
        split at h
        · rename_i k v hv
          split at h
          · rename_i f2 hp
            refine go ⟨v, .mk (n0 + pre.length) k, f, C, M, A⟩ f2 C M A rfl rfl rfl rfl hp h (fun _ ht hs => .inr (.inr (.inr (.inr (.inl ⟨k, old, rfl, hw, hold, ?_, hs⟩)))))
            rw [ht]; exact hv
          · cases h
        · cases h
      split at h
      · rename_i hlt
        split at h
        · rename_i id k v hv
          split at h
          · rename_i f2 hp
            refine go ⟨v, .late id k, f, C, M, A⟩ f2 C M A rfl rfl rfl rfl hp h (fun _ ht hs => .inr (.inr (.inr (.inr (.inr ⟨id, k, rfl, hw, hlt, ?_, hs⟩)))))
            rw [ht]; exact hv
          · cases h
        · cases h
      split at h
      · rename_i hact
        split at h
        · rename_i v hv
          rw [force_eq] at h
          split at h
          · rename_i f2 hp
            refine go ⟨v, .flt, f, C, M, A⟩ f2 C M A rfl rfl rfl rfl hp h (fun _ ht hs => .inr (.inl ⟨rfl, hw, hact, ?_, hs⟩))
            rw [ht]; exact hv
          · cases h
        · rename_i k n v hv
          split at h
          · rename_i f2 hp
            refine go ⟨v (n0 + pre.length), .mk (n0 + pre.length) k, f, C, M, A⟩ f2 C M A rfl rfl rfl rfl hp h (fun _ ht hs => .inr (.inr (.inl ⟨k, n, v, rfl, hw, hact, ?_, rfl, hs⟩)))
            rw [ht]; exact hv
          · cases h
        · cases h
      · rename_i hact
        split at h
        · rename_i hA
          split at h
          · rename_i v C2 hv
            rw [force_eq] at h
            split at h
            · rename_i f2 hp
              refine go ⟨v, .act, f, C, M, A⟩ f2 C2 _ _ rfl rfl rfl rfl hp h (fun _ ht hs => .inr (.inr (.inr (.inl ⟨C2, rfl, hw, hact, Nat.eq_of_beq_eq_true hA, ?_, hs⟩))))
              rw [ht]; exact hv
            · cases h
          · cases h
        · cases h
    · rename_i hw
      split at h
      · rename_i f2 hp
        exact go ⟨undefA, .skip, f, C, M, A⟩ f2 C M A rfl rfl rfl rfl hp h (fun _ ht hs => .inl ⟨rfl, hw, rfl, hs⟩)
      · cases h
    · cases h
end
end Ev
end Go.Proofs.YtpppaheennkkpaaGreatDoor

/- A statement whose order Go leaves open: bits, what stands ahead of what. -/
namespace Go.Proofs.YtpppaheennkkpaaGreatDoor
namespace Ev

section
variable {σ : Nat → Value} {P : Program} {G : Nat → Option Nat} {call : FuncId → List AV → Heap → Option (AV × Heap)} {ops : Array Oper} {bm : T Nat} {ap : AP} {n0 : Nat} {rs : List Rec} {fin : Fr × Heap × Nat × Nat}

theorem bit_lor (a b j : Nat) : Nat.testBit (Nat.lor a b) j = (Nat.testBit a j || Nat.testBit b j) := Nat.testBit_or a b j
theorem bit_land (a b j : Nat) : Nat.testBit (Nat.land a b) j = (Nat.testBit a j && Nat.testBit b j) := Nat.testBit_and a b j

def isActR (rs : List Rec) (j : Nat) : Bool := match rs[j]? with
  | some r => match r.kd with
    | .act => true
    | _ => false
  | none => false

theorem stAt_get {i : Nat} {r : Rec} (h : rs[i]? = some r) : stAt rs fin i = (r.f, r.C, r.M, r.A) := by unfold stAt; rw [h]

/-- Which acts there were so far, and what they had ahead of them. -/
theorem st_bits (hL : Laid P call ops bm ap n0 rs fin 0) (hlen : rs.length = ops.size) (h0 : (stAt rs fin 0).2.2 = (0, 0)) : ∀ i, i ≤ ops.size →
    (∀ j, Nat.testBit (stAt rs fin i).2.2.2 j = (decide (j < i) && isActR rs j)) ∧ (∀ j, Nat.testBit (stAt rs fin i).2.2.1 j = true ↔ ∃ a, a < i ∧ isActR rs a = true ∧ Nat.testBit (bm.get a) j = true)
  | 0, _ => by
    have e1 : (stAt rs fin 0).2.2.2 = 0 := by rw [h0]
    have e2 : (stAt rs fin 0).2.2.1 = 0 := by rw [h0]
    refine ⟨fun j => by rw [e1]; simp, fun j => by rw [e2]; simp⟩
  | i + 1, hi => by
    obtain ⟨ih1, ih2⟩ := st_bits hL hlen h0 i (by omega)
    have ho := Array.getElem?_eq_getElem (xs := ops) (i := i) (by omega)
    have hr := List.getElem?_eq_getElem (l := rs) (i := i) (by omega)
    obtain ⟨f2, hput, hc⟩ := hL.each i _ _ (Nat.zero_le _) ho hr
    rw [stAt_get hr] at ih1 ih2
    generalize rs[i] = r at hr hput hc ih1 ih2
    have same : isActR rs i = false → stAt rs fin (i + 1) = (f2, r.C, r.M, r.A) → (∀ j, Nat.testBit (stAt rs fin (i + 1)).2.2.2 j = (decide (j < i + 1) && isActR rs j)) ∧ (∀ j, Nat.testBit (stAt rs fin (i + 1)).2.2.1 j = true ↔ ∃ a, a < i + 1 ∧ isActR rs a = true ∧ Nat.testBit (bm.get a) j = true) := fun hna he => by
      rw [he]
      refine ⟨fun j => ?_, fun j => ?_⟩
      · have := ih1 j
        simp only at this ⊢
        rw [this]
        by_cases hj : j = i
        · subst hj; simp [hna]
        · have : decide (j < i + 1) = decide (j < i) := by rw [Bool.eq_iff_iff]; simp; omega
          rw [this]
      · have := ih2 j
        simp only at this ⊢
        rw [this]
        constructor
        · rintro ⟨a, h1, h2, h3⟩; exact ⟨a, by omega, h2, h3⟩
        · rintro ⟨a, h1, h2, h3⟩
          by_cases ha : a = i
          · subst ha; rw [hna] at h2; cases h2
          · exact ⟨a, by omega, h2, h3⟩
    rcases hc with ⟨hk, _, _, he⟩ | ⟨hk, _, _, _, he⟩ | ⟨k, n, v, hk, _, _, _, _, he⟩ | ⟨C2, hk, _, _, _, _, he⟩ | ⟨k, old, hk, _, _, _, he⟩ | ⟨id, k, hk, _, _, _, he⟩
    · exact same (by simp [isActR, hr, hk]) he
    · exact same (by simp [isActR, hr, hk]) he
    · exact same (by simp [isActR, hr, hk]) he
    · have hact : isActR rs i = true := by simp [isActR, hr, hk]
      rw [he]
      refine ⟨fun j => ?_, fun j => ?_⟩
      · have := ih1 j
        simp only at this ⊢
        rw [bit_lor, this, Nat.testBit_two_pow]
        by_cases hj : j = i
        · subst hj; simp [hact]
        · have e1 : decide (j < i + 1) = decide (j < i) := by rw [Bool.eq_iff_iff]; simp; omega
          have e2 : decide (i = j) = false := by simp; omega
          rw [e1, e2, Bool.or_false]
      · have := ih2 j
        simp only at this ⊢
        rw [bit_lor, Bool.or_eq_true, this]
        constructor
        · rintro (⟨a, h1, h2, h3⟩ | h)
          · exact ⟨a, by omega, h2, h3⟩
          · exact ⟨i, by omega, hact, h⟩
        · rintro ⟨a, h1, h2, h3⟩
          by_cases ha : a = i
          · subst ha; exact .inr h3
          · exact .inl ⟨a, by omega, h2, h3⟩
    · exact same (by simp [isActR, hr, hk]) he
    · exact same (by simp [isActR, hr, hk]) he

/-- Where no act stands between, memory is the same. -/
theorem st_const (hL : Laid P call ops bm ap n0 rs fin 0) (hlen : rs.length = ops.size) (a : Nat) : ∀ n, a + n ≤ ops.size → (∀ j, a ≤ j → j < a + n → isActR rs j = false) → (stAt rs fin (a + n)).2 = (stAt rs fin a).2
  | 0, _, _ => rfl
  | n + 1, hn, hna => by
    have ih := st_const hL hlen a n (by omega) (fun j h1 h2 => hna j h1 (by omega))
    have ho := Array.getElem?_eq_getElem (xs := ops) (i := a + n) (by omega)
    have hr := List.getElem?_eq_getElem (l := rs) (i := a + n) (by omega)
    obtain ⟨f2, hput, hc⟩ := hL.each (a + n) _ _ (Nat.zero_le _) ho hr
    rw [← ih, stAt_get hr]
    have hact := hna (a + n) (by omega) (by omega)
    generalize rs[a + n] = r at hr hput hc
    rcases hc with ⟨hk, _, _, he⟩ | ⟨hk, _, _, _, he⟩ | ⟨k, m, v, hk, _, _, _, _, he⟩ | ⟨C2, hk, _, _, _, _, he⟩ | ⟨k, old, hk, _, _, _, he⟩ | ⟨id, k, hk, _, _, _, he⟩
    · rw [show a + (n + 1) = a + n + 1 by omega, he]
    · rw [show a + (n + 1) = a + n + 1 by omega, he]
    · rw [show a + (n + 1) = a + n + 1 by omega, he]
    · simp [isActR, hr, hk] at hact
    · rw [show a + (n + 1) = a + n + 1 by omega, he]
    · rw [show a + (n + 1) = a + n + 1 by omega, he]

/-- The masks. -/
theorem maskOf_bit {bm' : T Nat} {o : Oper} {j : Nat} (h : Nat.testBit (maskOf bm' o) j = true) : ∃ e, e ∈ o.after ∧ Region.binds .any e = true ∧ (j = e.on ∨ Nat.testBit (bm'.get e.on) j = true) := by
  unfold maskOf at h
  have key : ∀ (l : List Edge) (s : Nat), Nat.testBit (l.foldl (fun s e => match Region.binds .any e with
      | true => Nat.lor (Nat.lor s (2 ^ e.on)) (bm'.get e.on)
      | false => s) s) j = true → Nat.testBit s j = true ∨ ∃ e, e ∈ l ∧ Region.binds .any e = true ∧ (j = e.on ∨ Nat.testBit (bm'.get e.on) j = true) := by
    intro l
    induction l with
    | nil => intro s h; exact .inl h
    | cons e l ih =>
      intro s h
      rw [List.foldl_cons] at h
      rcases ih _ h with h | ⟨e', h1, h2, h3⟩
      · split at h
        · rename_i hb
          rw [bit_lor, bit_lor, Nat.testBit_two_pow] at h
          simp only [Bool.or_eq_true, decide_eq_true_eq] at h
          rcases h with (h | h) | h
          · exact .inl h
          · exact .inr ⟨e, by simp, hb, .inl h.symm⟩
          · exact .inr ⟨e, by simp, hb, .inr h⟩
        · exact .inl h
      · exact .inr ⟨e', by simp [h1], h2, h3⟩
  rcases key _ _ h with h | ⟨e, h1, h2, h3⟩
  · simp at h
  · exact ⟨e, by simpa using h1, h2, h3⟩

theorem masks_get : ∀ (l : List Oper) (i : Nat) (b : T Nat), i + l.length ≤ 512 → (∀ j, i ≤ j → j < 512 → b.get j = 0) → ∀ k o, l[k]? = some o → ∃ b' : T Nat, (masks l i b).get (i + k) = maskOf b' o ∧ ∀ j, j < 512 → b'.get j = if j < i + k then (masks l i b).get j else 0 := by
  have low : ∀ (l : List Oper) (i : Nat) (b : T Nat), i + l.length ≤ 512 → ∀ j, j < i → (masks l i b).get j = b.get j := by
    intro l
    induction l with
    | nil => intro i b _ j _; rfl
    | cons o l ih =>
      intro i b hl j hj
      simp only [List.length_cons] at hl
      rw [masks, ih (i + 1) _ (by omega) j (by omega), T.get_set_lt (d := 9) (by omega) (by omega), if_neg (by omega)]
  intro l
  induction l with
  | nil => intro i b _ _ k o h; simp at h
  | cons x l ih =>
    intro i b hl hb k o h
    simp only [List.length_cons] at hl
    cases k with
    | zero =>
      simp only [List.getElem?_cons_zero, Option.some.injEq] at h
      subst h
      refine ⟨b, ?_, fun j hj => ?_⟩
      · show (masks l (i + 1) (T.set 9 b i (maskOf b x))).get i = _
        rw [low l (i + 1) _ (by omega) i (by omega), T.get_set_lt (d := 9) (by omega) (by omega), if_pos rfl]
      · rw [Nat.add_zero]
        split
        · rename_i hji
          rw [low (x :: l) i b (by simp only [List.length_cons]; omega) j hji]
        · exact hb j (by omega) hj
    | succ k =>
      obtain ⟨b', h1, h2⟩ := ih (i + 1) (T.set 9 b i (maskOf b x)) (by omega) (fun j h1 h2 => by
        rw [T.get_set_lt (d := 9) (by omega) (by omega), if_neg (by omega)]; exact hb j (by omega) h2) k o (by simpa using h)
      refine ⟨b', ?_, fun j hj => ?_⟩
      · rw [masks, show i + (k + 1) = i + 1 + k by omega]; exact h1
      · rw [h2 j hj, masks, show i + (k + 1) = i + 1 + k by omega]

/-- Is all that must stand ahead of what was done, done? -/
def ClosedS (ops : Array Oper) (S : Nat → Bool) : Prop := ∀ i o, S i = true → ops[i]? = some o → ∀ e, e ∈ o.after → Region.binds .any e = true → S e.on = true
theorem mask_closed (hm : ops.size ≤ 512) {S : Nat → Bool} (hS : ClosedS ops S) (hb : ∀ i, S i = true → i < ops.size) : ∀ (n i : Nat) (o : Oper), i < n → ops[i]? = some o → (∀ e, e ∈ o.after → Region.binds .any e = true → S e.on = true) → ∀ j, Nat.testBit ((maskTree ops).get i) j = true → S j = true
  | 0, i, o, hi, _, _, _, _ => by omega
  | n + 1, i, o, hi, ho, hready, j, hj => by
    obtain ⟨b', h1, h2⟩ := masks_get ops.toList 0 (.leaf 0) (by simpa using hm) (fun j _ _ => rfl) i o (by simpa using ho)
    rw [Nat.zero_add] at h1
    have hj' : Nat.testBit (maskOf b' o) j = true := by rw [← h1]; exact hj
    obtain ⟨e, he1, he2, he3⟩ := maskOf_bit hj'
    have hSe := hready e he1 he2
    rcases he3 with he3 | he3
    · rw [he3]; exact hSe
    · by_cases hlt : e.on < 512
      · rw [h2 e.on hlt] at he3
        split at he3
        · rename_i hon
          cases hoe : ops[e.on]? with
          | none =>
            have := Array.getElem?_eq_none_iff.1 hoe
            have := (Array.getElem?_eq_some_iff.1 ho).1
            omega
          | some o' => exact mask_closed hm hS hb n e.on o' (by omega) hoe (hS e.on o' hSe hoe) j he3
        · simp at he3
      · have := hb _ hSe; omega

/-- Of two operations one stands ahead of the other, or neither looks at what the other makes. -/
theorem orderly_spec (h : orderly ops = true) : ops.size ≤ 256 ∧ (∀ i, i < ops.size → (maskTree ops).get i < 2 ^ i) ∧
    ∀ i j oi oj, j < i → ops[i]? = some oi → ops[j]? = some oj → Nat.testBit ((maskTree ops).get i) j = true ∨ oj.apart ops oi = true := by
  unfold orderly at h
  rw [Bool.and_eq_true] at h
  obtain ⟨h1, h2⟩ := h
  refine ⟨Nat.le_of_ble_eq_true h2, ?_⟩
  have inner : ∀ (mask : Nat) (o : Oper) (l : List Oper) (k : Nat), orderlyAt ops mask o l k = true → ∀ j x, l[j]? = some x → Nat.testBit mask (k + j) = true ∨ x.apart ops o = true := by
    intro mask o l
    induction l with
    | nil => intro k _ j x h; simp at h
    | cons y l ih =>
      intro k h j x hx
      rw [orderlyAt, Bool.and_eq_true] at h
      cases j with
      | zero =>
        simp only [List.getElem?_cons_zero, Option.some.injEq] at hx
        subst hx
        simpa using h.1
      | succ j =>
        have := ih (k + 1) h.2 j x (by simpa using hx)
        rw [show k + (j + 1) = k + 1 + j by omega]; exact this
  have outer : ∀ (l seen : List Oper), orderlyFrom ops (maskTree ops) l seen.length seen = true → ∀ k o, l[k]? = some o → (maskTree ops).get (seen.length + k) < 2 ^ (seen.length + k) ∧
      ∀ j x, j < seen.length + k → (seen ++ l)[j]? = some x → Nat.testBit ((maskTree ops).get (seen.length + k)) j = true ∨ x.apart ops o = true := by
    intro l
    induction l with
    | nil => intro seen _ k o h; simp at h
    | cons y l ih =>
      intro seen h k o ho
      rw [orderlyFrom, Bool.and_eq_true, Bool.and_eq_true] at h
      obtain ⟨⟨a1, a2⟩, a3⟩ := h
      cases k with
      | zero =>
        simp only [List.getElem?_cons_zero, Option.some.injEq] at ho
        subst ho
        refine ⟨bl a1, fun j x hj hx => ?_⟩
        rw [Nat.add_zero] at hj ⊢
        rw [List.getElem?_append_left hj] at hx
        have := inner _ _ _ 0 a2 j x hx
        simpa using this
      | succ k =>
        have := ih (seen ++ [y]) (by simpa using a3) k o (by simpa using ho)
        simp only [List.length_append, List.length_singleton] at this
        rw [show seen.length + (k + 1) = seen.length + 1 + k by omega]
        refine ⟨this.1, fun j x hj hx => this.2 j x hj ?_⟩
        simpa using hx
  have := outer ops.toList [] h1
  refine ⟨fun i hi => ?_, fun i j oi oj hji hi hj => ?_⟩
  · have := (this i _ (by rw [Array.getElem?_toList]; exact Array.getElem?_eq_getElem hi)).1
    simpa using this
  · have := (this i oi (by simpa using hi)).2 j oj (by simpa using hji) (by simpa using hj)
    simpa using this
end
end Ev
end Go.Proofs.YtpppaheennkkpaaGreatDoor

/- A statement whose order Go leaves open: small laws. -/
namespace Go.Proofs.YtpppaheennkkpaaGreatDoor
namespace Ev

section
variable {σ : Nat → Value} {ρ : Place} {P : Program} {G : Nat → Option Nat} {call : FuncId → List AV → Heap → Option (AV × Heap)} {ops : Array Oper} {bm : T Nat} {ap : AP} {n0 : Nat} {rs : List Rec} {fin : Fr × Heap × Nat × Nat}

/-- The first act that was not done. -/
def stI (rs : List Rec) (S : Nat → Bool) : Nat → Nat → Nat
  | i, 0 => i
  | i, n + 1 => match isActR rs i && !S i with
    | true => i
    | false => stI rs S (i + 1) n
theorem stI_spec (S : Nat → Bool) : ∀ (n i : Nat), i ≤ stI rs S i n ∧ stI rs S i n ≤ i + n ∧ (∀ a, i ≤ a → a < stI rs S i n → isActR rs a = true → S a = true) ∧ (stI rs S i n < i + n → isActR rs (stI rs S i n) = true ∧ S (stI rs S i n) = false)
  | 0, i => ⟨Nat.le_refl _, Nat.le_refl _, fun a h1 h2 => by have h2' : a < i := h2; omega, fun h => by have h' : i < i + 0 := h; omega⟩
  | n + 1, i => by
    unfold stI
    cases hc : (isActR rs i && !S i) with
    | true =>
      simp only []
      rw [Bool.and_eq_true, Bool.not_eq_true'] at hc
      exact ⟨Nat.le_refl _, by omega, fun a h1 h2 => by omega, fun _ => hc⟩
    | false =>
      simp only []
      obtain ⟨h1, h2, h3, h4⟩ := stI_spec S n (i + 1)
      refine ⟨by omega, by omega, fun a g1 g2 g3 => ?_, fun h => h4 (by omega)⟩
      by_cases ha : a = i
      · subst ha
        rw [g3] at hc
        simpa using hc
      · exact h3 a (by omega) g2 g3
theorem stI_congr {S S' : Nat → Bool} (h : ∀ a, isActR rs a = true → S a = S' a) : ∀ (n i : Nat), stI rs S i n = stI rs S' i n
  | 0, i => rfl
  | n + 1, i => by
    unfold stI
    have : (isActR rs i && !S i) = (isActR rs i && !S' i) := by
      cases ha : isActR rs i
      · rfl
      · rw [h i ha]
    rw [this, stI_congr h n (i + 1)]

theorem viewP_congr {p q : Nat → Bool} : ∀ (l : List Rec) (C : Heap) (i : Nat), (∀ j r id k, l[j]? = some r → r.kd = .mk id k → p (i + j) = q (i + j)) → viewP p C l i = viewP q C l i
  | [], C, i, _ => rfl
  | r :: l, C, i, h => by
    have ih : ∀ C', viewP p C' l (i + 1) = viewP q C' l (i + 1) := fun C' => viewP_congr l C' (i + 1) (fun j r' id k hj hk => by
      have := h (j + 1) r' id k (by simpa using hj) hk
      rw [show i + 1 + j = i + (j + 1) by omega]; exact this)
    unfold viewP
    cases hk : r.kd with
    | mk id k =>
      have := h 0 r id k rfl hk
      rw [Nat.add_zero] at this
      simp only [this, ih]
    | _ => simp only [ih]

theorem Step.congr {ρ0 : Place} {H0 X Y : Heap} {w0 w : World} (h : Step ρ0 H0 w0 ρ X w) (hX : X.next ≤ 65536) (hn : Y.next = X.next) (hg : ∀ i, i < 65536 → Y.get i = X.get i) : Step ρ0 H0 w0 ρ Y w :=
  ⟨h.ext, h.size, h.keep, fun i k p hi e hp hb => h.back i k p (hn ▸ hi) (by rw [← hg i (by omega)]; exact e) hp hb, h.rest, hn ▸ h.more, h.same, fun i hi e => by rw [hg i (by have := h.more; omega)]; exact h.dead i hi e, fun i k p c ty f hi e hp hb => h.cells i k p c ty f hi (by rw [← hg i (by have := h.more; omega)]; exact e) hp hb⟩

/-- What does not hang on memory. -/
theorem fop_indep {f : Fr} {o : Oper} (h : hdep o.op = false) (H1 H2 : Heap) : fop P f o H1 = fop P f o H2 := by
  unfold fop
  cases hop : o.op with
  | load _ _ => rw [hop] at h; cases h
  | lookup _ _ _ _ => rw [hop] at h; cases h
  | convert _ _ _ => rw [hop] at h; cases h
  | slice _ _ _ _ _ => rw [hop] at h; cases h
  | call c => rw [hop] at h; cases h
  | makeMap t r => cases r <;> rfl
  | _ => rfl
theorem convA_new {src dst : TypeId} {x : AV} {H1 : Heap} {k : ABlk} {n : Nat} {v : Nat → AV} (h : convA P src dst x H1 = some (.new k n v)) (H2 : Heap) : convA P src dst x H2 = some (.new k n v) := by
  unfold convA at h ⊢
  split at h
  · cases h
  · cases h
  · split at h
    · cases h
    · split at h
      · cases h
      · split at h
        · split at h <;> cases h
        · cases h
    · cases h
  · exact h
  · cases h
theorem fop_new {f : Fr} {o : Oper} {H1 : Heap} {k : ABlk} {n : Nat} {v : Nat → AV} (h : fop P f o H1 = some (.new k n v)) (H2 : Heap) : fop P f o H2 = some (.new k n v) := by
  by_cases hd : hdep o.op = false
  · rw [fop_indep hd H2 H1]; exact h
  · cases hop : o.op with
    | load t x =>
      unfold fop at h; rw [hop] at h; simp only at h
      split at h
      · split at h <;> cases h
      · cases h
    | lookup t x ix ok =>
      unfold fop at h; rw [hop] at h; simp only at h
      split at h
      · split at h <;> cases h
      · cases h
    | slice t x lo hi mx =>
      unfold fop at h; rw [hop] at h; simp only at h
      split at h
      · split at h
        · split at h <;> cases h
        · cases h
      · cases h
    | convert s d x =>
      unfold fop at h ⊢; rw [hop] at h ⊢; simp only at h ⊢
      split at h
      · exact convA_new h H2
      · cases h
    | call c =>
      unfold fop at h; rw [hop] at h
      split at h <;> first | (cases ‹Op.call _ = _›; done) | skip
      all_goals first
        | (cases h; done)
        | (split at h
           · split at h
             · split at h <;> cases h
             · cases h
           · cases h)
        | (split at h
           · split at h <;> cases h
           · cases h)
    | _ => rw [hop] at hd; exact absurd rfl hd

mutual
theorem abeq_eq : ∀ (a b : AV), abeq a b = true → a = b
  | .bool a, b, h => by cases b <;> simp [abeq] at h; rw [h]
  | .int k a, b, h => by cases b <;> simp [abeq, ieq_eq] at h; rw [h.1, h.2]
  | .str a, b, h => by cases b <;> simp [abeq, beqs_eq] at h; rw [h]
  | .ptr a c, b, h => by cases b <;> simp [abeq] at h; rw [h.1, h.2]
  | .nilp, b, h => by cases b <;> simp [abeq] at h; rfl
  | .slice a c d e, b, h => by cases b <;> simp [abeq] at h; obtain ⟨⟨⟨h1, h2⟩, h3⟩, h4⟩ := h; rw [h1, h2, h3, h4]
  | .osl a c d e g, b, h => by cases b <;> simp [abeq] at h; obtain ⟨⟨⟨⟨h1, h2⟩, h3⟩, h4⟩, h5⟩ := h; rw [h1, h2, h3, h4, h5]
  | .nils, b, h => by cases b <;> simp [abeq] at h; rfl
  | .map a, b, h => by cases b <;> simp [abeq] at h; rw [h]
  | .nilm, b, h => by cases b <;> simp [abeq] at h; rfl
  | .fn f a c, b, h => by
    cases f with
    | func f =>
      cases b with
      | fn g x y =>
        cases g with
        | func g =>
          simp [abeq] at h
          obtain ⟨⟨h1, h2⟩, h3⟩ := h
          rw [h1, abeqs_eq a x h2, abeqs_eq c y h3]
        | _ => simp [abeq] at h
      | _ => simp [abeq] at h
    | _ => cases b <;> simp [abeq] at h
  | .nilf, b, h => by cases b <;> simp [abeq] at h; rfl
  | .iface t v, b, h => by
    cases b <;> simp [abeq] at h
    rename_i u x
    rw [h.1, abeq_eq v x h.2]
  | .nili, b, h => by cases b <;> simp [abeq] at h; rfl
  | .agg a, b, h => by
    cases b <;> simp [abeq] at h
    rename_i x
    rw [abeqs_eq a x h]
  | .tup a, b, h => by
    cases b <;> simp [abeq] at h
    rename_i x
    rw [abeqs_eq a x h]
  | .sym i, b, h => by cases b <;> simp [abeq] at h; rw [h]
theorem abeqs_eq : ∀ (a b : List AV), abeqs a b = true → a = b
  | [], b, h => by cases b <;> simp [abeqs] at h; rfl
  | x :: l, b, h => by
    cases b with
    | nil => simp [abeqs] at h
    | cons y m =>
      simp [abeqs] at h
      rw [abeq_eq x y h.1, abeqs_eq l m h.2]
end

theorem fltAt_spec {o : Oper} {r : Rec} {i mask At : Nat} : ∀ {ss : List Stage}, fltAt P o r i mask At rs ss = true → ∀ s, s ∈ ss → Nat.land (Nat.land mask At) s.A = Nat.land mask At → Nat.testBit s.M i = false →
    fop P r.f o (view mask s.M s.C rs 0) = some (.val r.v)
  | [], _, s, hs, _, _ => by cases hs
  | s0 :: l, h, s, hs, h1, h2 => by
    unfold fltAt at h
    rcases List.mem_cons.1 hs with e | hs'
    · subst e
      split at h
      · split at h
        · rename_i v hv
          rw [Bool.and_eq_true] at h
          rw [hv, abeq_eq v r.v h.1]
        · cases h
      · rename_i hc
        rw [h1, h2] at hc
        simp at hc
    · split at h
      · split at h
        · rw [Bool.and_eq_true] at h
          exact fltAt_spec h.2 s hs' h1 h2
        · cases h
      · exact fltAt_spec h s hs' h1 h2
theorem fltAll_spec {At : Nat} {ss : List Stage} : ∀ {ol : List Oper} {rl : List Rec} {k : Nat}, fltAll P bm At rs ss ol rl k = true → ∀ i o r, ol[i]? = some o → rl[i]? = some r → r.kd = .flt → hdep o.op = true →
    fltAt P o r (k + i) (bm.get (k + i)) At rs ss = true
  | [], _, _, _, i, o, r, ho, _, _, _ => by simp at ho
  | _ :: _, [], _, h, i, o, r, _, hr, _, _ => by simp at hr
  | o0 :: ol, r0 :: rl, k, h, i, o, r, ho, hr, hk, hd => by
    rw [fltAll, Bool.and_eq_true] at h
    cases i with
    | zero =>
      simp only [List.getElem?_cons_zero, Option.some.injEq] at ho hr
      subst ho; subst hr
      have h1 := h.1
      rw [hk] at h1
      simp only [hd] at h1
      exact h1
    | succ i =>
      have := fltAll_spec h.2 i o r (by simpa using ho) (by simpa using hr) hk hd
      rw [show k + (i + 1) = k + 1 + i by omega]; exact this
theorem stages_mem : ∀ {l : List Rec} {i : Nat} {r : Rec}, l[i]? = some r → r.kd = .act → (⟨r.C, r.M, r.A⟩ : Stage) ∈ stages l
  | [], i, r, h, _ => by simp at h
  | x :: l, i, r, h, hk => by
    cases i with
    | zero =>
      simp only [List.getElem?_cons_zero, Option.some.injEq] at h
      subst h
      unfold stages
      rw [hk]
      simp
    | succ i =>
      have := stages_mem (l := l) (i := i) (by simpa using h) hk
      unfold stages
      split <;> simp [this]

/-- What is known of some slots. -/
def SL (σ : Nat → Value) (ρ : Place) (f : Fr) (a : Act) (D : List Tmp) : Prop := ∀ d, d ∈ D → ∀ v, f.get d = some v → ∃ x, a.tmps[d]? = some x ∧ conc σ ρ v = some x
theorem SL.ev {f : Fr} {a : Act} {o : Oper} (h : SL σ ρ f a (o.looksAt ops)) (hG : ∀ g id, f.g g = some id → ∃ n, ρ id = some ⟨g, 0, n⟩) : EV σ ρ f a o.op.operands.toList := fun x hx v hv => by
  cases x with
  | tmp t =>
    obtain ⟨y, h1, h2⟩ := h t (by unfold Oper.looksAt; refine List.mem_append_left _ (List.mem_filterMap.2 ⟨.tmp t, hx, rfl⟩)) v hv
    rw [h2]
    simp [Act.eval, Array.getD_eq_getD_getElem?, h1]
  | const c => exact ofV_conc hv
  | global g =>
    cases hid : f.g g with
    | none => simp only [Ev.ev, hid] at hv; cases hv
    | some id =>
      simp only [Ev.ev, hid, Option.some.injEq] at hv
      subst hv
      obtain ⟨n, hn⟩ := hG g id hid
      simp [conc, hn, Act.eval]
  | func g => cases hv; simp [conc, concs, Act.eval]
theorem wantA_ok' {f : Fr} {a : Act} {o : Oper} {b : Bool} (hf : SL σ ρ f a (o.looksAt ops)) (h : wantA f ops o = some b) : Region.wanted o (yielded ops a.tmps) = b := by
  unfold wantA at h
  unfold Region.wanted
  split at h
  · rename_i hg
    cases h
    simp [hg]
  · rename_i j want hg
    simp only [hg]
    split at h
    · rename_i g hj
      split at h
      · rename_i d hd
        have hy : ∀ x, a.tmps[d]? = some x → yielded ops a.tmps j = match x with
            | .bool b => some b
            | _ => none := fun x hx => by
          unfold yielded
          simp only [hj, hd, hx, Option.bind_some]
          cases x <;> rfl
        have hget := hf d (by unfold Oper.looksAt; refine List.mem_append_right _ ?_; simp [hg, hj, hd])
        split at h
        · rename_i b' hb'
          cases h
          obtain ⟨x, h1, h2⟩ := hget _ hb'
          simp only [conc, Option.some.injEq] at h2
          subst h2
          rw [hy _ h1]
          simp
        · rename_i l hl
          cases h
          obtain ⟨x, h1, h2⟩ := hget _ hl
          obtain ⟨y, _, rfl⟩ := conc_tup h2
          rw [hy _ h1]
          simp
        · cases h
      · cases h
    · cases h
end
end Ev
end Go.Proofs.YtpppaheennkkpaaGreatDoor

/- A statement whose order Go leaves open: what holds ahead of each operation, whichever comes. -/
namespace Go.Proofs.YtpppaheennkkpaaGreatDoor
namespace Ev

/-- The run's print of a statement. -/
structure Ctx (P : Program) (call : FuncId → List AV → Heap → Option (AV × Heap)) (ops : Array Oper) (ap : AP) (n0 : Nat) (rs : List Rec) (fin : Fr × Heap × Nat × Nat) (f0 : Fr) (C0 : Heap) : Prop where
  L : Laid P call ops (maskTree ops) ap n0 rs fin 0
  len : rs.length = ops.size
  z : stAt rs fin 0 = (f0, C0, 0, 0)
  ord : orderly ops = true
  flt : fltAll P (maskTree ops) fin.2.2.2 rs (stages rs ++ [⟨fin.2.1, fin.2.2.1, fin.2.2.2⟩]) ops.toList rs 0 = true
  room : n0 + ops.size ≤ 65536
  safe : ∀ ia old, ap.app = some (ia, old) → appSafe (maskTree ops) ia ops.toList 0 = true
  late : lateAll (maskTree ops) ops.toList rs rs 0 = true

/-- What a slot holds when some operations were done. -/
noncomputable def valS (ops : Array Oper) (rs : List Rec) (f0 : Fr) (S : Nat → Bool) (t : Nat) : Nat → AV
  | 0 => f0.t.get t
  | n + 1 => match ops[n]?, rs[n]? with
    | some o, some r => if S n = true ∧ o.dst = some t then r.v else valS ops rs f0 S t n
    | _, _ => valS ops rs f0 S t n
noncomputable def ST (ops : Array Oper) (rs : List Rec) (S : Nat → Bool) : Nat := stI rs S 0 ops.size
noncomputable def XS (ops : Array Oper) (rs : List Rec) (fin : Fr × Heap × Nat × Nat) (S : Nat → Bool) : Heap :=
  viewP (fun j => S j && !Nat.testBit (stAt rs fin (ST ops rs S)).2.2.1 j) (stAt rs fin (ST ops rs S)).2.1 rs 0

/-- What the stores that come last leave, those of some operations. -/
noncomputable def latePl (p : Nat → Bool) : List Rec → Nat → Heap → Heap
  | [], _, H => H
  | r :: l, i, H => match r.kd with
    | .late id k => match p i with
      | true => latePl p l (i + 1) (H.put id k)
      | false => latePl p l (i + 1) H
    | _ => latePl p l (i + 1) H
noncomputable def XL (ops : Array Oper) (rs : List Rec) (fin : Fr × Heap × Nat × Nat) (S : Nat → Bool) : Heap := latePl S rs 0 (XS ops rs fin S)
theorem latePl_cons (p : Nat → Bool) (r : Rec) (l : List Rec) (i : Nat) (H : Heap) : latePl p (r :: l) i H = match r.kd with
    | .late id k => match p i with
      | true => latePl p l (i + 1) (H.put id k)
      | false => latePl p l (i + 1) H
    | _ => latePl p l (i + 1) H := by
  conv => lhs; unfold latePl
theorem lateH_eq : ∀ (l : List Rec) (i : Nat) (H : Heap), lateH l H = latePl (fun _ => true) l i H
  | [], _, _ => rfl
  | r :: l, i, H => by
    have ih := fun H => lateH_eq l (i + 1) H
    rw [latePl_cons]
    unfold lateH
    cases r.kd <;> exact ih _
theorem latePl_next (p : Nat → Bool) : ∀ (l : List Rec) (i : Nat) (H : Heap), (latePl p l i H).next = H.next
  | [], _, _ => rfl
  | r :: l, i, H => by
    have ih := fun H => latePl_next p l (i + 1) H
    rw [latePl_cons]
    cases r.kd with
    | late id k =>
      simp only []
      cases p i
      · exact ih _
      · exact ih _
    | _ => exact ih _
theorem latePl_none {p : Nat → Bool} : ∀ (l : List Rec) (i : Nat) (H : Heap), (∀ j r id k, l[j]? = some r → r.kd = .late id k → p (i + j) = false) → latePl p l i H = H
  | [], _, _, _ => rfl
  | r :: l, i, H, h => by
    have ih := fun H => latePl_none (p := p) l (i + 1) H (fun j r id k hj hk => by
      have := h (j + 1) r id k (by simpa using hj) hk
      rw [show i + 1 + j = i + (j + 1) by omega]; exact this)
    rw [latePl_cons]
    cases hk : r.kd with
    | late id k =>
      have := h 0 r id k rfl hk
      rw [Nat.add_zero] at this
      simp only [this]
      exact ih _
    | _ => exact ih _
theorem latePl_rel {p q : Nat → Bool} {m : Nat} (hm : m < 65536) : ∀ (l : List Rec) (i : Nat) (H H' : Heap), H.get m = H'.get m → (∀ j r id k, l[j]? = some r → r.kd = .late id k → id < 65536 ∧ (p (i + j) = q (i + j) ∨ id ≠ m)) → (latePl p l i H).get m = (latePl q l i H').get m
  | [], _, _, _, h, _ => h
  | r :: l, i, H, H', h, hr => by
    have ih := fun H H' h => latePl_rel (p := p) (q := q) hm l (i + 1) H H' h (fun j r id k hj hk => by
      have := hr (j + 1) r id k (by simpa using hj) hk
      rw [show i + 1 + j = i + (j + 1) by omega]; exact this)
    rw [latePl_cons, latePl_cons]
    cases hk : r.kd with
    | late id k =>
      obtain ⟨h1, h2⟩ := hr 0 r id k rfl hk
      rw [Nat.add_zero] at h2
      simp only []
      by_cases e : id = m
      · subst e
        rcases h2 with h2 | h2
        · rw [h2]
          cases q i
          · exact ih _ _ h
          · exact ih _ _ (by rw [get_put h1 hm, get_put h1 hm, if_pos rfl, if_pos rfl])
        · exact absurd rfl h2
      · have e' : ¬ m = id := fun x => e x.symm
        cases p i <;> cases q i <;> refine ih _ _ ?_
        · exact h
        · rw [get_put h1 hm, if_neg e']; exact h
        · rw [get_put h1 hm, if_neg e']; exact h
        · rw [get_put h1 hm, get_put h1 hm, if_neg e', if_neg e']; exact h
    | _ => exact ih _ _ h
theorem latePl_at {p : Nat → Bool} {id0 : Nat} {k0 : ABlk} (h0 : id0 < 65536) : ∀ (l : List Rec) (i : Nat) (H : Heap) (j0 : Nat) (r0 : Rec), l[j0]? = some r0 → r0.kd = .late id0 k0 → p (i + j0) = true → (∀ j r id k, l[j]? = some r → r.kd = .late id k → id < 65536 ∧ (j = j0 ∨ id ≠ id0)) → (latePl p l i H).get id0 = some k0
  | r :: l, i, H, 0, r0, hr0, hk0, hp, hd => by
    cases hr0
    rw [latePl_cons, hk0]
    rw [Nat.add_zero] at hp
    simp only [hp]
    have := latePl_rel (p := p) (q := fun _ => false) h0 l (i + 1) (H.put id0 k0) (H.put id0 k0) rfl (fun j r id k hj hk => by
      obtain ⟨h1, h2⟩ := hd (j + 1) r id k (by simpa using hj) hk
      exact ⟨h1, .inr (h2.resolve_left (by omega))⟩)
    rw [this, latePl_none l (i + 1) _ (fun _ _ _ _ _ _ => rfl), get_put h0 h0, if_pos rfl]
  | r :: l, i, H, j0 + 1, r0, hr0, hk0, hp, hd => by
    have ih := fun H => latePl_at (p := p) h0 l (i + 1) H j0 r0 (by simpa using hr0) hk0 (by rw [show i + 1 + j0 = i + (j0 + 1) by omega]; exact hp) (fun j r id k hj hk => by
      obtain ⟨h1, h2⟩ := hd (j + 1) r id k (by simpa using hj) hk
      exact ⟨h1, h2.imp (fun h => by omega) (fun h => h)⟩)
    rw [latePl_cons]
    cases r.kd with
    | late id k =>
      simp only []
      cases p i
      · exact ih _
      · exact ih _
    | _ => exact ih _
def lateFact (mask id i0 : Nat) (o : Oper) (r : Rec) (j : Nat) : Prop := match r.kd with
  | .skip => True
  | .flt => hdep o.op = true → Nat.testBit mask j = true
  | .mk _ _ => Nat.testBit mask j = true
  | .act => Nat.testBit mask j = true
  | .late id' _ => j = i0 ∨ id' ≠ id
theorem lateOne_cons (mask id i0 : Nat) (o : Oper) (ol : List Oper) (r : Rec) (rl : List Rec) (j : Nat) : lateOne mask id i0 (o :: ol) (r :: rl) j = ((match r.kd with
      | .skip => true
      | .flt => !hdep o.op || Nat.testBit mask j
      | .mk _ _ => Nat.testBit mask j
      | .act => Nat.testBit mask j
      | .late id' _ => Nat.beq j i0 || !Nat.beq id' id) && lateOne mask id i0 ol rl (j + 1)) := rfl
theorem lateFact_of {mask id i0 : Nat} {o : Oper} {r : Rec} {j : Nat} (h : (match r.kd with
      | .skip => true
      | .flt => !hdep o.op || Nat.testBit mask j
      | .mk _ _ => Nat.testBit mask j
      | .act => Nat.testBit mask j
      | .late id' _ => Nat.beq j i0 || !Nat.beq id' id) = true) : lateFact mask id i0 o r j := by
  unfold lateFact
  generalize r.kd = kd at h
  cases kd with
  | skip => trivial
  | flt =>
    intro hd
    simp only [hd, Bool.not_true, Bool.false_or] at h
    exact h
  | mk a b => exact h
  | act => exact h
  | late a b =>
    rw [Bool.or_eq_true] at h
    rcases h with h | h
    · exact .inl (Nat.eq_of_beq_eq_true h)
    · refine .inr (fun e => ?_)
      subst e
      rw [Nat.beq_refl] at h
      cases h
theorem lateOne_spec {mask id i0 : Nat} : ∀ (ol : List Oper) (rl : List Rec) (j0 : Nat), lateOne mask id i0 ol rl j0 = true → ∀ (j : Nat) (o : Oper) (r : Rec), ol[j]? = some o → rl[j]? = some r → lateFact mask id i0 o r (j0 + j)
  | [], _, _, _, _, _, _, ho, _ => by cases ho
  | _ :: _, [], _, _, _, _, _, _, hr => by cases hr
  | o :: ol, r :: rl, j0, h, 0, o', r', ho, hr => by
    rw [lateOne_cons, Bool.and_eq_true] at h
    simp only [List.getElem?_cons_zero, Option.some.injEq] at ho hr
    subst ho; subst hr
    rw [Nat.add_zero]
    exact lateFact_of h.1
  | o :: ol, r :: rl, j0, h, j + 1, o', r', ho, hr => by
    rw [lateOne_cons, Bool.and_eq_true] at h
    have := lateOne_spec ol rl (j0 + 1) h.2 j o' r' (by simpa using ho) (by simpa using hr)
    rw [show j0 + (j + 1) = j0 + 1 + j by omega]; exact this
theorem lateAll_spec {bm : T Nat} {ops : List Oper} {rs : List Rec} : ∀ (l : List Rec) (i : Nat), lateAll bm ops rs l i = true → ∀ (j : Nat) (r : Rec) (id : Nat) (k : ABlk), l[j]? = some r → r.kd = .late id k → lateOne (bm.get (i + j)) id (i + j) ops rs 0 = true
  | r :: l, i, h, 0, r', id, k, hr, hk => by
    cases hr
    unfold lateAll at h
    rw [Bool.and_eq_true] at h
    have h := h.1
    rw [hk] at h
    exact h
  | r :: l, i, h, j + 1, r', id, k, hr, hk => by
    unfold lateAll at h
    rw [Bool.and_eq_true] at h
    have := lateAll_spec l (i + 1) h.2 j r' id k (by simpa using hr) hk
    rw [show i + (j + 1) = i + 1 + j by omega]; exact this
theorem lateA_lt {P : Program} {f : Fr} {o : Oper} {V : Heap} {id : Nat} {k : ABlk} {v : AV} (h : lateA P f o V = some (id, k, v)) : id < 65536 := by
  unfold lateA at h
  split at h
  case h_2 => cases h
  split at h
  case h_2 => cases h
  split at h
  case h_2 => cases h
  rename_i hlt
  split at h
  case h_2 => cases h
  split at h
  case h_2 => cases h
  cases h
  rw [Bool.and_eq_true] at hlt
  exact bl hlt.2

section
variable {σ : Nat → Value} {ρ : Place} {P : Program} {G : Nat → Option Nat} {call : FuncId → List AV → Heap → Option (AV × Heap)} {ops : Array Oper} {ap : AP} {n0 : Nat} {rs : List Rec} {fin : Fr × Heap × Nat × Nat} {f0 : Fr} {C0 : Heap} {S : Nat → Bool}

theorem Ctx.pair (c : Ctx P call ops ap n0 rs fin f0 C0) {i : Nat} (hi : i < ops.size) : ∃ o r, ops[i]? = some o ∧ rs[i]? = some r :=
  ⟨_, _, Array.getElem?_eq_getElem hi, List.getElem?_eq_getElem (by rw [c.len]; exact hi)⟩
theorem Ctx.kid (c : Ctx P call ops ap n0 rs fin f0 C0) : ∀ j r id k, rs[j]? = some r → r.kd = .mk id k → id = n0 + j := fun j r id k hr hk => by
  have hj : j < ops.size := by rw [← c.len]; exact (List.getElem?_eq_some_iff.1 hr).1
  obtain ⟨f2, _, hc⟩ := c.L.each j _ r (Nat.zero_le _) (Array.getElem?_eq_getElem hj) hr
  rcases hc with ⟨h, _⟩ | ⟨h, _⟩ | ⟨k', n, v, h, _⟩ | ⟨C2, h, _⟩ | ⟨k', old, h, _⟩ | ⟨id', k', h, _⟩ <;> rw [hk] at h <;> cases h <;> rfl
theorem Ctx.bits (c : Ctx P call ops ap n0 rs fin f0 C0) {i : Nat} (hi : i ≤ ops.size) :
    (∀ j, Nat.testBit (stAt rs fin i).2.2.2 j = (decide (j < i) && isActR rs j)) ∧ (∀ j, Nat.testBit (stAt rs fin i).2.2.1 j = true ↔ ∃ a, a < i ∧ isActR rs a = true ∧ Nat.testBit ((maskTree ops).get a) j = true) :=
  st_bits c.L c.len (by rw [c.z]) i hi
theorem Ctx.seeAt (c : Ctx P call ops ap n0 rs fin f0 C0) (p : Nat → Bool) (C : Heap) {id : Nat} (hid : id < 65536) :
    (viewP p C rs 0).get id = if n0 ≤ id ∧ p (id - n0) = true ∧ (mkAt n0 rs id).isSome = true then mkAt n0 rs id else C.get id := by
  have := viewP_get (n0 := n0) p rs [] C (by simpa [c.len] using c.room) (by simpa using c.kid) id hid
  simpa using this
theorem put_same {f f2 : Fr} {dst : Option Nat} {v : AV} (h : f.put dst v = some f2) : f2.sz = f.sz ∧ f2.g = f.g ∧ (f.sz ≤ 512 → ∀ t, t < f.sz → f2.t.get t = if dst = some t then v else f.t.get t) := by
  unfold Fr.put at h
  split at h
  · cases h; exact ⟨rfl, rfl, fun _ t _ => by simp⟩
  · rename_i d
    split at h
    · rename_i hd
      cases h
      have hd := bl hd
      refine ⟨rfl, rfl, fun hs t ht => ?_⟩
      show (T.set 9 f.t d v).get t = _
      rw [T.get_set_lt (by omega) (by omega)]
      by_cases h : t = d
      · subst h; simp
      · rw [if_neg h, if_neg (by simp; exact fun e => h e.symm)]
    · cases h
theorem Ctx.frame (c : Ctx P call ops ap n0 rs fin f0 C0) (hs : f0.sz ≤ 512) : ∀ i, i ≤ ops.size → (stAt rs fin i).1.sz = f0.sz ∧ (stAt rs fin i).1.g = f0.g ∧ ∀ t, t < f0.sz → (stAt rs fin i).1.t.get t = valS ops rs f0 (fun _ => true) t i
  | 0, _ => by rw [c.z]; exact ⟨rfl, rfl, fun _ _ => rfl⟩
  | i + 1, hi => by
    obtain ⟨h1, h2, h3⟩ := c.frame hs i (by omega)
    obtain ⟨o, r, ho, hr⟩ := c.pair (i := i) (by omega)
    obtain ⟨f2, hput, hc⟩ := c.L.each i o r (Nat.zero_le _) ho hr
    rw [stAt_get hr] at h1 h2 h3
    obtain ⟨q1, q2, q3⟩ := put_same hput
    have he : (stAt rs fin (i + 1)).1 = f2 := by
      rcases hc with ⟨_, _, _, he⟩ | ⟨_, _, _, _, he⟩ | ⟨k, n, v, _, _, _, _, _, he⟩ | ⟨C2, _, _, _, _, _, he⟩ | ⟨k, old, _, _, _, _, he⟩ | ⟨id, k, _, _, _, _, he⟩ <;> rw [he]
    rw [he]
    simp only at h1 h2 h3
    refine ⟨q1.trans h1, q2.trans h2, fun t ht => ?_⟩
    rw [q3 (by rw [h1]; exact hs) t (by rw [h1]; exact ht), h3 t ht]
    simp [valS, ho, hr]

/-- What was done, is closed. -/
structure SOK (ops : Array Oper) (S : Nat → Bool) : Prop where
  closed : ClosedS ops S
  bound : ∀ i, S i = true → i < ops.size
theorem Ctx.mask (c : Ctx P call ops ap n0 rs fin f0 C0) (hS : SOK ops S) {i : Nat} {o : Oper} (ho : ops[i]? = some o) (hr : ∀ e, e ∈ o.after → Region.binds .any e = true → S e.on = true) {j : Nat} (hj : Nat.testBit ((maskTree ops).get i) j = true) : S j = true :=
  mask_closed (by have := (orderly_spec c.ord).1; omega) hS.closed hS.bound (i + 1) i o (Nat.lt_succ_self i) ho hr j hj
theorem Ctx.maskS (c : Ctx P call ops ap n0 rs fin f0 C0) (hS : SOK ops S) {i : Nat} (hi : S i = true) {j : Nat} (hj : Nat.testBit ((maskTree ops).get i) j = true) : S j = true := by
  have hb := hS.bound i hi
  have ho := Array.getElem?_eq_getElem hb
  exact c.mask hS ho (fun e he hb => hS.closed i _ hi ho e he hb) hj

theorem Ctx.act (c : Ctx P call ops ap n0 rs fin f0 C0) {a : Nat} (ha : isActR rs a = true) : ∃ o r f2 C2, ops[a]? = some o ∧ rs[a]? = some r ∧ a < ops.size ∧ r.f.put o.dst r.v = some f2 ∧ wantA r.f ops o = some true ∧ isAct o.op = true ∧ Nat.land ((maskTree ops).get a) r.A = r.A ∧
    aop P call r.f o (view ((maskTree ops).get a) r.M r.C (rs.take a) 0) = some (r.v, C2) ∧ r.kd = .act ∧ stAt rs fin (a + 1) = (f2, C2, Nat.lor r.M ((maskTree ops).get a), Nat.lor r.A (2 ^ a)) := by
  unfold isActR at ha
  cases hr : rs[a]? with
  | none => rw [hr] at ha; cases ha
  | some r =>
    rw [hr] at ha
    simp only at ha
    have hb : a < ops.size := by rw [← c.len]; exact (List.getElem?_eq_some_iff.1 hr).1
    have ho := Array.getElem?_eq_getElem hb
    obtain ⟨f2, hput, hc⟩ := c.L.each a _ r (Nat.zero_le _) ho hr
    rcases hc with ⟨h, _⟩ | ⟨h, _⟩ | ⟨k', n, v, h, _⟩ | ⟨C2, h1, h2, h3, h4, h5, h6⟩ | ⟨k', old, h, _⟩ | ⟨id', k', h, _⟩
    · rw [h] at ha; cases ha
    · rw [h] at ha; cases ha
    · rw [h] at ha; cases ha
    · exact ⟨_, r, f2, C2, ho, rfl, hb, hput, h2, h3, h4, h5, h1, h6⟩
    · rw [h] at ha; cases ha
    · rw [h] at ha; cases ha
theorem ST_spec (S : Nat → Bool) : ST ops rs S ≤ ops.size ∧ (∀ a, a < ST ops rs S → isActR rs a = true → S a = true) ∧ (ST ops rs S < ops.size → isActR rs (ST ops rs S) = true ∧ S (ST ops rs S) = false) := by
  obtain ⟨h1, h2, h3, h4⟩ := stI_spec (rs := rs) S ops.size 0
  unfold ST
  exact ⟨by omega, fun a ha hb => h3 a (Nat.zero_le _) ha hb, fun h => h4 (by omega)⟩
theorem Ctx.act_iff (c : Ctx P call ops ap n0 rs fin f0 C0) (hS : SOK ops S) {a : Nat} (ha : isActR rs a = true) : S a = true ↔ a < ST ops rs S := by
  obtain ⟨h1, h2, h3⟩ := ST_spec (ops := ops) (rs := rs) S
  refine ⟨fun h => ?_, fun h => h2 a h ha⟩
  rcases Nat.lt_or_ge a (ST ops rs S) with g | g
  · exact g
  · have hab := hS.bound a h
    obtain ⟨k1, k2⟩ := h3 (by omega)
    have hne : a ≠ ST ops rs S := fun e => by rw [← e, h] at k2; cases k2
    obtain ⟨o, r, f2, C2, ho, hr, hb, _, _, _, hA, _⟩ := c.act ha
    have hbit := (c.bits (i := a) (by omega)).1 (ST ops rs S)
    rw [stAt_get hr] at hbit
    simp only at hbit
    rw [k1] at hbit
    have hlt : ST ops rs S < a := by omega
    simp only [hlt, decide_true, Bool.and_true] at hbit
    rw [← hA, bit_land, Bool.and_eq_true] at hbit
    have := c.maskS hS h hbit.1
    rw [k2] at this; cases this
theorem Ctx.stA (c : Ctx P call ops ap n0 rs fin f0 C0) (hS : SOK ops S) (a : Nat) : Nat.testBit (stAt rs fin (ST ops rs S)).2.2.2 a = (S a && isActR rs a) := by
  rw [(c.bits (ST_spec S).1).1 a]
  cases ha : isActR rs a with
  | false => simp
  | true =>
    have := c.act_iff hS ha
    rw [Bool.and_true, Bool.and_true, Bool.eq_iff_iff]
    simp [this]
theorem Ctx.stM (c : Ctx P call ops ap n0 rs fin f0 C0) (hS : SOK ops S) (j : Nat) : Nat.testBit (stAt rs fin (ST ops rs S)).2.2.1 j = true ↔ ∃ a, isActR rs a = true ∧ S a = true ∧ Nat.testBit ((maskTree ops).get a) j = true := by
  rw [(c.bits (ST_spec S).1).2 j]
  constructor
  · rintro ⟨a, h1, h2, h3⟩; exact ⟨a, h2, (c.act_iff hS h2).2 h1, h3⟩
  · rintro ⟨a, h1, h2, h3⟩; exact ⟨a, (c.act_iff hS h1).1 h2, h1, h3⟩
theorem Ctx.stageMem (_c : Ctx P call ops ap n0 rs fin f0 C0) (S : Nat → Bool) : (⟨(stAt rs fin (ST ops rs S)).2.1, (stAt rs fin (ST ops rs S)).2.2.1, (stAt rs fin (ST ops rs S)).2.2.2⟩ : Stage) ∈ stages rs ++ [⟨fin.2.1, fin.2.2.1, fin.2.2.2⟩] := by
  cases hr : rs[ST ops rs S]? with
  | none =>
    have : stAt rs fin (ST ops rs S) = fin := by unfold stAt; rw [hr]
    rw [this]; simp
  | some r =>
    rw [stAt_get hr]
    refine List.mem_append_left _ (stages_mem hr ?_)
    obtain ⟨h1, h2, h3⟩ := ST_spec (ops := ops) (rs := rs) S
    have hlt : ST ops rs S < ops.size := by rw [← _c.len]; exact (List.getElem?_eq_some_iff.1 hr).1
    have ha := (h3 hlt).1
    unfold isActR at ha
    rw [hr] at ha
    simp only at ha
    split at ha
    · assumption
    · cases ha

theorem Ctx.lid (c : Ctx P call ops ap n0 rs fin f0 C0) : ∀ (j : Nat) (r : Rec) (id : Nat) (k : ABlk), rs[j]? = some r → r.kd = .late id k → id < 65536 := fun j r id k hr hk => by
  have hj : j < ops.size := by rw [← c.len]; exact (List.getElem?_eq_some_iff.1 hr).1
  obtain ⟨f2, _, hc⟩ := c.L.each j _ r (Nat.zero_le _) (Array.getElem?_eq_getElem hj) hr
  rcases hc with ⟨h, _⟩ | ⟨h, _⟩ | ⟨k', n, v, h, _⟩ | ⟨C2, h, _⟩ | ⟨k', old, h, _⟩ | ⟨id', k', h, _, _, h2, _⟩
  all_goals first
    | (rw [hk] at h; cases h; done)
    | (rw [hk] at h; cases h; exact lateA_lt h2)
theorem Ctx.lfact (c : Ctx P call ops ap n0 rs fin f0 C0) {i : Nat} {r : Rec} {id : Nat} {k : ABlk} (hr : rs[i]? = some r) (hk : r.kd = .late id k) {j : Nat} {o' : Oper} {r' : Rec} (ho : ops[j]? = some o') (hr' : rs[j]? = some r') : lateFact ((maskTree ops).get i) id i o' r' j := by
  have := lateAll_spec rs 0 c.late i r id k hr hk
  rw [Nat.zero_add] at this
  have := lateOne_spec _ _ 0 this j o' r' (by simpa using ho) hr'
  rw [Nat.zero_add] at this
  exact this
/-- While something that acts, makes or looks is still to come, no last store was done. -/
theorem Ctx.noLate (c : Ctx P call ops ap n0 rs fin f0 C0) (hS : SOK ops S) {i : Nat} {o : Oper} {r : Rec} (ho : ops[i]? = some o) (hr : rs[i]? = some r) (hi : S i = false) (hk : (∃ id k, r.kd = .mk id k) ∨ r.kd = .act ∨ (r.kd = .flt ∧ hdep o.op = true)) : ∀ j r' id k, rs[j]? = some r' → r'.kd = .late id k → S j = false := fun j r' id k hr' hk' => by
  cases hj : S j with
  | false => rfl
  | true =>
    have h := c.lfact hr' hk' ho hr
    have hb : Nat.testBit ((maskTree ops).get j) i = true := by
      unfold lateFact at h
      rcases hk with ⟨a, b, e⟩ | e | ⟨e, e2⟩ <;> rw [e] at h
      · exact h
      · exact h
      · exact h e2
    have := c.maskS hS hj hb
    rw [hi] at this; cases this

/-- A slot that an operation looks at. -/
theorem Ctx.slot (c : Ctx P call ops ap n0 rs fin f0 C0) (hS : SOK ops S) {i : Nat} {o : Oper} (ho : ops[i]? = some o) (hready : ∀ e, e ∈ o.after → Region.binds .any e = true → S e.on = true) (hi : S i = false) {t : Nat} (ht : t ∈ o.looksAt ops) :
    ∀ n, n ≤ ops.size → valS ops rs f0 S t n = valS ops rs f0 (fun _ => true) t (min n i)
  | 0, _ => by simp [valS]
  | n + 1, hn => by
    have ih := c.slot hS ho hready hi ht n (by omega)
    obtain ⟨_, _, hap⟩ := orderly_spec c.ord
    obtain ⟨on, rn, hon, hrn⟩ := c.pair (i := n) (by omega)
    have hib : i < ops.size := (Array.getElem?_eq_some_iff.1 ho).1
    rw [valS, hon, hrn]
    simp only
    rcases Nat.lt_or_ge n i with hlt | hge
    · rw [show min (n + 1) i = n + 1 by omega, valS, hon, hrn]
      rw [show min n i = n by omega] at ih
      simp only [true_and]
      by_cases hd : on.dst = some t
      · have hSn : S n = true := by
          rcases hap i n o on hlt ho hon with h | h
          · exact c.mask hS ho hready h
          · exact absurd ht ((Oper.apart_spec h).1 t hd)
        rw [if_pos ⟨hSn, hd⟩, if_pos hd]
      · rw [if_neg (fun h => hd h.2), if_neg hd]; exact ih
    · rw [show min (n + 1) i = i by omega]
      rw [show min n i = i by omega] at ih
      rw [if_neg, ih]
      rintro ⟨hSn, hd⟩
      by_cases he : n = i
      · subst he; rw [hi] at hSn; cases hSn
      · rcases hap n i on o (by omega) hon ho with h | h
        · have := c.maskS hS hSn h
          rw [hi] at this; cases this
        · exact (Oper.apart_spec h).2.2 t hd ht
/-- A slot behind an operation more. -/
theorem Ctx.slotPut (c : Ctx P call ops ap n0 rs fin f0 C0) (hS : SOK ops S) {i : Nat} {o : Oper} {r : Rec} (ho : ops[i]? = some o) (hr : rs[i]? = some r) (hi : S i = false) {S' : Nat → Bool} (hS' : ∀ j, S' j = (S j || decide (j = i))) (t : Nat) :
    ∀ n, n ≤ ops.size → valS ops rs f0 S' t n = if i < n ∧ o.dst = some t then r.v else valS ops rs f0 S t n
  | 0, _ => by simp [valS]
  | n + 1, hn => by
    have ih := c.slotPut hS ho hr hi hS' t n (by omega)
    obtain ⟨_, _, hap⟩ := orderly_spec c.ord
    obtain ⟨on, rn, hon, hrn⟩ := c.pair (i := n) (by omega)
    have e1 : valS ops rs f0 S' t (n + 1) = if S' n = true ∧ on.dst = some t then rn.v else valS ops rs f0 S' t n := by simp [valS, hon, hrn]
    have e2 : valS ops rs f0 S t (n + 1) = if S n = true ∧ on.dst = some t then rn.v else valS ops rs f0 S t n := by simp [valS, hon, hrn]
    rw [e1, e2]
    by_cases he : n = i
    · subst he
      rw [ho] at hon; cases hon
      rw [hr] at hrn; cases hrn
      have hSi : S' n = true := by rw [hS' n]; simp
      rw [hSi, hi, ih]
      by_cases hd : o.dst = some t
      · simp [hd]
      · simp [hd]
    · have hSn : S' n = S n := by rw [hS' n]; simp [he]
      rw [hSn, ih]
      by_cases hd : on.dst = some t
      · by_cases hsn : S n = true
        · have hno : ¬ (i < n ∧ o.dst = some t) := by
            rintro ⟨hlt, hdi⟩
            rcases hap n i on o hlt hon ho with h | h
            · have := c.maskS hS hsn h
              rw [hi] at this; cases this
            · exact (Oper.apart_spec h).2.1 t hdi hd
          have hno' : ¬ (i < n + 1 ∧ o.dst = some t) := by
            rintro ⟨hlt, hdi⟩; exact hno ⟨by omega, hdi⟩
          have hA : S n = true ∧ on.dst = some t := ⟨hsn, hd⟩
          rw [if_pos hA, if_neg hno', if_pos hA]
        · have hA : ¬ (S n = true ∧ on.dst = some t) := fun h => hsn h.1
          rw [if_neg hA, if_neg hA]
          by_cases hB : i < n ∧ o.dst = some t
          · rw [if_pos hB, if_pos ⟨by omega, hB.2⟩]
          · rw [if_neg hB, if_neg (fun h => hB ⟨by omega, h.2⟩)]
      · have hA : ¬ (S n = true ∧ on.dst = some t) := fun h => hd h.2
        rw [if_neg hA, if_neg hA]
        by_cases hB : i < n ∧ o.dst = some t
        · rw [if_pos hB, if_pos ⟨by omega, hB.2⟩]
        · rw [if_neg hB, if_neg (fun h => hB ⟨by omega, h.2⟩)]
end
end Ev
end Go.Proofs.YtpppaheennkkpaaGreatDoor
