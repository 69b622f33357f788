/- The memory of such a run, and what it says of a world; one step of it. -/
import Derived.Test.YtikmamcbngbipaaGreatDoorEA
namespace Go.Proofs.YtikmamcbngbipaaGreatDoor
namespace Ev

inductive ABlk where
  | cells (t : T AV) (n : Nat) (ty : TypeId)
  | map (es : List (AV × AV × Nat)) (clock : Nat)

structure Heap where
  t : T (Option ABlk)
  next : Nat

def deep : Nat := 16
noncomputable def Heap.get (H : Heap) (id : Nat) : Option ABlk := H.t.get id
noncomputable def Heap.put (H : Heap) (id : Nat) (k : ABlk) : Heap := ⟨T.set 16 H.t id (some k), H.next⟩
noncomputable def Heap.drop (H : Heap) (id : Nat) : Heap := ⟨T.set 16 H.t id none, H.next⟩
noncomputable def Heap.add (H : Heap) (k : ABlk) : Heap := ⟨T.set 16 H.t H.next (some k), H.next + 1⟩

def Ents (σ : Nat → Value) (ρ : Place) : List (AV × AV × Nat) → List MapEntry → Prop
  | [], [] => True
  | (k, v, b) :: es, m :: ms => conc σ ρ k = some m.key ∧ conc σ ρ v = some m.val ∧ m.born = b ∧ Ents σ ρ es ms
  | _, _ => False

/-- What a block of the run says of an object. -/
def BR (σ : Nat → Value) (ρ : Place) (p : Pl) (x : Option Obj) : ABlk → Prop
  | .cells t n ty => ∃ c fz, x = some (.cells c ty fz) ∧ (fz = (0, 0) ∨ c.size ≤ fz.1) ∧ c.size = p.o + p.n ∧ n ≤ p.n ∧ ∀ i, i < n → ∃ v, c[p.o + i]? = some v ∧ conc σ ρ (t.get i) = some v
  | .map es clock => ∃ l, x = some (.map l.toArray clock) ∧ Ents σ ρ es l

structure HR (σ : Nat → Value) (ρ : Place) (H : Heap) (h : Array Obj) : Prop where
  small : H.next ≤ 65536
  out : ∀ i, H.next ≤ i → i < 65536 → H.get i = none
  fresh : ∀ i, H.next ≤ i → ρ i = none
  bound : ∀ i p, ρ i = some p → p.b < h.size
  live : ∀ i k, i < H.next → H.get i = some k → ∃ p, ρ i = some p ∧ BR σ ρ p h[p.b]? k
  inj : ∀ i j k l p q, i < H.next → j < H.next → H.get i = some k → H.get j = some l → ρ i = some p → ρ j = some q → p.b = q.b → i = j

/-- From one state of the run to a later one: only what it names is turned. -/
structure Step (ρ : Place) (H : Heap) (w : World) (ρ' : Place) (H' : Heap) (w' : World) : Prop where
  ext : ρ.le ρ'
  size : w.heap.size ≤ w'.heap.size
  keep : ∀ c, c < w.heap.size → (∀ i k p, i < H.next → H.get i = some k → ρ i = some p → p.b ≠ c) → w'.heap[c]? = w.heap[c]?
  back : ∀ i k p, i < H'.next → H'.get i = some k → ρ' i = some p → p.b < w.heap.size → ∃ j l q, j < H.next ∧ H.get j = some l ∧ ρ j = some q ∧ q.b = p.b
  rest : w'.os = w.os ∧ w'.output = w.output ∧ w'.tape = w.tape
  more : H.next ≤ H'.next
  same : ∀ i, i < H.next → ρ' i = ρ i
  dead : ∀ i, i < H.next → H.get i = none → H'.get i = none
  cells : ∀ (i : Nat) (k : ABlk) (p : Pl) (c : Array Value) (ty : TypeId) (f : Nat × Nat), i < H.next → H'.get i = some k → ρ i = some p → w.heap[p.b]? = some (.cells c ty f) → ∃ c', w'.heap[p.b]? = some (.cells c' ty f)

theorem Step.refl {ρ : Place} {H : Heap} {w : World} : Step ρ H w ρ H w :=
  ⟨.refl _, Nat.le_refl _, fun _ _ _ => rfl, fun i k p h h' h'' _ => ⟨i, k, p, h, h', h'', rfl⟩, ⟨rfl, rfl, rfl⟩, Nat.le_refl _, fun _ _ => rfl, fun _ _ h => h, fun _ _ _ c _ _ _ _ _ h => ⟨c, h⟩⟩
theorem Step.trans {ρ ρ' ρ'' : Place} {H H' H'' : Heap} {w w' w'' : World} (a : Step ρ H w ρ' H' w') (b : Step ρ' H' w' ρ'' H'' w'') : Step ρ H w ρ'' H'' w'' where
  ext := a.ext.trans b.ext
  size := Nat.le_trans a.size b.size
  keep := fun c hc hn => by
    rw [b.keep c (Nat.lt_of_lt_of_le hc a.size) (fun i k p hi hk hp e => ?_), a.keep c hc hn]
    obtain ⟨j, l, q, h1, h2, h3, h4⟩ := a.back i k p hi hk hp (e ▸ hc)
    exact hn j l q h1 h2 h3 (h4.trans e)
  back := fun i k p hi hk hp hc => by
    obtain ⟨j, l, q, h1, h2, h3, h4⟩ := b.back i k p hi hk hp (Nat.lt_of_lt_of_le hc a.size)
    obtain ⟨j', l', q', h1', h2', h3', h4'⟩ := a.back j l q h1 h2 h3 (h4 ▸ hc)
    exact ⟨j', l', q', h1', h2', h3', h4'.trans h4⟩
  rest := ⟨b.rest.1.trans a.rest.1, b.rest.2.1.trans a.rest.2.1, b.rest.2.2.trans a.rest.2.2⟩
  more := Nat.le_trans a.more b.more
  same := fun i hi => (b.same i (Nat.lt_of_lt_of_le hi a.more)).trans (a.same i hi)
  dead := fun i hi h => b.dead i (Nat.lt_of_lt_of_le hi a.more) (a.dead i hi h)
  cells := fun i k p c ty f hi hk hp h => by
    have hi' := Nat.lt_of_lt_of_le hi a.more
    cases e : H'.get i with
    | none => rw [b.dead i hi' e] at hk; cases hk
    | some k' =>
      obtain ⟨c1, h1⟩ := a.cells i k' p c ty f hi e hp h
      exact b.cells i k p c1 ty f hi' hk ((a.same i hi).trans hp) h1

theorem Ents.mono {σ : Nat → Value} {ρ ρ' : Place} (h : ρ.le ρ') : ∀ (es : List (AV × AV × Nat)) (l : List MapEntry), Ents σ ρ es l → Ents σ ρ' es l
  | [], [], _ => trivial
  | (k, v, b) :: es, m :: ms, ⟨h1, h2, h3, h4⟩ => ⟨conc_mono h _ _ h1, conc_mono h _ _ h2, h3, Ents.mono h es ms h4⟩
  | [], _ :: _, e => e.elim
  | _ :: _, [], e => by cases e
theorem BR.mono {σ : Nat → Value} {ρ ρ' : Place} (h : ρ.le ρ') {p : Pl} {x : Option Obj} : ∀ {k : ABlk}, BR σ ρ p x k → BR σ ρ' p x k
  | .cells _t _n _ty, ⟨c, fz, h1, h2, h3, h4, h5⟩ => ⟨c, fz, h1, h2, h3, h4, fun i hi => let ⟨v, a, b⟩ := h5 i hi; ⟨v, a, conc_mono h _ _ b⟩⟩
  | .map _es _clock, ⟨l, h1, h2⟩ => ⟨l, h1, Ents.mono h _ _ h2⟩

section
variable {σ : Nat → Value} {ρ : Place} {H : Heap} {h : Array Obj}
theorem HR.lt (hr : HR σ ρ H h) {i : Nat} {x : Pl} (e : ρ i = some x) : i < H.next := by
  rcases Nat.lt_or_ge i H.next with a | a
  · exact a
  · rw [hr.fresh i a] at e; cases e
theorem get_put {i j : Nat} {k : ABlk} (hi : i < 65536) (hj : j < 65536) : (H.put i k).get j = if j = i then some k else H.get j :=
  T.get_set_lt (d := 16) hi hj
theorem get_drop {i j : Nat} (hi : i < 65536) (hj : j < 65536) : (H.drop i).get j = if j = i then none else H.get j :=
  T.get_set_lt (d := 16) hi hj
theorem get_add {j : Nat} {k : ABlk} (hi : H.next < 65536) (hj : j < 65536) : (H.add k).get j = if j = H.next then some k else H.get j :=
  T.get_set_lt (d := 16) hi hj

/-- A block is turned. -/
theorem HR.turn (hr : HR σ ρ H h) {i : Nat} {p : Pl} {k0 k : ABlk} {h' : Array Obj} (hp : ρ i = some p) (hl : H.get i = some k0)
    (hs : h'.size = h.size) (ho : ∀ c, c ≠ p.b → h'[c]? = h[c]?) (hb : BR σ ρ p h'[p.b]? k) : HR σ ρ (H.put i k) h' := by
  have hi := hr.lt hp
  have s := hr.small
  refine ⟨hr.small, fun j hj hj2 => ?_, hr.fresh, fun j q e => hs ▸ hr.bound j q e, fun j l hj e => ?_, fun j1 j2 l1 l2 q1 q2 h1 h2 e1 e2 p1 p2 => ?_⟩
  · have hj' : H.next ≤ j := hj
    rw [get_put (by omega) hj2, if_neg (by omega)]; exact hr.out j hj' hj2
  · have hj' : j < H.next := hj
    rw [get_put (by omega) (by omega)] at e
    split at e
    · rename_i hji; subst hji; cases e; exact ⟨p, hp, hb⟩
    · rename_i hji
      obtain ⟨q, a, b⟩ := hr.live j l hj' e
      refine ⟨q, a, ?_⟩
      rw [ho q.b (fun hc => hji (hr.inj j i l k0 q p hj' hi e hl a hp hc))]
      exact b
  · have h1' : j1 < H.next := h1
    have h2' : j2 < H.next := h2
    rw [get_put (by omega) (by omega)] at e1 e2
    have g1 : ∃ l, H.get j1 = some l := by
      split at e1
      · rename_i x; rw [x]; exact ⟨_, hl⟩
      · exact ⟨_, e1⟩
    have g2 : ∃ l, H.get j2 = some l := by
      split at e2
      · rename_i x; rw [x]; exact ⟨_, hl⟩
      · exact ⟨_, e2⟩
    obtain ⟨l1', g1⟩ := g1
    obtain ⟨l2', g2⟩ := g2
    exact hr.inj j1 j2 l1' l2' q1 q2 h1' h2' g1 g2 p1 p2

theorem Step.turn (hr : HR σ ρ H h) {i : Nat} {p : Pl} {k0 k : ABlk} {w w' : World} (hp : ρ i = some p) (hl : H.get i = some k0)
    (hs : w'.heap.size = w.heap.size) (ho : ∀ c, c ≠ p.b → w'.heap[c]? = w.heap[c]?) (rest : w'.os = w.os ∧ w'.output = w.output ∧ w'.tape = w.tape) (hcl : ∀ (c : Array Value) (ty : TypeId) (f : Nat × Nat), w.heap[p.b]? = some (.cells c ty f) → ∃ c', w'.heap[p.b]? = some (.cells c' ty f)) :
    Step ρ H w ρ (H.put i k) w' := by
  have hi := hr.lt hp
  have s := hr.small
  refine ⟨.refl _, by omega, fun c hc hn => ho c (fun e => hn i k0 p hi hl hp e.symm), fun j l q hj e a hc => ?_, rest, Nat.le_refl _, fun _ _ => rfl, fun j hj e => ?_, fun _ _ q c ty f _ _ _ h => if e : q.b = p.b then e ▸ hcl c ty f (e ▸ h) else ⟨c, (ho q.b e).trans h⟩⟩
  case refine_2 =>
    rw [get_put (by omega) (by omega)]
    split
    · rename_i hji; rw [hji, hl] at e; cases e
    · exact e
  have hj' : j < H.next := hj
  rw [get_put (by omega) (by omega)] at e
  split at e
  · rename_i hji; subst hji; exact ⟨j, k0, q, hj', hl, a, rfl⟩
  · exact ⟨j, l, q, hj', e, a, rfl⟩

/-- A block is forgotten. -/
theorem HR.forget (hr : HR σ ρ H h) {i : Nat} (hi : i < H.next) : HR σ ρ (H.drop i) h := by
  have s := hr.small
  refine ⟨hr.small, fun j hj hj2 => ?_, hr.fresh, hr.bound, fun j l hj e => ?_, fun j1 j2 l1 l2 q1 q2 h1 h2 e1 e2 p1 p2 => ?_⟩
  · have hj' : H.next ≤ j := hj
    rw [get_drop (by omega) hj2]
    split
    · rfl
    · exact hr.out j hj' hj2
  · have hj' : j < H.next := hj
    rw [get_drop (by omega) (by omega)] at e
    split at e
    · cases e
    · exact hr.live j l hj' e
  · have h1' : j1 < H.next := h1
    have h2' : j2 < H.next := h2
    rw [get_drop (by omega) (by omega)] at e1 e2
    split at e1
    · cases e1
    · split at e2
      · cases e2
      · exact hr.inj j1 j2 l1 l2 q1 q2 h1' h2' e1 e2 p1 p2
theorem Step.forget (hr : HR σ ρ H h) {i : Nat} {w : World} (hi : i < H.next) : Step ρ H w ρ (H.drop i) w := by
  have s := hr.small
  refine ⟨.refl _, Nat.le_refl _, fun _ _ _ => rfl, fun j l q hj e p hc => ?_, ⟨rfl, rfl, rfl⟩, Nat.le_refl _, fun _ _ => rfl, fun j hj e => ?_, fun _ _ _ c _ _ _ _ _ h => ⟨c, h⟩⟩
  case refine_2 =>
    rw [get_drop (by omega) (by omega)]
    split
    · rfl
    · exact e
  have hj' : j < H.next := hj
  rw [get_drop (by omega) (by omega)] at e
  split at e
  · cases e
  · exact ⟨j, l, q, hj', e, p, rfl⟩

def Place.with (ρ : Place) (i : Nat) (p : Pl) : Place := fun j => if j = i then some p else ρ j
theorem Place.with_le {i : Nat} {p : Pl} (e : ρ i = none) : ρ.le (ρ.with i p) := fun j x hj => by
  unfold Place.with
  rw [if_neg (fun h => by rw [h, e] at hj; cases hj)]
  exact hj
theorem Place.with_self {i : Nat} {p : Pl} : (ρ.with i p) i = some p := if_pos rfl
theorem Place.with_ne {i j : Nat} {p : Pl} (e : j ≠ i) : (ρ.with i p) j = ρ j := if_neg e

/-- A block is made. -/
theorem HR.new (hr : HR σ ρ H h) (hn : H.next < 65536) {p : Pl} {k : ABlk} {x : Obj} (hp : p.b = h.size) (hb : BR σ (ρ.with H.next p) p (some x) k) :
    HR σ (ρ.with H.next p) (H.add k) (h.push x) := by
  have hle : ρ.le (ρ.with H.next p) := Place.with_le (hr.fresh _ (Nat.le_refl _))
  refine ⟨hn, fun j hj hj2 => ?_, fun i hi => ?_, fun i q e => ?_, fun j l hj e => ?_, fun j1 j2 l1 l2 q1 q2 h1 h2 e1 e2 p1 p2 hc => ?_⟩
  · have hj' : H.next + 1 ≤ j := hj
    rw [get_add hn hj2, if_neg (by omega)]; exact hr.out j (by omega) hj2
  · have hi' : H.next + 1 ≤ i := hi
    rw [Place.with_ne (by omega)]; exact hr.fresh i (by omega)
  · rw [Array.size_push]
    by_cases hi : i = H.next
    · subst hi; rw [Place.with_self] at e; cases e; omega
    · rw [Place.with_ne hi] at e; have := hr.bound _ _ e; omega
  · have hj' : j < H.next + 1 := hj
    rw [get_add hn (by omega)] at e
    split at e
    · rename_i hji; subst hji; cases e
      exact ⟨_, Place.with_self, by rw [hp, Array.getElem?_push_size]; exact hb⟩
    · rename_i hji
      obtain ⟨q, a, b⟩ := hr.live j l (by omega) e
      have hc := hr.bound _ _ a
      refine ⟨q, hle _ _ a, ?_⟩
      rw [Array.getElem?_push_lt hc, ← Array.getElem?_eq_getElem hc]
      exact b.mono hle
  · have h1' : j1 < H.next + 1 := h1
    have h2' : j2 < H.next + 1 := h2
    rw [get_add hn (by omega)] at e1 e2
    by_cases a1 : j1 = H.next
    · by_cases a2 : j2 = H.next
      · omega
      · rw [a1, Place.with_self] at p1; cases p1
        rw [Place.with_ne a2] at p2
        have := hr.bound _ _ p2; omega
    · rw [Place.with_ne a1] at p1
      by_cases a2 : j2 = H.next
      · rw [a2, Place.with_self] at p2; cases p2
        have := hr.bound _ _ p1; omega
      · rw [Place.with_ne a2] at p2
        rw [if_neg a1] at e1
        rw [if_neg a2] at e2
        exact hr.inj j1 j2 l1 l2 q1 q2 (by omega) (by omega) e1 e2 p1 p2 hc
theorem Step.new (hr : HR σ ρ H h) (hn : H.next < 65536) {p : Pl} {k : ABlk} {x : Obj} {w w' : World} (hp : p.b = h.size) (hw : w.heap = h) (hw' : w'.heap = h.push x)
    (rest : w'.os = w.os ∧ w'.output = w.output ∧ w'.tape = w.tape) : Step ρ H w (ρ.with H.next p) (H.add k) w' := by
  refine ⟨Place.with_le (hr.fresh _ (Nat.le_refl _)), by rw [hw, hw', Array.size_push]; omega, fun c hc _ => ?_, fun j l q hj e a hc => ?_, rest, Nat.le_succ _, fun j hj => Place.with_ne (by omega), fun j hj e => ?_, fun _ _ _ c _ _ _ _ _ hx => ⟨c, by
    rw [hw] at hx
    have hlt := (Array.getElem?_eq_some_iff.1 hx).1
    rw [hw', Array.getElem?_push_lt hlt, ← Array.getElem?_eq_getElem hlt]; exact hx⟩⟩
  case refine_3 =>
    rw [get_add hn (by omega), if_neg (by omega)]; exact e
  · rw [hw] at hc
    rw [hw, hw', Array.getElem?_push_lt hc, ← Array.getElem?_eq_getElem hc]
  · have hj' : j < H.next + 1 := hj
    rw [hw] at hc
    by_cases b : j = H.next
    · rw [b, Place.with_self] at a; cases a; omega
    · rw [get_add hn (by omega), if_neg b] at e
      rw [Place.with_ne b] at a
      exact ⟨j, l, q, by omega, e, a, rfl⟩

/-- A block goes on under a new number. -/
theorem HR.rename (hr : HR σ ρ H h) (hn : H.next < 65536) {i : Nat} {p q : Pl} {k0 k : ABlk} {h' : Array Obj} (hp : ρ i = some p) (hl : H.get i = some k0) (hq : q.b = p.b)
    (hs : h'.size = h.size) (ho : ∀ c, c ≠ p.b → h'[c]? = h[c]?) (hb : BR σ (ρ.with H.next q) q h'[q.b]? k) :
    HR σ (ρ.with H.next q) ((H.drop i).add k) h' := by
  have hle : ρ.le (ρ.with H.next q) := Place.with_le (hr.fresh _ (Nat.le_refl _))
  have hi := hr.lt hp
  have hnx : (H.drop i).next = H.next := rfl
  have hg : ∀ j, j < 65536 → ((H.drop i).add k).get j = if j = H.next then some k else if j = i then none else H.get j := fun j hj => by
    have := get_add (H := H.drop i) (k := k) (j := j) (by rw [hnx]; exact hn) hj
    rw [this, hnx]
    split
    · rfl
    · exact get_drop (by omega) hj
  refine ⟨hn, fun j hj hj2 => ?_, fun j hj => ?_, fun j r e => ?_, fun j l hj e => ?_, fun j1 j2 l1 l2 r1 r2 h1 h2 e1 e2 p1 p2 hc => ?_⟩
  · have hj' : H.next + 1 ≤ j := hj
    rw [hg j hj2, if_neg (by omega)]
    split
    · rfl
    · exact hr.out j (by omega) hj2
  · have hj' : H.next + 1 ≤ j := hj
    rw [Place.with_ne (by omega)]; exact hr.fresh j (by omega)
  · rw [hs]
    by_cases hj : j = H.next
    · subst hj; rw [Place.with_self] at e; cases e; rw [hq]; exact hr.bound _ _ hp
    · rw [Place.with_ne hj] at e; exact hr.bound _ _ e
  · have hj' : j < H.next + 1 := hj
    rw [hg j (by omega)] at e
    by_cases a : j = H.next
    · subst a; rw [if_pos rfl] at e; cases e
      exact ⟨_, Place.with_self, hb⟩
    · rw [if_neg a] at e
      split at e
      · cases e
      · rename_i hji
        obtain ⟨r, a, b⟩ := hr.live j l (by omega) e
        refine ⟨r, hle _ _ a, ?_⟩
        rw [ho r.b (fun hc => hji (hr.inj j i l k0 r p (by omega) hi e hl a hp hc))]
        exact b.mono hle
  · have h1' : j1 < H.next + 1 := h1
    have h2' : j2 < H.next + 1 := h2
    rw [hg _ (by omega)] at e1 e2
    by_cases a1 : j1 = H.next
    · by_cases a2 : j2 = H.next
      · omega
      · rw [a1, Place.with_self] at p1; cases p1
        rw [Place.with_ne a2] at p2
        rw [if_neg a2] at e2
        split at e2
        · cases e2
        · rename_i x
          exact absurd (hr.inj j2 i l2 k0 r2 p (by omega) hi e2 hl p2 hp (by rw [← hc, hq])) x
    · rw [Place.with_ne a1] at p1
      rw [if_neg a1] at e1
      split at e1
      · cases e1
      · rename_i x1
        by_cases a2 : j2 = H.next
        · rw [a2, Place.with_self] at p2; cases p2
          exact absurd (hr.inj j1 i l1 k0 r1 p (by omega) hi e1 hl p1 hp (by rw [hc, hq])) x1
        · rw [Place.with_ne a2] at p2
          rw [if_neg a2] at e2
          split at e2
          · cases e2
          · exact hr.inj j1 j2 l1 l2 r1 r2 (by omega) (by omega) e1 e2 p1 p2 hc
theorem Step.rename (hr : HR σ ρ H h) (hn : H.next < 65536) {i : Nat} {p q : Pl} {k0 k : ABlk} {w w' : World} (hp : ρ i = some p) (hl : H.get i = some k0) (hq : q.b = p.b)
    (hs : w'.heap.size = w.heap.size) (ho : ∀ c, c ≠ p.b → w'.heap[c]? = w.heap[c]?) (rest : w'.os = w.os ∧ w'.output = w.output ∧ w'.tape = w.tape) :
    Step ρ H w (ρ.with H.next q) ((H.drop i).add k) w' := by
  have hi := hr.lt hp
  have hnx : (H.drop i).next = H.next := rfl
  refine ⟨Place.with_le (hr.fresh _ (Nat.le_refl _)), by omega, fun c hc hne => ho c (fun e => hne i k0 p hi hl hp e.symm), fun j l r hj e a hc => ?_, rest, Nat.le_succ _, fun j hj => Place.with_ne (by omega), fun j hj e => ?_, fun j l q' c ty f hj hl' hq' h => ⟨c, (ho q'.b (fun e => ?_)).trans h⟩⟩
  case refine_2 =>
    have := get_add (H := H.drop i) (k := k) (j := j) (by rw [hnx]; exact hn) (by omega)
    rw [this, hnx, if_neg (by omega), get_drop (by omega) (by omega)]
    split
    · rfl
    · exact e
  case refine_3 =>
    have := get_add (H := H.drop i) (k := k) (j := j) (by rw [hnx]; exact hn) (by omega)
    rw [this, hnx, if_neg (by omega), get_drop (by omega) (by omega)] at hl'
    split at hl'
    · cases hl'
    · rename_i hji
      exact hji (hr.inj j i l k0 q' p hj hi hl' hl hq' hp e)
  have hj' : j < H.next + 1 := hj
  by_cases b : j = H.next
  · rw [b, Place.with_self] at a; cases a
    exact ⟨i, k0, p, hi, hl, hp, hq.symm⟩
  · have := get_add (H := H.drop i) (k := k) (j := j) (by rw [hnx]; exact hn) (by omega)
    rw [this, hnx, if_neg b, get_drop (by omega) (by omega)] at e
    rw [Place.with_ne b] at a
    split at e
    · cases e
    · exact ⟨j, l, r, by omega, e, a, rfl⟩
end
end Ev
end Go.Proofs.YtikmamcbngbipaaGreatDoor
