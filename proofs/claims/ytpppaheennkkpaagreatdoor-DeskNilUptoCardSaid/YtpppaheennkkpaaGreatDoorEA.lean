/- Values and memory for a run that the kernel makes by itself: a tree of cells, values that name blocks by numbers of their own, and what they stand for. -/
import Derived.Calls
import Derived.Orders
namespace Go.Proofs.YtpppaheennkkpaaGreatDoor
namespace Ev

/-- A row of things, numbered from the least bit on; a leaf is one thing everywhere. -/
inductive T (α : Type) where
  | leaf (v : α)
  | node (l r : T α)

namespace T
variable {α : Type}
noncomputable def get (t : T α) : Nat → α := T.rec (motive := fun _ => Nat → α) (fun v _ => v) (fun _ _ L R i => Nat.rec (motive := fun _ => α) (L (Nat.div i 2)) (fun _ _ => R (Nat.div i 2)) (Nat.mod i 2)) t
theorem pick2 {β : Type} (i : Nat) (a b : β) : Nat.rec (motive := fun _ => β) a (fun _ _ => b) (Nat.mod i 2) = if i % 2 = 0 then a else b := by
  have : Nat.mod i 2 = i % 2 := rfl
  rw [this]
  rcases Nat.mod_two_eq_zero_or_one i with h | h <;> rw [h] <;> rfl
theorem get_leaf (v : α) (i : Nat) : get (leaf v) i = v := rfl
theorem get_node (l r : T α) (i : Nat) : get (node l r) i = if i % 2 = 0 then l.get (i / 2) else r.get (i / 2) := pick2 i _ _
noncomputable def set (d : Nat) : T α → Nat → α → T α := Nat.rec (motive := fun _ => T α → Nat → α → T α) (fun _ _ v => leaf v)
  (fun _ S t => T.rec (motive := fun _ => Nat → α → T α) (fun x i v => Nat.rec (motive := fun _ => T α) (node (S (leaf x) (Nat.div i 2) v) (leaf x)) (fun _ _ => node (leaf x) (S (leaf x) (Nat.div i 2) v)) (Nat.mod i 2))
    (fun l r _ _ i v => Nat.rec (motive := fun _ => T α) (node (S l (Nat.div i 2) v) r) (fun _ _ => node l (S r (Nat.div i 2) v)) (Nat.mod i 2)) t) d
theorem set_zero (t : T α) (i : Nat) (v : α) : set 0 t i v = leaf v := rfl
theorem set_leaf (d : Nat) (x : α) (i : Nat) (v : α) : set (d + 1) (leaf x) i v = if i % 2 = 0 then node (set d (leaf x) (i / 2) v) (leaf x) else node (leaf x) (set d (leaf x) (i / 2) v) := pick2 i _ _
theorem set_node (d : Nat) (l r : T α) (i : Nat) (v : α) : set (d + 1) (node l r) i v = if i % 2 = 0 then node (set d l (i / 2) v) r else node l (set d r (i / 2) v) := pick2 i _ _

theorem get_set : ∀ (d : Nat) (t : T α) (i j : Nat) (v : α), (set d t i v).get j = if j % 2 ^ d = i % 2 ^ d then v else t.get j
  | 0, t, i, j, v => by simp [set_zero, get_leaf, Nat.mod_one]
  | d + 1, t, i, j, v => by
    have hp : 2 ^ (d + 1) = 2 * 2 ^ d := by rw [Nat.pow_succ, Nat.mul_comm]
    have key : ∀ x, x % 2 ^ (d + 1) = 2 * (x / 2 % 2 ^ d) + x % 2 := fun x => by
      rw [hp, Nat.mod_mul]; omega
    have h2 : j % 2 ^ (d + 1) = i % 2 ^ (d + 1) ↔ (j / 2 % 2 ^ d = i / 2 % 2 ^ d ∧ j % 2 = i % 2) := by
      rw [key, key]; omega
    rcases Nat.mod_two_eq_zero_or_one i with hi | hi <;> rcases Nat.mod_two_eq_zero_or_one j with hj | hj <;> cases t <;>
      simp [set_leaf, set_node, get_leaf, get_node, hi, hj, h2, get_set d]

theorem get_set_lt {d : Nat} {t : T α} {i j : Nat} {v : α} (hi : i < 2 ^ d) (hj : j < 2 ^ d) :
    (set d t i v).get j = if j = i then v else t.get j := by
  rw [get_set, Nat.mod_eq_of_lt hi, Nat.mod_eq_of_lt hj]

/-- What stands from i on, n of them. -/
noncomputable def list (t : T α) : Nat → Nat → List α
  | _, 0 => []
  | i, n + 1 => t.get i :: t.list (i + 1) n
theorem list_length (t : T α) : ∀ (n i : Nat), (t.list i n).length = n
  | 0, _ => rfl
  | n + 1, i => by simp [list, list_length t n]
theorem list_get (t : T α) : ∀ (n i k : Nat), k < n → (t.list i n)[k]? = some (t.get (i + k))
  | n + 1, i, 0, _ => by simp [list]
  | n + 1, i, k + 1, h => by
    simp only [list, List.getElem?_cons_succ]
    rw [list_get t n (i + 1) k (by omega), show i + 1 + k = i + (k + 1) by omega]
/-- A list laid from i on. -/
noncomputable def lay (d : Nat) : T α → Nat → List α → T α
  | t, _, [] => t
  | t, i, v :: l => lay d (set d t i v) (i + 1) l
theorem get_lay_out {d : Nat} : ∀ (l : List α) (t : T α) (i j : Nat), i + l.length ≤ 2 ^ d → j < 2 ^ d → ¬ (i ≤ j ∧ j < i + l.length) →
    (lay d t i l).get j = t.get j
  | [], t, i, j, _, _, _ => rfl
  | v :: l, t, i, j, hl, hj, h => by
    simp only [List.length_cons] at hl h
    rw [lay, get_lay_out l _ (i + 1) j (by omega) hj (by omega), get_set_lt (by omega) hj, if_neg (by omega)]
theorem get_lay_in {d : Nat} : ∀ (l : List α) (t : T α) (i j : Nat), i + l.length ≤ 2 ^ d → i ≤ j → j < i + l.length →
    l[j - i]? = some ((lay d t i l).get j)
  | [], t, i, j, _, h, h' => by simp at h'; omega
  | v :: l, t, i, j, hl, h, h' => by
    simp only [List.length_cons] at hl h'
    rw [lay]
    by_cases h1 : j = i
    · subst h1
      rw [get_lay_out l _ (j + 1) j (by omega) (by omega) (by omega), get_set_lt (by omega) (by omega), Nat.sub_self]
      simp
    · rw [← get_lay_in l (set d t i v) (i + 1) j (by omega) (by omega) (by omega), show j - i = (j - (i + 1)) + 1 by omega]
      simp
end T

/-- A value of the run: blocks bear the run's own numbers. -/
inductive AV where
  | bool (b : Bool)
  | int (k : IntKind) (n : Int)
  | str (l : List UInt8)
  | ptr (id off : Nat)
  | nilp
  | slice (id off len cap : Nat)
  | osl (id off0 off len k : Nat)
  | nils
  | map (id : Nat)
  | nilm
  | fn (f : Fn) (first captured : List AV)
  | nilf
  | iface (t : TypeId) (v : AV)
  | nili
  | agg (l : List AV)
  | tup (l : List AV)
  | sym (i : Nat)
instance : Inhabited AV := ⟨.tup []⟩

/-- Where a block of the run lies: in which block, from which cell on, how many cells from there. -/
structure Pl where
  b : Nat
  o : Nat
  n : Nat
abbrev Place := Nat → Option Pl

mutual
def conc (σ : Nat → Value) (ρ : Place) : AV → Option Value
  | .bool b => some (.bool b)
  | .int k n => some (.int k n)
  | .str l => some (.string ⟨l.toArray⟩)
  | .ptr id off => match ρ id with
    | some p => some (.pointer (some ⟨p.b, p.o + off, none⟩))
    | none => none
  | .nilp => some (.pointer none)
  | .slice id off len cap => match ρ id with
    | some p => some (.slice (some ⟨p.b, p.o + off, none⟩) len cap)
    | none => none
  | .osl id off0 off len k => match ρ id with
    | some p => if 0 < k ∧ off + len * k ≤ p.n ∧ (p.n - off) % k = 0 then
        some (.slice (some ⟨p.b, p.o + (if off = p.n then off0 else off), none⟩) len ((p.n - off) / k)) else none
    | none => none
  | .nils => some (.slice none 0 0)
  | .map id => match ρ id with
    | some p => some (.map (some p.b))
    | none => none
  | .nilm => some (.map none)
  | .fn f first captured => match concs σ ρ first, concs σ ρ captured with
    | some a, some b => some (.func f a.toArray b.toArray)
    | _, _ => none
  | .nilf => some .nilFunc
  | .iface t v => match conc σ ρ v with
    | some x => some (.iface t x)
    | none => none
  | .nili => some .nilIface
  | .agg l => match concs σ ρ l with
    | some a => some (.agg a.toArray)
    | none => none
  | .tup l => match concs σ ρ l with
    | some a => some (.tuple a.toArray)
    | none => none
  | .sym i => some (σ i)
def concs (σ : Nat → Value) (ρ : Place) : List AV → Option (List Value)
  | [] => some []
  | v :: l => match conc σ ρ v, concs σ ρ l with
    | some a, some b => some (a :: b)
    | _, _ => none
end

/-- One place more. -/
def Place.le (ρ ρ' : Place) : Prop := ∀ i x, ρ i = some x → ρ' i = some x
theorem Place.le.refl (ρ : Place) : ρ.le ρ := fun _ _ h => h
theorem Place.le.trans {a b c : Place} (h : Place.le a b) (k : Place.le b c) : a.le c := fun i x e => k i x (h i x e)

mutual
theorem conc_mono {σ : Nat → Value} {ρ ρ' : Place} (h : ρ.le ρ') : ∀ (a : AV) (v : Value), conc σ ρ a = some v → conc σ ρ' a = some v
  | .bool b, v, e => by simpa [conc] using e
  | .int k n, v, e => by simpa [conc] using e
  | .str l, v, e => by simpa [conc] using e
  | .ptr id off, v, e => by
    unfold conc at e ⊢
    cases hr : ρ id with
    | none => rw [hr] at e; cases e
    | some x => rw [hr] at e; rw [h id x hr]; exact e
  | .nilp, v, e => by simpa [conc] using e
  | .slice id off len cap, v, e => by
    unfold conc at e ⊢
    cases hr : ρ id with
    | none => rw [hr] at e; cases e
    | some x => rw [hr] at e; rw [h id x hr]; exact e
  | .osl id off0 off len k, v, e => by
    unfold conc at e ⊢
    cases hr : ρ id with
    | none => rw [hr] at e; cases e
    | some x => rw [hr] at e; rw [h id x hr]; exact e
  | .nils, v, e => by simpa [conc] using e
  | .map id, v, e => by
    unfold conc at e ⊢
    cases hr : ρ id with
    | none => rw [hr] at e; cases e
    | some x => rw [hr] at e; rw [h id x hr]; exact e
  | .nilm, v, e => by simpa [conc] using e
  | .fn f a b, v, e => by
    unfold conc at e ⊢
    cases ha : concs σ ρ a with
    | none => rw [ha] at e; cases e
    | some x =>
      cases hb : concs σ ρ b with
      | none => rw [ha, hb] at e; cases e
      | some y => rw [ha, hb] at e; rw [concs_mono h a x ha, concs_mono h b y hb]; exact e
  | .nilf, v, e => by simpa [conc] using e
  | .iface t x, v, e => by
    unfold conc at e ⊢
    cases ha : conc σ ρ x with
    | none => rw [ha] at e; cases e
    | some y => rw [ha] at e; rw [conc_mono h x y ha]; exact e
  | .nili, v, e => by simpa [conc] using e
  | .agg l, v, e => by
    unfold conc at e ⊢
    cases ha : concs σ ρ l with
    | none => rw [ha] at e; cases e
    | some x => rw [ha] at e; rw [concs_mono h l x ha]; exact e
  | .tup l, v, e => by
    unfold conc at e ⊢
    cases ha : concs σ ρ l with
    | none => rw [ha] at e; cases e
    | some x => rw [ha] at e; rw [concs_mono h l x ha]; exact e
  | .sym i, v, e => by simpa [conc] using e
theorem concs_mono {σ : Nat → Value} {ρ ρ' : Place} (h : ρ.le ρ') : ∀ (l : List AV) (vs : List Value), concs σ ρ l = some vs → concs σ ρ' l = some vs
  | [], vs, e => by simpa [concs] using e
  | v :: l, vs, e => by
    unfold concs at e ⊢
    cases ha : conc σ ρ v with
    | none => rw [ha] at e; cases e
    | some x =>
      cases hb : concs σ ρ l with
      | none => rw [ha, hb] at e; cases e
      | some y => rw [ha, hb] at e; rw [conc_mono h v x ha, concs_mono h l y hb]; exact e
end
end Ev
end Go.Proofs.YtpppaheennkkpaaGreatDoor

/- The memory of such a run, and what it says of a world; one step of it. -/
namespace Go.Proofs.YtpppaheennkkpaaGreatDoor
namespace Ev

inductive ABlk where
  | cells (t : T AV) (n : Nat) (ty : TypeId)
  | map (es : List (AV × AV × Nat)) (clock : Nat)
  | iter (s : List UInt8) (i : Nat)

structure Heap where
  t : T (Option ABlk)
  next : Nat

def deep : Nat := 16
noncomputable def Heap.get (H : Heap) (id : Nat) : Option ABlk := H.t.get id
noncomputable def Heap.put (H : Heap) (id : Nat) (k : ABlk) : Heap := ⟨T.set 16 H.t id (some k), H.next⟩
noncomputable def Heap.drop (H : Heap) (id : Nat) : Heap := ⟨T.set 16 H.t id none, H.next⟩
noncomputable def Heap.add (H : Heap) (k : ABlk) : Heap := ⟨T.set 16 H.t H.next (some k), H.next + 1⟩

def Ents (σ : Nat → Value) (ρ : Place) : List (AV × AV × Nat) → List MapEntry → Prop
  | [], [] => True
  | (k, v, b) :: es, m :: ms => conc σ ρ k = some m.key ∧ conc σ ρ v = some m.val ∧ m.born = b ∧ Ents σ ρ es ms
  | _, _ => False

/-- What a block of the run says of an object. -/
def BR (σ : Nat → Value) (ρ : Place) (p : Pl) (x : Option Obj) : ABlk → Prop
  | .cells t n ty => ∃ c fz, x = some (.cells c ty fz) ∧ (fz = (0, 0) ∨ c.size ≤ fz.1) ∧ c.size = p.o + p.n ∧ n ≤ p.n ∧ ∀ i, i < n → ∃ v, c[p.o + i]? = some v ∧ conc σ ρ (t.get i) = some v
  | .map es clock => ∃ l, x = some (.map l.toArray clock) ∧ Ents σ ρ es l
  | .iter s i => p.o = 0 ∧ x = some (.stringIter ⟨s.toArray⟩ i)

structure HR (σ : Nat → Value) (ρ : Place) (H : Heap) (h : Array Obj) : Prop where
  small : H.next ≤ 65536
  out : ∀ i, H.next ≤ i → i < 65536 → H.get i = none
  fresh : ∀ i, H.next ≤ i → ρ i = none
  bound : ∀ i p, ρ i = some p → p.b < h.size
  live : ∀ i k, i < H.next → H.get i = some k → ∃ p, ρ i = some p ∧ BR σ ρ p h[p.b]? k
  inj : ∀ i j k l p q, i < H.next → j < H.next → H.get i = some k → H.get j = some l → ρ i = some p → ρ j = some q → p.b = q.b → i = j

/-- From one state of the run to a later one: only what it names is turned. -/
structure Step (ρ : Place) (H : Heap) (w : World) (ρ' : Place) (H' : Heap) (w' : World) : Prop where
  ext : ρ.le ρ'
  size : w.heap.size ≤ w'.heap.size
  keep : ∀ c, c < w.heap.size → (∀ i k p, i < H.next → H.get i = some k → ρ i = some p → p.b ≠ c) → w'.heap[c]? = w.heap[c]?
  back : ∀ i k p, i < H'.next → H'.get i = some k → ρ' i = some p → p.b < w.heap.size → ∃ j l q, j < H.next ∧ H.get j = some l ∧ ρ j = some q ∧ q.b = p.b
  rest : w'.os = w.os ∧ w'.output = w.output ∧ w'.tape = w.tape
  more : H.next ≤ H'.next
  same : ∀ i, i < H.next → ρ' i = ρ i
  dead : ∀ i, i < H.next → H.get i = none → H'.get i = none
  cells : ∀ (i : Nat) (k : ABlk) (p : Pl) (c : Array Value) (ty : TypeId) (f : Nat × Nat), i < H.next → H'.get i = some k → ρ i = some p → w.heap[p.b]? = some (.cells c ty f) → ∃ c', w'.heap[p.b]? = some (.cells c' ty f)

theorem Step.refl {ρ : Place} {H : Heap} {w : World} : Step ρ H w ρ H w :=
  ⟨.refl _, Nat.le_refl _, fun _ _ _ => rfl, fun i k p h h' h'' _ => ⟨i, k, p, h, h', h'', rfl⟩, ⟨rfl, rfl, rfl⟩, Nat.le_refl _, fun _ _ => rfl, fun _ _ h => h, fun _ _ _ c _ _ _ _ _ h => ⟨c, h⟩⟩
theorem Step.trans {ρ ρ' ρ'' : Place} {H H' H'' : Heap} {w w' w'' : World} (a : Step ρ H w ρ' H' w') (b : Step ρ' H' w' ρ'' H'' w'') : Step ρ H w ρ'' H'' w'' where
  ext := a.ext.trans b.ext
  size := Nat.le_trans a.size b.size
  keep := fun c hc hn => by
    rw [b.keep c (Nat.lt_of_lt_of_le hc a.size) (fun i k p hi hk hp e => ?_), a.keep c hc hn]
    obtain ⟨j, l, q, h1, h2, h3, h4⟩ := a.back i k p hi hk hp (e ▸ hc)
    exact hn j l q h1 h2 h3 (h4.trans e)
  back := fun i k p hi hk hp hc => by
    obtain ⟨j, l, q, h1, h2, h3, h4⟩ := b.back i k p hi hk hp (Nat.lt_of_lt_of_le hc a.size)
    obtain ⟨j', l', q', h1', h2', h3', h4'⟩ := a.back j l q h1 h2 h3 (h4 ▸ hc)
    exact ⟨j', l', q', h1', h2', h3', h4'.trans h4⟩
  rest := ⟨b.rest.1.trans a.rest.1, b.rest.2.1.trans a.rest.2.1, b.rest.2.2.trans a.rest.2.2⟩
  more := Nat.le_trans a.more b.more
  same := fun i hi => (b.same i (Nat.lt_of_lt_of_le hi a.more)).trans (a.same i hi)
  dead := fun i hi h => b.dead i (Nat.lt_of_lt_of_le hi a.more) (a.dead i hi h)
  cells := fun i k p c ty f hi hk hp h => by
    have hi' := Nat.lt_of_lt_of_le hi a.more
    cases e : H'.get i with
    | none => rw [b.dead i hi' e] at hk; cases hk
    | some k' =>
      obtain ⟨c1, h1⟩ := a.cells i k' p c ty f hi e hp h
      exact b.cells i k p c1 ty f hi' hk ((a.same i hi).trans hp) h1

theorem Ents.mono {σ : Nat → Value} {ρ ρ' : Place} (h : ρ.le ρ') : ∀ (es : List (AV × AV × Nat)) (l : List MapEntry), Ents σ ρ es l → Ents σ ρ' es l
  | [], [], _ => trivial
  | (k, v, b) :: es, m :: ms, ⟨h1, h2, h3, h4⟩ => ⟨conc_mono h _ _ h1, conc_mono h _ _ h2, h3, Ents.mono h es ms h4⟩
  | [], _ :: _, e => e.elim
  | _ :: _, [], e => by cases e
theorem BR.mono {σ : Nat → Value} {ρ ρ' : Place} (h : ρ.le ρ') {p : Pl} {x : Option Obj} : ∀ {k : ABlk}, BR σ ρ p x k → BR σ ρ' p x k
  | .cells _t _n _ty, ⟨c, fz, h1, h2, h3, h4, h5⟩ => ⟨c, fz, h1, h2, h3, h4, fun i hi => let ⟨v, a, b⟩ := h5 i hi; ⟨v, a, conc_mono h _ _ b⟩⟩
  | .map _es _clock, ⟨l, h1, h2⟩ => ⟨l, h1, Ents.mono h _ _ h2⟩
  | .iter _s _i, h => h

section
variable {σ : Nat → Value} {ρ : Place} {H : Heap} {h : Array Obj}
theorem HR.lt (hr : HR σ ρ H h) {i : Nat} {x : Pl} (e : ρ i = some x) : i < H.next := by
  rcases Nat.lt_or_ge i H.next with a | a
  · exact a
  · rw [hr.fresh i a] at e; cases e
theorem get_put {i j : Nat} {k : ABlk} (hi : i < 65536) (hj : j < 65536) : (H.put i k).get j = if j = i then some k else H.get j :=
  T.get_set_lt (d := 16) hi hj
theorem get_drop {i j : Nat} (hi : i < 65536) (hj : j < 65536) : (H.drop i).get j = if j = i then none else H.get j :=
  T.get_set_lt (d := 16) hi hj
theorem get_add {j : Nat} {k : ABlk} (hi : H.next < 65536) (hj : j < 65536) : (H.add k).get j = if j = H.next then some k else H.get j :=
  T.get_set_lt (d := 16) hi hj

/-- A block is turned. -/
theorem HR.turn (hr : HR σ ρ H h) {i : Nat} {p : Pl} {k0 k : ABlk} {h' : Array Obj} (hp : ρ i = some p) (hl : H.get i = some k0)
    (hs : h'.size = h.size) (ho : ∀ c, c ≠ p.b → h'[c]? = h[c]?) (hb : BR σ ρ p h'[p.b]? k) : HR σ ρ (H.put i k) h' := by
  have hi := hr.lt hp
  have s := hr.small
  refine ⟨hr.small, fun j hj hj2 => ?_, hr.fresh, fun j q e => hs ▸ hr.bound j q e, fun j l hj e => ?_, fun j1 j2 l1 l2 q1 q2 h1 h2 e1 e2 p1 p2 => ?_⟩
  · have hj' : H.next ≤ j := hj
    rw [get_put (by omega) hj2, if_neg (by omega)]; exact hr.out j hj' hj2
  · have hj' : j < H.next := hj
    rw [get_put (by omega) (by omega)] at e
    split at e
    · rename_i hji; subst hji; cases e; exact ⟨p, hp, hb⟩
    · rename_i hji
      obtain ⟨q, a, b⟩ := hr.live j l hj' e
      refine ⟨q, a, ?_⟩
      rw [ho q.b (fun hc => hji (hr.inj j i l k0 q p hj' hi e hl a hp hc))]
      exact b
  · have h1' : j1 < H.next := h1
    have h2' : j2 < H.next := h2
    rw [get_put (by omega) (by omega)] at e1 e2
    have g1 : ∃ l, H.get j1 = some l := by
      split at e1
      · rename_i x; rw [x]; exact ⟨_, hl⟩
      · exact ⟨_, e1⟩
    have g2 : ∃ l, H.get j2 = some l := by
      split at e2
      · rename_i x; rw [x]; exact ⟨_, hl⟩
      · exact ⟨_, e2⟩
    obtain ⟨l1', g1⟩ := g1
    obtain ⟨l2', g2⟩ := g2
    exact hr.inj j1 j2 l1' l2' q1 q2 h1' h2' g1 g2 p1 p2

theorem Step.turn (hr : HR σ ρ H h) {i : Nat} {p : Pl} {k0 k : ABlk} {w w' : World} (hp : ρ i = some p) (hl : H.get i = some k0)
    (hs : w'.heap.size = w.heap.size) (ho : ∀ c, c ≠ p.b → w'.heap[c]? = w.heap[c]?) (rest : w'.os = w.os ∧ w'.output = w.output ∧ w'.tape = w.tape) (hcl : ∀ (c : Array Value) (ty : TypeId) (f : Nat × Nat), w.heap[p.b]? = some (.cells c ty f) → ∃ c', w'.heap[p.b]? = some (.cells c' ty f)) :
    Step ρ H w ρ (H.put i k) w' := by
  have hi := hr.lt hp
  have s := hr.small
  refine ⟨.refl _, by omega, fun c hc hn => ho c (fun e => hn i k0 p hi hl hp e.symm), fun j l q hj e a hc => ?_, rest, Nat.le_refl _, fun _ _ => rfl, fun j hj e => ?_, fun _ _ q c ty f _ _ _ h => if e : q.b = p.b then e ▸ hcl c ty f (e ▸ h) else ⟨c, (ho q.b e).trans h⟩⟩
  case refine_2 =>
    rw [get_put (by omega) (by omega)]
    split
    · rename_i hji; rw [hji, hl] at e; cases e
    · exact e
  have hj' : j < H.next := hj
  rw [get_put (by omega) (by omega)] at e
  split at e
  · rename_i hji; subst hji; exact ⟨j, k0, q, hj', hl, a, rfl⟩
  · exact ⟨j, l, q, hj', e, a, rfl⟩

/-- A block is forgotten. -/
theorem HR.forget (hr : HR σ ρ H h) {i : Nat} (hi : i < H.next) : HR σ ρ (H.drop i) h := by
  have s := hr.small
  refine ⟨hr.small, fun j hj hj2 => ?_, hr.fresh, hr.bound, fun j l hj e => ?_, fun j1 j2 l1 l2 q1 q2 h1 h2 e1 e2 p1 p2 => ?_⟩
  · have hj' : H.next ≤ j := hj
    rw [get_drop (by omega) hj2]
    split
    · rfl
    · exact hr.out j hj' hj2
  · have hj' : j < H.next := hj
    rw [get_drop (by omega) (by omega)] at e
    split at e
    · cases e
    · exact hr.live j l hj' e
  · have h1' : j1 < H.next := h1
    have h2' : j2 < H.next := h2
    rw [get_drop (by omega) (by omega)] at e1 e2
    split at e1
    · cases e1
    · split at e2
      · cases e2
      · exact hr.inj j1 j2 l1 l2 q1 q2 h1' h2' e1 e2 p1 p2
theorem Step.forget (hr : HR σ ρ H h) {i : Nat} {w : World} (hi : i < H.next) : Step ρ H w ρ (H.drop i) w := by
  have s := hr.small
  refine ⟨.refl _, Nat.le_refl _, fun _ _ _ => rfl, fun j l q hj e p hc => ?_, ⟨rfl, rfl, rfl⟩, Nat.le_refl _, fun _ _ => rfl, fun j hj e => ?_, fun _ _ _ c _ _ _ _ _ h => ⟨c, h⟩⟩
  case refine_2 =>
    rw [get_drop (by omega) (by omega)]
    split
    · rfl
    · exact e
  have hj' : j < H.next := hj
  rw [get_drop (by omega) (by omega)] at e
  split at e
  · cases e
  · exact ⟨j, l, q, hj', e, p, rfl⟩

def Place.with (ρ : Place) (i : Nat) (p : Pl) : Place := fun j => if j = i then some p else ρ j
theorem Place.with_le {i : Nat} {p : Pl} (e : ρ i = none) : ρ.le (ρ.with i p) := fun j x hj => by
  unfold Place.with
  rw [if_neg (fun h => by rw [h, e] at hj; cases hj)]
  exact hj
theorem Place.with_self {i : Nat} {p : Pl} : (ρ.with i p) i = some p := if_pos rfl
theorem Place.with_ne {i j : Nat} {p : Pl} (e : j ≠ i) : (ρ.with i p) j = ρ j := if_neg e

/-- A block is made. -/
theorem HR.new (hr : HR σ ρ H h) (hn : H.next < 65536) {p : Pl} {k : ABlk} {x : Obj} (hp : p.b = h.size) (hb : BR σ (ρ.with H.next p) p (some x) k) :
    HR σ (ρ.with H.next p) (H.add k) (h.push x) := by
  have hle : ρ.le (ρ.with H.next p) := Place.with_le (hr.fresh _ (Nat.le_refl _))
  refine ⟨hn, fun j hj hj2 => ?_, fun i hi => ?_, fun i q e => ?_, fun j l hj e => ?_, fun j1 j2 l1 l2 q1 q2 h1 h2 e1 e2 p1 p2 hc => ?_⟩
  · have hj' : H.next + 1 ≤ j := hj
    rw [get_add hn hj2, if_neg (by omega)]; exact hr.out j (by omega) hj2
  · have hi' : H.next + 1 ≤ i := hi
    rw [Place.with_ne (by omega)]; exact hr.fresh i (by omega)
  · rw [Array.size_push]
    by_cases hi : i = H.next
    · subst hi; rw [Place.with_self] at e; cases e; omega
    · rw [Place.with_ne hi] at e; have := hr.bound _ _ e; omega
  · have hj' : j < H.next + 1 := hj
    rw [get_add hn (by omega)] at e
    split at e
    · rename_i hji; subst hji; cases e
      exact ⟨_, Place.with_self, by rw [hp, Array.getElem?_push_size]; exact hb⟩
    · rename_i hji
      obtain ⟨q, a, b⟩ := hr.live j l (by omega) e
      have hc := hr.bound _ _ a
      refine ⟨q, hle _ _ a, ?_⟩
      rw [Array.getElem?_push_lt hc, ← Array.getElem?_eq_getElem hc]
      exact b.mono hle
  · have h1' : j1 < H.next + 1 := h1
    have h2' : j2 < H.next + 1 := h2
    rw [get_add hn (by omega)] at e1 e2
    by_cases a1 : j1 = H.next
    · by_cases a2 : j2 = H.next
      · omega
      · rw [a1, Place.with_self] at p1; cases p1
        rw [Place.with_ne a2] at p2
        have := hr.bound _ _ p2; omega
    · rw [Place.with_ne a1] at p1
      by_cases a2 : j2 = H.next
      · rw [a2, Place.with_self] at p2; cases p2
        have := hr.bound _ _ p1; omega
      · rw [Place.with_ne a2] at p2
        rw [if_neg a1] at e1
        rw [if_neg a2] at e2
        exact hr.inj j1 j2 l1 l2 q1 q2 (by omega) (by omega) e1 e2 p1 p2 hc
theorem Step.new (hr : HR σ ρ H h) (hn : H.next < 65536) {p : Pl} {k : ABlk} {x : Obj} {w w' : World} (hp : p.b = h.size) (hw : w.heap = h) (hw' : w'.heap = h.push x)
    (rest : w'.os = w.os ∧ w'.output = w.output ∧ w'.tape = w.tape) : Step ρ H w (ρ.with H.next p) (H.add k) w' := by
  refine ⟨Place.with_le (hr.fresh _ (Nat.le_refl _)), by rw [hw, hw', Array.size_push]; omega, fun c hc _ => ?_, fun j l q hj e a hc => ?_, rest, Nat.le_succ _, fun j hj => Place.with_ne (by omega), fun j hj e => ?_, fun _ _ _ c _ _ _ _ _ hx => ⟨c, by
    rw [hw] at hx
    have hlt := (Array.getElem?_eq_some_iff.1 hx).1
    rw [hw', Array.getElem?_push_lt hlt, ← Array.getElem?_eq_getElem hlt]; exact hx⟩⟩
  case refine_3 =>
    rw [get_add hn (by omega), if_neg (by omega)]; exact e
  · rw [hw] at hc
    rw [hw, hw', Array.getElem?_push_lt hc, ← Array.getElem?_eq_getElem hc]
  · have hj' : j < H.next + 1 := hj
    rw [hw] at hc
    by_cases b : j = H.next
    · rw [b, Place.with_self] at a; cases a; omega
    · rw [get_add hn (by omega), if_neg b] at e
      rw [Place.with_ne b] at a
      exact ⟨j, l, q, by omega, e, a, rfl⟩

/-- A block goes on under a new number. -/
theorem HR.rename (hr : HR σ ρ H h) (hn : H.next < 65536) {i : Nat} {p q : Pl} {k0 k : ABlk} {h' : Array Obj} (hp : ρ i = some p) (hl : H.get i = some k0) (hq : q.b = p.b)
    (hs : h'.size = h.size) (ho : ∀ c, c ≠ p.b → h'[c]? = h[c]?) (hb : BR σ (ρ.with H.next q) q h'[q.b]? k) :
    HR σ (ρ.with H.next q) ((H.drop i).add k) h' := by
  have hle : ρ.le (ρ.with H.next q) := Place.with_le (hr.fresh _ (Nat.le_refl _))
  have hi := hr.lt hp
  have hnx : (H.drop i).next = H.next := rfl
  have hg : ∀ j, j < 65536 → ((H.drop i).add k).get j = if j = H.next then some k else if j = i then none else H.get j := fun j hj => by
    have := get_add (H := H.drop i) (k := k) (j := j) (by rw [hnx]; exact hn) hj
    rw [this, hnx]
    split
    · rfl
    · exact get_drop (by omega) hj
  refine ⟨hn, fun j hj hj2 => ?_, fun j hj => ?_, fun j r e => ?_, fun j l hj e => ?_, fun j1 j2 l1 l2 r1 r2 h1 h2 e1 e2 p1 p2 hc => ?_⟩
  · have hj' : H.next + 1 ≤ j := hj
    rw [hg j hj2, if_neg (by omega)]
    split
    · rfl
    · exact hr.out j (by omega) hj2
  · have hj' : H.next + 1 ≤ j := hj
    rw [Place.with_ne (by omega)]; exact hr.fresh j (by omega)
  · rw [hs]
    by_cases hj : j = H.next
    · subst hj; rw [Place.with_self] at e; cases e; rw [hq]; exact hr.bound _ _ hp
    · rw [Place.with_ne hj] at e; exact hr.bound _ _ e
  · have hj' : j < H.next + 1 := hj
    rw [hg j (by omega)] at e
    by_cases a : j = H.next
    · subst a; rw [if_pos rfl] at e; cases e
      exact ⟨_, Place.with_self, hb⟩
    · rw [if_neg a] at e
      split at e
      · cases e
      · rename_i hji
        obtain ⟨r, a, b⟩ := hr.live j l (by omega) e
        refine ⟨r, hle _ _ a, ?_⟩
        rw [ho r.b (fun hc => hji (hr.inj j i l k0 r p (by omega) hi e hl a hp hc))]
        exact b.mono hle
  · have h1' : j1 < H.next + 1 := h1
    have h2' : j2 < H.next + 1 := h2
    rw [hg _ (by omega)] at e1 e2
    by_cases a1 : j1 = H.next
    · by_cases a2 : j2 = H.next
      · omega
      · rw [a1, Place.with_self] at p1; cases p1
        rw [Place.with_ne a2] at p2
        rw [if_neg a2] at e2
        split at e2
        · cases e2
        · rename_i x
          exact absurd (hr.inj j2 i l2 k0 r2 p (by omega) hi e2 hl p2 hp (by rw [← hc, hq])) x
    · rw [Place.with_ne a1] at p1
      rw [if_neg a1] at e1
      split at e1
      · cases e1
      · rename_i x1
        by_cases a2 : j2 = H.next
        · rw [a2, Place.with_self] at p2; cases p2
          exact absurd (hr.inj j1 i l1 k0 r1 p (by omega) hi e1 hl p1 hp (by rw [hc, hq])) x1
        · rw [Place.with_ne a2] at p2
          rw [if_neg a2] at e2
          split at e2
          · cases e2
          · exact hr.inj j1 j2 l1 l2 r1 r2 (by omega) (by omega) e1 e2 p1 p2 hc
theorem Step.rename (hr : HR σ ρ H h) (hn : H.next < 65536) {i : Nat} {p q : Pl} {k0 k : ABlk} {w w' : World} (hp : ρ i = some p) (hl : H.get i = some k0) (hq : q.b = p.b)
    (hs : w'.heap.size = w.heap.size) (ho : ∀ c, c ≠ p.b → w'.heap[c]? = w.heap[c]?) (rest : w'.os = w.os ∧ w'.output = w.output ∧ w'.tape = w.tape) :
    Step ρ H w (ρ.with H.next q) ((H.drop i).add k) w' := by
  have hi := hr.lt hp
  have hnx : (H.drop i).next = H.next := rfl
  refine ⟨Place.with_le (hr.fresh _ (Nat.le_refl _)), by omega, fun c hc hne => ho c (fun e => hne i k0 p hi hl hp e.symm), fun j l r hj e a hc => ?_, rest, Nat.le_succ _, fun j hj => Place.with_ne (by omega), fun j hj e => ?_, fun j l q' c ty f hj hl' hq' h => ⟨c, (ho q'.b (fun e => ?_)).trans h⟩⟩
  case refine_2 =>
    have := get_add (H := H.drop i) (k := k) (j := j) (by rw [hnx]; exact hn) (by omega)
    rw [this, hnx, if_neg (by omega), get_drop (by omega) (by omega)]
    split
    · rfl
    · exact e
  case refine_3 =>
    have := get_add (H := H.drop i) (k := k) (j := j) (by rw [hnx]; exact hn) (by omega)
    rw [this, hnx, if_neg (by omega), get_drop (by omega) (by omega)] at hl'
    split at hl'
    · cases hl'
    · rename_i hji
      exact hji (hr.inj j i l k0 q' p hj hi hl' hl hq' hp e)
  have hj' : j < H.next + 1 := hj
  by_cases b : j = H.next
  · rw [b, Place.with_self] at a; cases a
    exact ⟨i, k0, p, hi, hl, hp, hq.symm⟩
  · have := get_add (H := H.drop i) (k := k) (j := j) (by rw [hnx]; exact hn) (by omega)
    rw [this, hnx, if_neg b, get_drop (by omega) (by omega)] at e
    rw [Place.with_ne b] at a
    split at e
    · cases e
    · exact ⟨j, l, r, by omega, e, a, rfl⟩
end
end Ev
end Go.Proofs.YtpppaheennkkpaaGreatDoor

/- The run itself: what each operation comes to. -/
namespace Go.Proofs.YtpppaheennkkpaaGreatDoor
namespace Ev
noncomputable section

def ofS : Value → Option AV
  | .bool b => some (.bool b)
  | .int k n => some (.int k n)
  | .string s => some (.str s.data.toList)
  | .pointer none => some .nilp
  | .slice none 0 0 => some .nils
  | .map none => some .nilm
  | .nilFunc => some .nilf
  | .nilIface => some .nili
  | _ => none
def ofSs : List Value → Option (List AV)
  | [] => some []
  | v :: l => match ofS v, ofSs l with
    | some a, some b => some (a :: b)
    | _, _ => none
def ofA : Value → Option AV
  | .agg cs => match ofSs cs.toList with
    | some l => some (.agg l)
    | none => none
  | v => ofS v
def ofAs : List Value → Option (List AV)
  | [] => some []
  | v :: l => match ofA v, ofAs l with
    | some a, some b => some (a :: b)
    | _, _ => none
def ofV : Value → Option AV
  | .tuple vs => match ofAs vs.toList with
    | some l => some (.tup l)
    | none => none
  | v => ofA v

/-- A frame's slots. -/
structure Fr where
  t : T AV
  sz : Nat
  g : Nat → Option Nat
def Fr.get (f : Fr) (i : Nat) : Option AV := match Nat.blt i f.sz with
  | true => some (f.t.get i)
  | false => none
def Fr.put (f : Fr) (dst : Option Nat) (v : AV) : Option Fr := match dst with
  | none => some f
  | some d => match Nat.blt d f.sz with
    | true => some ⟨T.set 9 f.t d v, f.sz, f.g⟩
    | false => none
def ev (f : Fr) : Operand → Option AV
  | .tmp t => f.get t
  | .const v => ofV v
  | .global g => match f.g g with
    | some id => some (.ptr id 0)
    | none => none
  | .func g => some (.fn (.func g) [] [])
def evs (f : Fr) : List Operand → Option (List AV)
  | [] => some []
  | x :: l => match ev f x, evs f l with
    | some a, some b => some (a :: b)
    | _, _ => none

/-- A natural number brought to its figures. -/
def forceNat {α : Type} (m : Nat) (K : Nat → α) : α := match m with
  | 0 => K 0
  | p + 1 => K (p + 1)
theorem forceNat_eq {α : Type} (m : Nat) (K : Nat → α) : forceNat m K = K m := by cases m <;> rfl
def force {α : Type} (v : AV) (K : AV → α) : α := match v with
  | .int k (.ofNat m) => forceNat m fun m' => K (.int k (.ofNat m'))
  | .ptr id off => forceNat off fun off' => K (.ptr id off')
  | v => K v
theorem force_eq {α : Type} (v : AV) (K : AV → α) : force v K = K v := by
  unfold force; split <;> simp [forceNat_eq]

def dep (n : Nat) : Nat := n.log2 + 1
theorem lt_dep (n : Nat) : n < 2 ^ dep n := Nat.lt_log2_self

def cellsOf : AV → List AV
  | .agg l => l
  | v => [v]
def AV.plain : AV → Bool
  | .agg _ | .tup _ => false
  | _ => true

def Heap.load (H : Heap) (id off : Nat) : Option AV := match H.get id with
  | some (.cells t n _) => match Nat.blt off n with
    | true => some (t.get off)
    | false => none
  | _ => none
def Heap.loads (H : Heap) (id off n : Nat) : Option (List AV) := match H.get id with
  | some (.cells t m _) => match Nat.ble (off + n) m with
    | true => some (t.list off n)
    | false => none
  | _ => none
def Heap.stores (H : Heap) (id off : Nat) (l : List AV) : Option Heap := match H.get id with
  | some (.cells t m ty) => match Nat.ble (off + l.length) m, l.all AV.plain with
    | true, true => some (H.put id (.cells (T.lay (dep m) t off l) m ty))
    | _, _ => none
  | _ => none

/-- What an operation that turns nothing comes to: a value, or a new block, named by its number. -/
inductive Out where
  | val (v : AV)
  | new (k : ABlk) (n : Nat) (v : Nat → AV)

def fwrap (k : IntKind) (n : Int) : Int := match n with
  | .ofNat m => match k with
    | .i64 => match Nat.ble m 9223372036854775807 with
      | true => .ofNat m
      | false => k.wrap (.ofNat m)
    | .u64 => .ofNat (m % 18446744073709551616)
    | .u32 => .ofNat (m % 4294967296)
    | .u8 => .ofNat (m % 256)
    | k => k.wrap (.ofNat m)
  | n => k.wrap n

def bitsOf (k : IntKind) (f : Nat → Nat → Nat) (x y : Int) : Option AV := match x, y with
  | .ofNat a, .ofNat b => match Nat.blt a (2 ^ k.bits), Nat.blt b (2 ^ k.bits) with
    | true, true => some (.int k (fwrap k (.ofNat (f a b))))
    | _, _ => none
  | _, _ => none

def ilt : Int → Int → Bool
  | .ofNat a, .ofNat b => Nat.blt a b
  | .negSucc _, .ofNat _ => true
  | .ofNat _, .negSucc _ => false
  | .negSucc a, .negSucc b => Nat.blt b a
def ieq : Int → Int → Bool
  | .ofNat a, .ofNat b => Nat.beq a b
  | .negSucc a, .negSucc b => Nat.beq a b
  | _, _ => false

def abInt (op : BinOp) (k : IntKind) (x y : Int) : Option AV := match op with
  | .add => some (.int k (fwrap k (x + y)))
  | .sub => some (.int k (fwrap k (x - y)))
  | .mul => some (.int k (fwrap k (x * y)))
  | .quo => match ieq y 0 with
    | true => none
    | false => some (.int k (k.wrap (x.tdiv y)))
  | .rem => match ieq y 0 with
    | true => none
    | false => some (.int k (x.tmod y))
  | .and => bitsOf k Nat.land x y
  | .or => bitsOf k Nat.lor x y
  | .xor => bitsOf k Nat.xor x y
  | .andNot => bitsOf k (fun a b => Nat.xor a (Nat.land a b)) x y
  | .eql => some (.bool (ieq x y))
  | .neq => some (.bool (!ieq x y))
  | .lss => some (.bool (ilt x y))
  | .leq => some (.bool (!ilt y x))
  | .gtr => some (.bool (ilt y x))
  | .geq => some (.bool (!ilt x y))
  | .shl => match ilt y 0 with
    | true => none
    | false => some (.int k (fwrap k (x * 2 ^ (min y.toNat k.bits))))
  | .shr => match ilt y 0 with
    | true => none
    | false => match x with
      | .ofNat a => some (.int k (.ofNat (a / 2 ^ (min y.toNat k.bits))))
      | _ => none

def beqs : List UInt8 → List UInt8 → Bool
  | [], [] => true
  | a :: x, b :: y => match Nat.beq a.toNat b.toNat with
    | true => beqs x y
    | false => false
  | _, _ => false

def abStr (op : BinOp) (x y : List UInt8) : Option AV := match op with
  | .add => match Nat.ble (x.length + y.length) 1000000 with
    | true => some (.str (x ++ y))
    | false => none
  | .eql => some (.bool (beqs x y))
  | .neq => some (.bool (!beqs x y))
  | _ => none

/-- Equal, where the kernel can tell: one thing of the two is nil, or both are plain. -/
def aeq (P : Program) (t : TypeId) : AV → AV → Option Bool
  | .bool a, .bool b => match P.underlying t with
    | some .bool => some (a == b)
    | _ => none
  | .nilp, .nilp => match P.underlying t with
    | some (.pointer _) => some true
    | _ => none
  | .nilp, .ptr _ _ | .ptr _ _, .nilp => match P.underlying t with
    | some (.pointer _) => some false
    | _ => none
  | .nils, .nils => match P.underlying t with
    | some (.slice _) => some true
    | _ => none
  | .nils, .slice _ _ _ _ | .nils, .osl _ _ _ _ _ | .slice _ _ _ _, .nils | .osl _ _ _ _ _, .nils => match P.underlying t with
    | some (.slice _) => some false
    | _ => none
  | .nilm, .nilm => match P.underlying t with
    | some (.map _ _) => some true
    | _ => none
  | .nilm, .map _ | .map _, .nilm => match P.underlying t with
    | some (.map _ _) => some false
    | _ => none
  | .nilf, .nilf => match P.underlying t with
    | some (.func _ _ _) => some true
    | _ => none
  | .nilf, .fn _ _ _ | .fn _ _ _, .nilf => match P.underlying t with
    | some (.func _ _ _) => some false
    | _ => none
  | .nili, .iface _ _ | .iface _ _, .nili => match P.underlying t with
    | some (.interface _) => some false
    | _ => none
  | _, _ => none

def abin (P : Program) (op : BinOp) (t : TypeId) (lit : Bool) (x y : AV) : Option AV := match x, y with
  | .int k a, .int k' b => match k == k' || op == .shl || op == .shr with
    | true => abInt op k a b
    | false => none
  | .str a, .str b => abStr op a b
  | .nili, .nili => match lit, P.underlying t with
    | true, some (.interface _) => match op with
      | .eql => some (.bool true)
      | .neq => some (.bool false)
      | _ => none
    | _, _ => none
  | x, y => match op with
    | .eql => match aeq P t x y with
      | some b => some (.bool b)
      | none => none
    | .neq => match aeq P t x y with
      | some b => some (.bool (!b))
      | none => none
    | _ => none

def isLit : Operand → Bool
  | .const _ => true
  | _ => false

def aun (op : UnOp) (x : AV) : Option AV := match op, x with
  | .not, .bool b => some (.bool !b)
  | .neg, .int k n => some (.int k (fwrap k (0 - n)))
  | .xor, .int k (.ofNat n) => match k.signed, Nat.blt n (2 ^ k.bits) with
    | false, true => some (.int k (.ofNat (2 ^ k.bits - 1 - n)))
    | _, _ => none
  | _, _ => none

def aggOf (P : Program) (t : TypeId) : Option Bool := match P.underlying t with
  | some (.struct _) | some (.array _ _) => some true
  | some _ => some false
  | none => none
def sizeA (P : Program) (t : TypeId) : Option Nat := match P.info? t with
  | some i => some i.size
  | none => none
def bytesA (P : Program) (t : TypeId) : Option Nat := match P.info? t with
  | some i => some i.bytes
  | none => none
def zeroA (P : Program) (t : TypeId) : Option AV := match P.info? t with
  | some i => match i.zero with
    | some z => ofA z
    | none => none
  | none => none

def partA (P : Program) (t : TypeId) (l : List AV) (off : Nat) : Option AV := match aggOf P t, sizeA P t with
  | some true, some s => some (.agg ((l.drop off).take s))
  | some false, _ => l[off]?
  | _, _ => none

def loadA (P : Program) (t : TypeId) (H : Heap) (id off : Nat) : Option AV := match aggOf P t, sizeA P t with
  | some true, some s => match H.loads id off s with
    | some l => some (.agg l)
    | none => none
  | some false, _ => H.load id off
  | _, _ => none

/-- Cells turned from a place on. -/
def setAt (l : List AV) (off : Nat) (vs : List AV) : List AV := l.take off ++ vs ++ l.drop (off + vs.length)
def fillA (place : Nat → Option (Nat × Nat)) (cells : List AV) : List (Nat × AV) → Option (List AV)
  | [] => some cells
  | (i, v) :: rest => match place i with
    | none => none
    | some (off, size) => match Nat.beq (cellsOf v).length size, Nat.ble (off + (cellsOf v).length) cells.length with
      | true, true => fillA place (setAt cells off (cellsOf v)) rest
      | _, _ => none
def evParts (f : Fr) : List (Nat × Operand) → Option (List (Nat × AV))
  | [] => some []
  | (i, x) :: l => match ev f x, evParts f l with
    | some a, some b => some ((i, a) :: b)
    | _, _ => none
def placeOf (P : Program) (fields : Array Field) (i : Nat) : Option (Nat × Nat) := match fields[i]? with
  | some f => match sizeA P f.type with
    | some s => some (f.offset, s)
    | none => none
  | none => none
def sized (P : Program) (fields : List Field) : Bool := fields.all fun f => (sizeA P f.type).isSome

def reps (z : List AV) : Nat → List AV
  | 0 => []
  | n + 1 => z ++ reps z n
def treeOf (z : List AV) (n : Nat) : T AV := match z with
  | [v] => .leaf v
  | z => T.lay (dep (n * z.length)) (.leaf default) 0 (reps z n)

/-- Base, length of a slice. -/
def sliceOf : AV → Option (Option (Nat × Nat) × Nat)
  | .nils => some (none, 0)
  | .slice id off len _ => some (some (id, off), len)
  | .osl id _ off len _ => some (some (id, off), len)
  | _ => none

def boundA (x : Option AV) (d : Nat) : Option Nat := match x with
  | none => some d
  | some (.int _ (.ofNat n)) => some n
  | _ => none
def evO (f : Fr) : Option Operand → Option (Option AV)
  | none => some none
  | some x => match ev f x with
    | some v => some (some v)
    | none => none

def mxOk : Option AV → Option AV → Bool
  | some _, none => false
  | _, _ => true
/-- The bounds of a cut: l, h, m. -/
def boundsA (mx hi lo : Option AV) (len cap : Nat) : Option (Nat × Nat × Nat) := match boundA mx cap, boundA hi len, boundA lo 0 with
  | some m, some h, some l => match Nat.ble l h && Nat.ble h m && Nat.ble m cap && mxOk mx hi with
    | true => some (l, h, m)
    | false => none
  | _, _, _ => none
def cutA (id off size l h m : Nat) : AV := match Nat.beq m l with
  | true => .slice id off (h - l) (m - l)
  | false => .slice id (off + l * size) (h - l) (m - l)
/-- A row that goes on bears at least so many. -/
def capOf (H : Heap) (id off len k : Nat) : Nat := match H.get id with
  | some (.cells _ m _) => match Nat.ble len ((m - off) / k) with
    | true => (m - off) / k
    | false => len
  | _ => len
def sliceA (P : Program) (t : TypeId) (x : AV) (lo hi mx : Option AV) (H : Heap) : Option AV := match P.underlying t, x with
  | some .string, .str s => match mx, boundsA none hi lo s.length s.length with
    | none, some (l, h, _) => some (.str ((s.drop l).take (h - l)))
    | _, _ => none
  | some (.slice e), .nils => match boundsA mx hi lo 0 0, sizeA P e with
    | some _, some _ => some .nils
    | _, _ => none
  | some (.slice e), .slice id off len cap => match boundsA mx hi lo len cap, sizeA P e with
    | some (l, h, m), some size => some (cutA id off size l h m)
    | _, _ => none
  | some (.slice e), .osl id off0 off len k => match boundsA mx hi lo len (capOf H id off len k), sizeA P e with
    | some (l, h, m), some size => match Nat.beq size k, mx with
      | true, none => match l with
        | 0 => some (.osl id off0 off h k)
        | l + 1 => some (.osl id off (off + (l + 1) * k) (h - (l + 1)) k)
      | true, some _ => match Nat.blt 0 len with
        | true => some (cutA id off size l h m)
        | false => none
      | false, _ => none
    | _, _ => none
  | some (.array n e), .ptr id off => match boundsA mx hi lo n n, sizeA P e with
    | some (l, h, m), some size => some (cutA id off size l h m)
    | _, _ => none
  | _, _ => none

def strOf : List AV → Option (List UInt8)
  | [] => some []
  | .int .u8 n :: l => match strOf l with
    | some s => some (UInt8.ofNat n.toNat :: s)
    | none => none
  | _ => none
def bytesOf (l : List UInt8) : List AV := l.map fun b => .int .u8 (.ofNat b.toNat)

def convA (P : Program) (src dst : TypeId) (x : AV) (H : Heap) : Option Out := match P.underlying src, P.underlying dst, x with
  | some (.int _), some (.int k), .int _ n => some (.val (.int k (fwrap k n)))
  | some .string, some .string, .str s => some (.val (.str s))
  | some (.slice e), some .string, x => match P.underlying e, sliceOf x with
    | some (.int .u8), some (none, _) => some (.val (.str []))
    | some (.int .u8), some (some (id, off), len) => match len with
      | 0 => some (.val (.str []))
      | len => match H.loads id off len with
        | some l => match strOf l with
          | some s => some (.val (.str s))
          | none => none
        | none => none
    | _, _ => none
  | some .string, some (.slice e), .str s => match P.underlying e with
    | some (.int .u8) => some (.new (.cells (T.lay (dep s.length) (.leaf (.int .u8 0)) 0 (bytesOf s)) s.length e) s.length fun id => .osl id 0 0 s.length 1)
    | _ => none
  | _, _, _ => none

def beqI (a b : AV) : Option Bool := match a, b with
  | .int k x, .int k' y => match k == k' with
    | true => some (ieq x y)
    | false => none
  | _, _ => none
/-- Two keys: numbers, texts, or structs of numbers. -/
def beqIs : List AV → List AV → Option Bool
  | [], [] => some true
  | a :: x, b :: y => match beqI a b with
    | some true => beqIs x y
    | some false => some false
    | none => none
  | _, _ => none
def intKey (P : Program) (t : TypeId) : Bool := match P.underlying t with
  | some (.int _) => true
  | _ => false
def intFields (P : Program) : Nat → List Field → Bool
  | _, [] => true
  | i, f :: l => match intKey P f.type && f.name != "_" && Nat.beq f.offset i with
    | true => intFields P (i + 1) l
    | false => false
def keyEq (P : Program) (t : TypeId) (a b : AV) : Option Bool := match a, b with
  | .int k x, .int k' y => match intKey P t, k == k' with
    | true, true => some (ieq x y)
    | _, _ => none
  | .str x, .str y => match P.underlying t with
    | some .string => some (beqs x y)
    | _ => none
  | .agg x, .agg y => match P.underlying t with
    | some (.struct fs) => match intFields P 0 fs.toList && Nat.beq x.length fs.size && Nat.beq y.length fs.size && !P.stoodInHeld t with
      | true => beqIs x y
      | false => none
    | _ => none
  | _, _ => none
def idxA (P : Program) (t : TypeId) (k : AV) : List (AV × AV × Nat) → Nat → Option (Option Nat)
  | [], _ => some none
  | e :: l, i => match keyEq P t k e.1 with
    | some true => some (some i)
    | some false => idxA P t k l (i + 1)
    | none => none
/-- A key whose kind is known to serve. -/
def keyOk (P : Program) (t : TypeId) (k : AV) : Bool := match k with
  | .int _ _ => intKey P t
  | .str _ => match P.underlying t with
    | some .string => true
    | _ => false
  | .agg x => match P.underlying t with
    | some (.struct fs) => intFields P 0 fs.toList && Nat.beq x.length fs.size
    | _ => false
  | _ => false
def lookA (P : Program) (t : TypeId) (m k : AV) (ok : Bool) (H : Heap) : Option AV := match P.underlying t with
  | some (.map kt et) => match keyOk P kt k, zeroA P et with
    | true, some z =>
      let es := match m with
        | .nilm => some []
        | .map id => match H.get id with
          | some (.map es _) => some es
          | _ => none
        | _ => none
      match es with
      | some es => match idxA P kt k es 0 with
        | some (some i) => match es[i]? with
          | some e => some (if ok then .tup [e.2.1, .bool true] else e.2.1)
          | none => none
        | some none => some (if ok then .tup [z, .bool false] else z)
        | none => none
      | none => none
    | _, _ => none
  | _ => none

def assertA (P : Program) (x : AV) (asserted : TypeId) (ok : Bool) : Option AV := match P.underlying asserted with
  | some (.interface want) => match x with
    | .nili => match ok, zeroA P asserted with
      | true, some z => some (.tup [z, .bool false])
      | _, _ => none
    | .iface t v => match P.info? t with
      | some i => match Instr.missingMethod want i.methods with
        | none => some (if ok then .tup [.iface t v, .bool true] else .iface t v)
        | some _ => match ok, zeroA P asserted with
          | true, some z => some (.tup [z, .bool false])
          | _, _ => none
      | none => none
    | _ => none
  | some _ => match x with
    | .nili => match ok, zeroA P asserted with
      | true, some z => some (.tup [z, .bool false])
      | _, _ => none
    | .iface t v => match Nat.beq t asserted with
      | true => some (if ok then .tup [v, .bool true] else v)
      | false => match ok, zeroA P asserted with
        | true, some z => some (.tup [z, .bool false])
        | _, _ => none
    | _ => none
  | none => none

def lenA (P : Program) (t : TypeId) (x : AV) (H : Heap) : Option AV := match P.underlying t, x with
  | some .string, .str s => some (.int .i64 (.ofNat s.length))
  | some (.array n _), _ => some (.int .i64 (.ofNat n))
  | some (.slice _), .nils => some (.int .i64 0)
  | some (.slice _), .slice _ _ n _ => some (.int .i64 (.ofNat n))
  | some (.slice _), .osl _ _ _ n _ => some (.int .i64 (.ofNat n))
  | some (.map _ _), .nilm => some (.int .i64 0)
  | some (.map _ _), .map id => match H.get id with
    | some (.map es _) => some (.int .i64 (.ofNat es.length))
    | _ => none
  | _, _ => none

def minA (mx : Bool) : AV → List AV → Option AV
  | v, [] => some v
  | .int k x, .int _ y :: l => minA mx (.int k (if (if mx then ilt x y else ilt y x) then y else x)) l
  | _, _ => none

/-- An operation that turns nothing. -/
def fop (P : Program) (f : Fr) (o : Oper) (H : Heap) : Option Out := match o.op with
  | .move x => match ev f x with
    | some v => some (.val v)
    | none => none
  | .assign x => match ev f x with
    | some v => some (.val v)
    | none => none
  | .pick c a b => match ev f c with
    | some (.bool true) => match ev f a with
      | some v => some (.val v)
      | none => none
    | some (.bool false) => match ev f b with
      | some v => some (.val v)
      | none => none
    | _ => none
  | .alloc t => match zeroA P t, sizeA P t with
    | some z, some s => match Nat.beq (cellsOf z).length s with
      | true => some (.new (.cells (T.lay (dep s) (.leaf default) 0 (cellsOf z)) s t) s fun id => .ptr id 0)
      | false => none
    | _, _ => none
  | .box t x => match ev f x with
    | some v => some (.new (.cells (T.lay (dep (cellsOf v).length) (.leaf default) 0 (cellsOf v)) (cellsOf v).length t) (cellsOf v).length fun id => .ptr id 0)
    | none => none
  | .build t parts => match P.underlying t, zeroA P t, evParts f parts.toList with
    | some (.struct fields), some z, some ps => match sized P fields.toList with
      | true => match fillA (placeOf P fields) (cellsOf z) ps with
        | some l => some (.val (.agg l))
        | none => none
      | false => none
    | some (.array _ e), some z, some ps => match sizeA P e with
      | some s => match fillA (fun i => some (i * s, s)) (cellsOf z) ps with
        | some l => some (.val (.agg l))
        | none => none
      | none => none
    | _, _, _ => none
  | .buildSlice t len parts => match P.underlying t, evParts f parts.toList with
    | some (.slice e), some ps => match sizeA P e, zeroA P e with
      | some s, some z => match Nat.blt 0 s && Nat.beq (cellsOf z).length s && Nat.ble (len * s) 16777216 with
        | true => match fillA (fun i => some (i * s, s)) (reps (cellsOf z) len) ps with
          | some l => some (.new (.cells (T.lay (dep l.length) (.leaf default) 0 l) l.length e) l.length fun id => .slice id 0 len len)
          | none => none
        | false => none
      | _, _ => none
    | _, _ => none
  | .load t a => match ev f a with
    | some (.ptr id off) => match loadA P t H id off with
      | some v => some (.val v)
      | none => none
    | _ => none
  | .nilCheck x => match ev f x with
    | some (.ptr id off) => some (.val (.ptr id off))
    | some (.iface t v) => some (.val (.iface t v))
    | some (.fn (.func g) a b) => some (.val (.fn (.func g) a b))
    | _ => none
  | .binOp op t x y _ => match ev f x, ev f y with
    | some a, some b => match abin P op t (isLit x || isLit y) a b with
      | some v => some (.val v)
      | none => none
    | _, _ => none
  | .unOp op _ x => match ev f x with
    | some a => match aun op a with
      | some v => some (.val v)
      | none => none
    | none => none
  | .convert src dst x => match ev f x with
    | some v => convA P src dst v H
    | none => none
  | .makeInterface t x => match P.underlying t, ev f x with
    | some (.interface _), _ => none
    | some _, some v => some (.val (.iface t v))
    | _, _ => none
  | .makeFunc fn first captured => match evs f first.toList, evs f captured.toList with
    | some a, some b => some (.val (.fn fn a b))
    | _, _ => none
  | .makeMap _t none => some (.new (.map [] 0) 0 fun id => .map id)
  | .makeMap t (some r) => match P.underlying t, ev f r with
    | some (.map _ _), some (.int _ _) => some (.new (.map [] 0) 0 fun id => .map id)
    | _, _ => none
  | .makeSlice t l c => match P.underlying t, ev f l, ev f c with
    | some (.slice e), some (.int _ (.ofNat n)), some (.int _ (.ofNat m)) => match sizeA P e, zeroA P e, bytesA P e with
      | some s, some z, some by_ => match Nat.ble n m && Nat.ble m 1000000 && Nat.ble (by_ * m) 1000000000 && Nat.blt 0 s && Nat.beq (cellsOf z).length s with
        | true => some (.new (.cells (treeOf (cellsOf z) m) (m * s) e) (m * s) fun id => .slice id 0 n m)
        | false => none
      | _, _, _ => none
    | _, _, _ => none
  | .slice t x lo hi mx => match ev f x, evO f lo, evO f hi with
    | some v, some l, some h => match evO f mx with
      | some m => match sliceA P t v l h m H with
        | some r => some (.val r)
        | none => none
      | none => none
    | _, _, _ => none
  | .fieldAddr t x i => match P.underlying t, ev f x with
    | some (.struct fields), some (.ptr id off) => match fields[i]? with
      | some g => match sizeA P g.type with
        | some (_ + 1) => some (.val (.ptr id (off + g.offset)))
        | _ => none
      | none => none
    | _, _ => none
  | .field t x i => match P.underlying t, ev f x with
    | some (.struct fields), some (.agg l) => match fields[i]? with
      | some g => match partA P g.type l g.offset with
        | some v => some (.val v)
        | none => none
      | none => none
    | _, _ => none
  | .indexAddr t x ix => match P.underlying t, ev f x, ev f ix with
    | some (.array n e), some (.ptr id off), some (.int _ (.ofNat i)) => match sizeA P e, Nat.blt i n with
      | some s, true => some (.val (.ptr id (off + i * s)))
      | _, _ => none
    | some (.slice e), some v, some (.int _ (.ofNat i)) => match sizeA P e, sliceOf v with
      | some s, some (some (id, off), n) => match Nat.blt i n with
        | true => some (.val (.ptr id (off + i * s)))
        | false => none
      | _, _ => none
    | _, _, _ => none
  | .index t x ix => match P.underlying t, ev f x, ev f ix with
    | some (.array n e), some (.agg l), some (.int _ (.ofNat i)) => match sizeA P e, Nat.blt i n with
      | some s, true => match partA P e l (i * s) with
        | some v => some (.val v)
        | none => none
      | _, _ => none
    | some .string, some (.str s), some (.int _ (.ofNat i)) => match s[i]? with
      | some b => some (.val (.int .u8 (.ofNat b.toNat)))
      | none => none
    | _, _, _ => none
  | .lookup t x ix ok => match ev f x, ev f ix with
    | some m, some k => match lookA P t m k ok H with
      | some v => some (.val v)
      | none => none
    | _, _ => none
  | .range t x => match P.underlying t, ev f x with
    | some .string, some (.str s) => some (.new (.iter s 0) 1 fun id => .ptr id 0)
    | _, _ => none
  | .typeAssert x _ asserted ok => match ev f x with
    | some v => match assertA P v asserted ok with
      | some r => some (.val r)
      | none => none
    | none => none
  | .extract x i => match ev f x with
    | some (.tup l) => match l[i]? with
      | some v => some (.val v)
      | none => none
    | _ => none
  | .call { callee := .builtin .len, args, argTypes } => match args.toList, argTypes.toList with
    | [x], t :: _ => match ev f x with
      | some v => match lenA P t v H with
        | some r => some (.val r)
        | none => none
      | none => none
    | _, _ => none
  | .call { callee := .builtin .min, args, argTypes := _ } => match evs f args.toList with
    | some (v :: l) => match minA false v l with
      | some r => some (.val r)
      | none => none
    | _ => none
  | .call { callee := .builtin .max, args, argTypes := _ } => match evs f args.toList with
    | some (v :: l) => match minA true v l with
      | some r => some (.val r)
      | none => none
    | _ => none
  | _ => none

/-- Does what it comes to hang on the memory? -/
def hdep : Op → Bool
  | .load _ _ | .lookup _ _ _ _ | .convert _ _ _ | .slice _ _ _ _ _ | .call _ => true
  | _ => false

/-- The cells of what is appended or copied: n elements of a size. -/
def srcA (H : Heap) (size : Nat) : AV → Option (List AV × Nat)
  | .str s => some (bytesOf s, s.length)
  | v => match sliceOf v with
    | some (none, n) => some ([], n)
    | some (some _, 0) => some ([], 0)
    | some (some (id, off), n) => match H.loads id off (n * size) with
      | some l => some (l, n)
      | none => none
    | none => none

def newCells (H : Heap) (l : List AV) (e : TypeId) : Option Heap := match Nat.blt H.next 65536 with
  | true => some (H.add (.cells (T.lay (dep l.length) (.leaf default) 0 l) l.length e))
  | false => none

/-- The cells of a slice that goes on. -/
def growT (off m old all : Nat) (t : T AV) (xs : List AV) : T AV := match off with
  | 0 => T.lay (dep (m + xs.length)) t m xs
  | off + 1 => T.lay (dep all) (.leaf default) 0 (t.list (off + 1) old ++ xs)
def appendA (P : Program) (t u : TypeId) (s x : AV) (H : Heap) : Option (AV × Heap) := match P.underlying t with
  | some (.slice e) => match sizeA P e, bytesA P e, zeroA P e with
    | some (k + 1), some by_, some z =>
      let size := k + 1
      let numbers := match P.underlying u with
        | some (.slice _) => false
        | some .string => false
        | _ => true
      match srcA H size x, numbers || !Nat.beq (cellsOf z).length size with
      | some (xs, n), false => match s with
        | .nils => match n with
          | 0 => some (.nils, H)
          | n => match Nat.ble (n * by_) 1000000000 && Nat.ble n 1000000 && Nat.beq xs.length (n * size), newCells H xs e with
            | true, some H' => some (.osl H.next 0 0 n size, H')
            | _, _ => none
        | .slice id off len cap => match n with
          | 0 => match Nat.ble len cap with
            | true => some (.slice id off len cap, H)
            | false => none
          | n => match Nat.ble (len + n) cap with
            | true => match H.stores id (off + len * size) xs with
              | some H' => some (.slice id off (len + n) cap, H')
              | none => none
            | false => match (match len with | 0 => some [] | len => H.loads id off (len * size)) with
              | some old => match Nat.ble ((len + n) * by_) 1000000000 && Nat.ble (len + n) 1000000 && Nat.beq (old ++ xs).length ((len + n) * size), newCells H (old ++ xs) e with
                | true, some H' => some (.osl H.next 0 0 (len + n) size, H')
                | _, _ => none
              | none => none
        | .osl id off0 off len k' => match n with
          | 0 => some (.osl id off0 off len k', H)
          | n => match H.get id, Nat.beq k' size with
            | some (.cells t m ty), true => match Nat.ble (off + (len + n) * size) m with
              | true => match H.stores id (off + len * size) xs with
                | some H' => some (.osl id off0 off (len + n) size, H')
                | none => none
              | false => match Nat.beq (off + len * size) m && Nat.ble ((len + n) * by_) 1000000000 && Nat.ble (len + n) 1000000 && Nat.beq xs.length (n * size) && xs.all AV.plain && Nat.blt H.next 65536 && Nat.beq ty e with
                | true => some (.osl H.next 0 0 (len + n) size, (H.drop id).add (.cells (growT off m (len * size) ((len + n) * size) t xs) ((len + n) * size) e))
                | false => none
            | _, _ => none
        | _ => none
      | _, _ => none
    | _, _, _ => none
  | _ => none

def copyA (P : Program) (t : TypeId) (d x : AV) (H : Heap) : Option (AV × Heap) := match P.underlying t with
  | some (.slice e) => match sizeA P e, sliceOf d with
    | some size, some (base, dlen) =>
      let slen := match x with
        | .str s => some s.length
        | x => match sliceOf x with
          | some (_, n) => some n
          | none => none
      match slen with
      | some sl =>
        let n := min sl dlen
        match n with
        | 0 => some (.int .i64 0, H)
        | n =>
          let cells := match x with
            | .str s => match Nat.beq size 1 with
              | true => some (bytesOf (s.take n))
              | false => none
            | x => match sliceOf x with
              | some (some (id, off), _) => H.loads id off (n * size)
              | _ => none
          match base, cells with
          | some (id, off), some l => match H.stores id off l with
            | some H' => some (.int .i64 (.ofNat n), H')
            | none => none
          | _, _ => none
      | none => none
    | _, _ => none
  | _ => none

/-- The cells of a row, some of them noughts. -/
def clearT (z : List AV) (off m n size : Nat) (t : T AV) : T AV := match z, off, Nat.beq (n * size) m with
  | [v], 0, true => .leaf v
  | z, off, _ => T.lay (dep m) t off (reps z n)
def clearA (P : Program) (t : TypeId) (x : AV) (H : Heap) : Option Heap := match P.underlying t, x with
  | some (.slice e), x => match sliceOf x with
    | some (none, _) => some H
    | some (some _, 0) => some H
    | some (some (id, off), n) => match zeroA P e, sizeA P e, H.get id with
      | some z, some size, some (.cells t m ty) => match Nat.beq (cellsOf z).length size && (cellsOf z).all AV.plain && Nat.ble (off + n * size) m && Nat.blt 0 size with
        | true => some (H.put id (.cells (clearT (cellsOf z) off m n size t) m ty))
        | false => none
      | _, _, _ => none
    | none => none
  | some (.map _ _), .nilm => some H
  | some (.map _ _), .map id => match H.get id with
    | some (.map _ clock) => some (H.put id (.map [] clock))
    | _ => none
  | _, _ => none

def mapSet (P : Program) (t : TypeId) (m k v : AV) (H : Heap) : Option Heap := match P.underlying t, m with
  | some (.map kt _), .map id => match H.get id, keyOk P kt k with
    | some (.map es clock), true => match idxA P kt k es 0 with
      | some (some i) => match es[i]? with
        | some e => some (H.put id (.map (es.set i (k, v, e.2.2)) clock))
        | none => none
      | some none => some (H.put id (.map (es ++ [(k, v, clock)]) (clock + 1)))
      | none => none
    | _, _ => none
  | _, _ => none
def mapDel (P : Program) (t : TypeId) (m k : AV) (H : Heap) : Option Heap := match P.underlying t, m with
  | some (.map kt _), .nilm => match keyOk P kt k with
    | true => some H
    | false => none
  | some (.map kt _), .map id => match H.get id, keyOk P kt k with
    | some (.map es clock), true => match idxA P kt k es 0 with
      | some (some i) => some (H.put id (.map (es.eraseIdx i) clock))
      | some none => some (H.put id (.map es clock))
      | none => none
    | _, _ => none
  | _, _ => none

/-- The method behind an interface value: a function, the receiver. -/
def methodA (P : Program) (t : TypeId) (v : AV) (name : String) : Option (FuncId × AV) := match P.info? t with
  | some i => match i.methods.find? (·.name == name) with
    | some m => match m.path.toList, m.func, P.underlying t with
      | [], some (g, true), some (.pointer _) => some (g, v)
      | [], some (_, false), some (.pointer _) => none
      | [], some (g, false), some _ => some (g, v)
      | _, _, _ => none
    | none => none
  | none => none

def undefA : AV := .tup []

/-- A row of bytes that is marked as a text's goes on under a new number. -/
def markA (P : Program) (src dst : TypeId) (x : AV) (H : Heap) : Option (AV × Heap) := match P.underlying src, P.underlying dst with
  | some (.slice _), some (.slice e) => match P.underlying e, Nat.beq src dst && Nat.blt H.next 65536 with
    | some (.int .u8), true => match x with
      | .slice id off len cap => match H.get id with
        | some (.cells t m ty) => some (.slice H.next off len cap, (H.drop id).add (.cells t m ty))
        | _ => none
      | .osl id off0 off len k => match H.get id with
        | some (.cells t m ty) => some (.osl H.next off0 off len k, (H.drop id).add (.cells t m ty))
        | _ => none
      | _ => none
    | _, _ => none
  | _, _ => none

/-- The next byte of a text that is gone through. -/
def nextA (id : Nat) (H : Heap) : Option (AV × Heap) := match H.get id with
  | some (.iter s i) => match s[i]? with
    | some b => match Nat.blt b.toNat 128 with
      | true => some (.tup [.bool true, .int .i64 (.ofNat i), .int .i32 (.ofNat b.toNat)], H.put id (.iter s (i + 1)))
      | false => none
    | none => some (.tup [.bool false], H)
  | _ => none
/-- An operation that may turn memory. -/
def aop (P : Program) (call : FuncId → List AV → Heap → Option (AV × Heap)) (f : Fr) (o : Oper) (H : Heap) : Option (AV × Heap) := match o.op with
  | .store t a x => match ev f a, ev f x with
    | some (.ptr id off), some v => match sizeA P t with
      | some s => match Nat.beq (cellsOf v).length s, H.stores id off (cellsOf v) with
        | true, some H' => some (undefA, H')
        | _, _ => none
      | none => none
    | _, _ => none
  | .mapUpdate t m k x => match ev f m, ev f k, ev f x with
    | some m, some k, some v => match mapSet P t m k v H with
      | some H' => some (undefA, H')
      | none => none
    | _, _, _ => none
  | .call { callee := .builtin .append, args, argTypes } => match args.toList, argTypes.toList with
    | [s, x], [t, u] => match ev f s, ev f x with
      | some s, some x => appendA P t u s x H
      | _, _ => none
    | _, _ => none
  | .call { callee := .builtin .copy, args, argTypes } => match args.toList, argTypes.toList with
    | [d, x], t :: _ => match ev f d, ev f x with
      | some d, some x => copyA P t d x H
      | _, _ => none
    | _, _ => none
  | .call { callee := .builtin .clear, args, argTypes } => match args.toList, argTypes.toList with
    | [x], t :: _ => match ev f x with
      | some x => match clearA P t x H with
        | some H' => some (undefA, H')
        | none => none
      | _ => none
    | _, _ => none
  | .call { callee := .builtin .delete, args, argTypes } => match args.toList, argTypes.toList with
    | [m, k], t :: _ => match ev f m, ev f k with
      | some m, some k => match mapDel P t m k H with
        | some H' => some (undefA, H')
        | none => none
      | _, _ => none
    | _, _ => none
  | .call { callee := .value x, args, argTypes := _ } => match ev f x, evs f args.toList with
    | some (.fn (.func g) first captured), some l => call g (first ++ (l ++ captured)) H
    | _, _ => none
  | .call { callee := .invoke r name, args, argTypes := _ } => match ev f r, evs f args.toList with
    | some (.iface t v), some l => match methodA P t v name with
      | some (g, recv) => call g (recv :: l) H
      | none => none
    | _, _ => none
  | .convert src dst x => match ev f x with
    | some v => markA P src dst v H
    | none => none
  | .next x isString => match ev f x, isString with
    | some (.ptr id 0), true => nextA id H
    | _, _ => none
  | _ => none

/-- Is it one that may turn memory? -/
def isAct : Op → Bool
  | .convert src dst _ => Nat.beq src dst
  | .next _ _ => true
  | .store _ _ _ | .mapUpdate _ _ _ _ => true
  | .call { callee := .builtin .len, .. } | .call { callee := .builtin .min, .. } | .call { callee := .builtin .max, .. } => false
  | .call _ => true
  | _ => false

def wantA (f : Fr) (ops : Array Oper) (o : Oper) : Option Bool := match o.guard with
  | none => some true
  | some (j, want) => match ops[j]? with
    | some g => match g.dst with
      | some d => match f.get d with
        | some (.bool b) => some (b == want)
        | some (.tup _) => some false
        | _ => none
      | none => none
    | none => none

/-- Operations one behind the other. -/
def seqA (P : Program) (call : FuncId → List AV → Heap → Option (AV × Heap)) (ops : Array Oper) : List Oper → Fr → Heap → Option (Fr × Heap)
  | [], f, H => some (f, H)
  | o :: l, f, H => match wantA f ops o with
    | some true => match isAct o.op with
      | false => match fop P f o H with
        | some (.val v) => force v fun v => match f.put o.dst v with
          | some f' => seqA P call ops l f' H
          | none => none
        | some (.new k _ v) => match Nat.blt H.next 65536, f.put o.dst (v H.next) with
          | true, some f' => seqA P call ops l f' (H.add k)
          | _, _ => none
        | none => none
      | true => match aop P call f o H with
        | some (v, H') => force v fun v => match f.put o.dst v with
          | some f' => seqA P call ops l f' H'
          | none => none
        | none => none
    | some false => match f.put o.dst undefA with
      | some f' => seqA P call ops l f' H
      | none => none
    | none => none
end
end Ev
end Go.Proofs.YtpppaheennkkpaaGreatDoor

/- The run goes on: a statement whose order Go leaves open, bodies, loops, calls. -/
namespace Go.Proofs.YtpppaheennkkpaaGreatDoor
namespace Ev
noncomputable section

mutual
def abeq : AV → AV → Bool
  | .bool a, .bool b => a == b
  | .int k a, .int l b => k == l && ieq a b
  | .str a, .str b => beqs a b
  | .ptr i o, .ptr j p => Nat.beq i j && Nat.beq o p
  | .nilp, .nilp => true
  | .slice a b c d, .slice a' b' c' d' => Nat.beq a a' && Nat.beq b b' && Nat.beq c c' && Nat.beq d d'
  | .osl a b c d e, .osl a' b' c' d' e' => Nat.beq a a' && Nat.beq b b' && Nat.beq c c' && Nat.beq d d' && Nat.beq e e'
  | .nils, .nils => true
  | .map a, .map b => Nat.beq a b
  | .nilm, .nilm => true
  | .fn (.func f) a b, .fn (.func g) c d => Nat.beq f g && abeqs a c && abeqs b d
  | .nilf, .nilf => true
  | .iface t v, .iface u w => Nat.beq t u && abeq v w
  | .nili, .nili => true
  | .agg a, .agg b => abeqs a b
  | .tup a, .tup b => abeqs a b
  | .sym i, .sym j => Nat.beq i j
  | _, _ => false
def abeqs : List AV → List AV → Bool
  | [], [] => true
  | a :: l, b :: m => abeq a b && abeqs l m
  | _, _ => false
end

/-- What must stand ahead of an operation, as bits. -/
def maskOf (bm : T Nat) (o : Oper) : Nat := o.after.toList.foldl (fun s e => match Region.binds .any e with
  | true => Nat.lor (Nat.lor s (2 ^ e.on)) (bm.get e.on)
  | false => s) 0
def masks : List Oper → Nat → T Nat → T Nat
  | [], _, bm => bm
  | o :: l, i, bm => masks l (i + 1) (T.set 9 bm i (maskOf bm o))
def maskTree (ops : Array Oper) : T Nat := masks ops.toList 0 (.leaf 0)

/-- Of two operations one stands ahead of the other, or neither names what the other makes. -/
def orderlyAt (ops : Array Oper) (mask : Nat) (o : Oper) : List Oper → Nat → Bool
  | [], _ => true
  | x :: l, j => (Nat.testBit mask j || x.apart ops o) && orderlyAt ops mask o l (j + 1)
def orderlyFrom (ops : Array Oper) (bm : T Nat) : List Oper → Nat → List Oper → Bool
  | [], _, _ => true
  | o :: l, i, seen => Nat.blt (bm.get i) (2 ^ i) && orderlyAt ops (bm.get i) o seen 0 && orderlyFrom ops bm l (i + 1) (seen ++ [o])
def orderly (ops : Array Oper) : Bool := orderlyFrom ops (maskTree ops) ops.toList 0 [] && Nat.ble ops.size 256

inductive Kd where
  | skip
  | flt
  | mk (id : Nat) (k : ABlk)
  | act
  | late (id : Nat) (k : ABlk)
/-- What became of an operation: its value, its kind, the frame and the memory ahead of it, what the acts so far had ahead of them, which acts there were. -/
structure Rec where
  v : AV
  kd : Kd
  f : Fr
  C : Heap
  M : Nat
  A : Nat

/-- The blocks that were made and are ahead of an operation, but of no act so far. -/
def view (mask M : Nat) (C : Heap) : List Rec → Nat → Heap
  | [], _ => C
  | r :: l, i => match r.kd with
    | .mk id k => match Nat.testBit mask i && !Nat.testBit M i with
      | true => view mask M (C.put id k) l (i + 1)
      | false => view mask M C l (i + 1)
    | _ => view mask M C l (i + 1)

/-- An append that stands in no order to an act: it is taken as a thing that makes a block, its old row being out of sight from the statement's beginning. And the stores behind which nothing stands, in no order to one another, as bits. -/
structure AP where
  app : Option (Nat × Option (Nat × ABlk))
  lt : Nat
def apAt : Option (Nat × Option (Nat × ABlk)) → Nat → Option (Option (Nat × ABlk))
  | none, _ => none
  | some (ia, old), i => match Nat.beq ia i with
    | true => some old
    | false => none
def apHere (ap : AP) (i : Nat) : Option (Option (Nat × ABlk)) := apAt ap.app i
def ltHere (ap : AP) (i : Nat) : Bool := Nat.testBit ap.lt i
/-- A store that comes last: the block that it turns, and how it then is. -/
def lateA (P : Program) (f : Fr) (o : Oper) (V : Heap) : Option (Nat × ABlk × AV) := match o.op with
  | .store _ a _ => match ev f a with
    | some (.ptr id _) => match V.get id, Nat.blt id V.next && Nat.blt id 65536 with
      | some k0, true => match aop P (fun _ _ _ => none) f o ((⟨.leaf none, V.next⟩ : Heap).put id k0) with
        | some (v, C) => match C.get id, Nat.beq C.next V.next with
          | some k, true => some (id, k, v)
          | _, _ => none
        | none => none
      | _, _ => none
    | _ => none
  | _ => none
def rowOk (old : Option (Nat × ABlk)) : AV → Bool
  | .nils => match old with
    | none => true
    | some _ => false
  | .osl id _ _ _ _ => match old with
    | some (id', _) => Nat.beq id id'
    | none => false
  | _ => false
def baseH (n : Nat) (old : Option (Nat × ABlk)) : Heap := match old with
  | some (id, k) => (⟨.leaf none, n⟩ : Heap).put id k
  | none => ⟨.leaf none, n⟩
def srcId : AV → Option (Option Nat)
  | .str _ => some none
  | .nils => some none
  | .slice id _ _ _ => some (some id)
  | .osl id _ _ _ _ => some (some id)
  | _ => none
/-- A cell that names no block. -/
def noNum : AV → Bool
  | .bool _ | .int _ _ | .str _ | .nilp | .nils | .nilm | .nilf | .nili | .sym _ => true
  | _ => false
def noNums : ABlk → Bool
  | .cells t n _ => (t.list 0 n).all noNum
  | _ => false
/-- The row and what is appended to it, nothing else. -/
def appH (n : Nat) (old : Option (Nat × ABlk)) (V : Heap) (x : AV) : Option Heap := match srcId x with
  | some none => some (baseH n old)
  | some (some j) => match V.get j with
    | some k => match noNums k with
      | true => some ((baseH n old).put j k)
      | false => none
    | none => none
  | none => none
def appR (n : Nat) : Option (AV × Heap) → Option (ABlk × AV)
  | some (v, C) => match C.get n, Nat.beq C.next (n + 1) with
    | some k, true => some (k, v)
    | _, _ => none
  | none => none
def fappA (P : Program) (f : Fr) (o : Oper) (n : Nat) (old : Option (Nat × ABlk)) (V : Heap) : Option (ABlk × AV) := match o.op with
  | .call { callee := .builtin .append, args, argTypes } => match args.toList, argTypes.toList with
    | [s, x], [t, u] => match ev f s, ev f x with
      | some s, some x => match rowOk old s, appH n old V x with
        | true, some Y => appR n (appendA P t u s x Y)
        | _, _ => none
      | _, _ => none
    | _, _ => none
  | _ => none

def runD (P : Program) (call : FuncId → List AV → Heap → Option (AV × Heap)) (ops : Array Oper) (bm : T Nat) (ap : AP) (n0 : Nat) :
    List Oper → Nat → Fr → Heap → Nat → Nat → List Rec → Option (List Rec × Fr × Heap × Nat × Nat)
  | [], _, f, C, M, A, rs => some (rs, f, C, M, A)
  | o :: l, i, f, C, M, A, rs => match wantA f ops o with
    | some true => match apHere ap i with
      | some old => match fappA P f o (n0 + i) old (view (bm.get i) 0 ⟨.leaf none, n0 + i⟩ rs 0) with
        | some (k, v) => match f.put o.dst v with
          | some f' => runD P call ops bm ap n0 l (i + 1) f' C M A (rs ++ [⟨v, .mk (n0 + i) k, f, C, M, A⟩])
          | none => none
        | none => none
      | none => match ltHere ap i with
        | true => match lateA P f o (view (bm.get i) M C rs 0) with
          | some (id, k, v) => match f.put o.dst v with
            | some f' => runD P call ops bm ap n0 l (i + 1) f' C M A (rs ++ [⟨v, .late id k, f, C, M, A⟩])
            | none => none
          | none => none
        | false => match isAct o.op with
          | false => match fop P f o (view (bm.get i) M C rs 0) with
            | some (.val v) => force v fun v => match f.put o.dst v with
              | some f' => runD P call ops bm ap n0 l (i + 1) f' C M A (rs ++ [⟨v, .flt, f, C, M, A⟩])
              | none => none
            | some (.new k _ v) => match f.put o.dst (v (n0 + i)) with
              | some f' => runD P call ops bm ap n0 l (i + 1) f' C M A (rs ++ [⟨v (n0 + i), .mk (n0 + i) k, f, C, M, A⟩])
              | none => none
            | none => none
          | true => match Nat.beq (Nat.land (bm.get i) A) A with
            | true => match aop P call f o (view (bm.get i) M C rs 0) with
              | some (v, C') => force v fun v => match f.put o.dst v with
                | some f' => runD P call ops bm ap n0 l (i + 1) f' C' (Nat.lor M (bm.get i)) (Nat.lor A (2 ^ i)) (rs ++ [⟨v, .act, f, C, M, A⟩])
                | none => none
              | none => none
            | false => none
    | some false => match f.put o.dst undefA with
      | some f' => runD P call ops bm ap n0 l (i + 1) f' C M A (rs ++ [⟨undefA, .skip, f, C, M, A⟩])
      | none => none
    | none => none

/-- A state between acts: memory, what the acts had ahead of them, which acts. -/
structure Stage where
  C : Heap
  M : Nat
  A : Nat
def stages : List Rec → List Stage
  | [] => []
  | r :: l => match r.kd with
    | .act => ⟨r.C, r.M, r.A⟩ :: stages l
    | _ => stages l

def fltAt (P : Program) (o : Oper) (r : Rec) (i mask At : Nat) (rs : List Rec) : List Stage → Bool
  | [] => true
  | s :: l => match Nat.beq (Nat.land (Nat.land mask At) s.A) (Nat.land mask At) && !Nat.testBit s.M i with
    | true => match fop P r.f o (view mask s.M s.C rs 0) with
      | some (.val v) => abeq v r.v && fltAt P o r i mask At rs l
      | _ => false
    | false => fltAt P o r i mask At rs l
def fltAll (P : Program) (bm : T Nat) (At : Nat) (rs : List Rec) (ss : List Stage) : List Oper → List Rec → Nat → Bool
  | o :: ol, r :: rl, i => (match r.kd with
      | .flt => match hdep o.op with
        | true => fltAt P o r i (bm.get i) At rs ss
        | false => true
      | _ => true) && fltAll P bm At rs ss ol rl (i + 1)
  | [], [], _ => true
  | _, _, _ => false

/-- All that was made and that no act had ahead of it. -/
def lastView (M : Nat) (C : Heap) : List Rec → Nat → Heap
  | [], _ => C
  | r :: l, i => match r.kd with
    | .mk id k => match Nat.testBit M i with
      | true => lastView M C l (i + 1)
      | false => lastView M (C.put id k) l (i + 1)
    | _ => lastView M C l (i + 1)

/-- Ahead of a store that comes last stands all that acts, that makes a block, that looks at memory; no two of them turn one block. -/
def lateOne (mask id i0 : Nat) : List Oper → List Rec → Nat → Bool
  | o :: ol, r :: rl, j => (match r.kd with
      | .skip => true
      | .flt => !hdep o.op || Nat.testBit mask j
      | .mk _ _ => Nat.testBit mask j
      | .act => Nat.testBit mask j
      | .late id' _ => Nat.beq j i0 || !Nat.beq id' id) && lateOne mask id i0 ol rl (j + 1)
  | [], [], _ => true
  | _, _, _ => false
def lateAll (bm : T Nat) (ops : List Oper) (rs : List Rec) : List Rec → Nat → Bool
  | [], _ => true
  | r :: l, i => (match r.kd with
      | .late id _ => lateOne (bm.get i) id i ops rs 0
      | _ => true) && lateAll bm ops rs l (i + 1)
def lateH : List Rec → Heap → Heap
  | [], H => H
  | r :: l, H => match r.kd with
    | .late id k => lateH l (H.put id k)
    | _ => lateH l H

def drawB (P : Program) (call : FuncId → List AV → Heap → Option (AV × Heap)) (ops : Array Oper) (ap : AP) (f : Fr) (n0 : Nat) (C0 : Heap) : Option (Fr × Heap) :=
  match runD P call ops (maskTree ops) ap n0 ops.toList 0 f C0 0 0 [] with
  | some (rs, f', C, M, A) => match fltAll P (maskTree ops) A rs (stages rs ++ [⟨C, M, A⟩]) ops.toList rs 0, lateAll (maskTree ops) ops.toList rs rs 0 with
    | true, true => some (f', lateH rs (lastView M C rs 0))
    | _, _ => none
  | none => none

def isAppend : Op → Bool
  | .call { callee := .builtin .append, args := _, argTypes := _ } => true
  | _ => false
/-- No act that may stand ahead of the append touches what the append looks at. -/
def appSafe (bm : T Nat) (ia : Nat) : List Oper → Nat → Bool
  | [], _ => true
  | o :: l, a => (!isAct o.op || Nat.beq a ia || Nat.testBit (bm.get a) ia || Nat.beq (Nat.land (bm.get a) (bm.get ia)) 0) && appSafe bm ia l (a + 1)
/-- There is an act to which it stands in no order. -/
def appLoose (bm : T Nat) (ia : Nat) : List Oper → Nat → Bool
  | [], _ => false
  | o :: l, a => (isAct o.op && !Nat.beq a ia && !Nat.testBit (bm.get a) ia && !Nat.testBit (bm.get ia) a) || appLoose bm ia l (a + 1)
def appFind (all : List Oper) (bm : T Nat) : List Oper → Nat → Option Nat
  | [], _ => none
  | o :: l, i => match isAppend o.op && appLoose bm i all 0 && appSafe bm i all 0 with
    | true => some i
    | false => appFind all bm l (i + 1)
def isStore : Op → Bool
  | .store _ _ _ => true
  | _ => false
/-- Nothing stands behind it. -/
def lastOf (bm : T Nat) (i : Nat) : List Oper → Nat → Bool
  | [], _ => true
  | _ :: l, j => !Nat.testBit (bm.get j) i && lastOf bm i l (j + 1)
def lateFind (all : List Oper) (bm : T Nat) : List Oper → Nat → Nat → Nat
  | [], _, s => s
  | o :: l, i, s => match isStore o.op && appLoose bm i all 0 && lastOf bm i all 0 with
    | true => lateFind all bm l (i + 1) (Nat.lor s (2 ^ i))
    | false => lateFind all bm l (i + 1) s
def lateBits (ops : Array Oper) : Nat := lateFind ops.toList (maskTree ops) ops.toList 0 0
def appAt (ops : Array Oper) : Option Nat := appFind ops.toList (maskTree ops) ops.toList 0
/-- Which row it will be: what stands ahead of it, one behind the other. -/
def aheadA (P : Program) (mask : Nat) (H : Heap) : List Oper → Nat → Fr → Option Fr
  | [], _, f => some f
  | o :: l, i, f => match Nat.testBit mask i with
    | true => match fop P f o H with
      | some (.val v) => match f.put o.dst v with
        | some f' => aheadA P mask H l (i + 1) f'
        | none => none
      | _ => aheadA P mask H l (i + 1) f
    | false => aheadA P mask H l (i + 1) f
def hintA (P : Program) (ops : Array Oper) (ia : Nat) (f : Fr) (H : Heap) : Option (Option Nat) := match aheadA P ((maskTree ops).get ia) H ops.toList 0 f, ops[ia]? with
  | some f', some o => match o.op with
    | .call { callee := _, args, argTypes := _ } => match args.toList with
      | s :: _ => match ev f' s with
        | some .nils => some none
        | some (.osl id _ _ _ _) => some (some id)
        | _ => none
      | _ => none
    | _ => none
  | _, _ => none

def drawA (P : Program) (call : FuncId → List AV → Heap → Option (AV × Heap)) (ops : Array Oper) (f : Fr) (H : Heap) : Option (Fr × Heap) :=
  match orderly ops, Nat.ble (H.next + ops.size) 65536 with
  | true, true => match appAt ops with
    | none => drawB P call ops ⟨none, lateBits ops⟩ f H.next ⟨H.t, H.next + ops.size⟩
    | some ia => match hintA P ops ia f H with
      | some none => drawB P call ops ⟨some (ia, none), lateBits ops⟩ f H.next ⟨H.t, H.next + ops.size⟩
      | some (some id) => match H.get id, Nat.blt id H.next with
        | some k, true => drawB P call ops ⟨some (ia, some (id, k)), lateBits ops⟩ f H.next ⟨(H.drop id).t, H.next + ops.size⟩
        | _, _ => none
      | none => none
  | _, _ => none

inductive Ex where
  | norm
  | exit (id : Nat)
  | ret

/-- What a frame has put off: a call; the mark of a range over a function. -/
inductive Df where
  | call (g : FuncId) (args : List AV)
  | coll
structure St where
  f : Fr
  H : Heap
  ds : List Df

def loopA : Nat → (St → Option (Ex × St)) → St → Option (Ex × St)
  | 0, _, _ => none
  | n + 1, g, s => match g s with
    | some (.norm, s') => loopA n g s'
    | r => r

/-- A deferral at the end of a row of operations. -/
def deferOf : List Oper → Option (List Oper × Oper × Operand × List Operand)
  | [] => none
  | o :: l => match l with
    | [] => match o.op with
      | .defer { callee := .value x, args, argTypes := _ } => some ([], o, x, args.toList)
      | _ => none
    | _ :: _ => match deferOf l with
      | some (p, r) => some (o :: p, r)
      | none => none
def entersA (P : Program) (g : FuncId) : Bool := match P.funcs[g]? with
  | some fn => !fn.body.isNone
  | none => false

abbrev CallF := FuncId → List AV → Heap → Option (AV × Heap)
/-- What is known beforehand: functions; statements of other kinds; deferred functions. -/
structure Lore where
  K : FuncId → List AV → Option (Heap → Option (AV × Heap))
  X : CallF → Code → St → Option (Ex × St)
  D : FuncId → Option (List AV → Heap → Option Heap)

def codeA (P : Program) (L : Lore) (call : CallF) (fuel : Nat) : Code → St → Option (Ex × St)
  | .skip, s => some (.norm, s)
  | .label _, s => some (.norm, s)
  | .ret, s => some (.ret, s)
  | .exit id, s => some (.exit id, s)
  | .seq a b, s => match codeA P L call fuel a s with
    | some (.norm, s') => codeA P L call fuel b s'
    | r => r
  | .cond c a b, s => match ev s.f c with
    | some (.bool true) => codeA P L call fuel a s
    | some (.bool false) => codeA P L call fuel b s
    | _ => none
  | .block id c, s => match codeA P L call fuel c s with
    | some (.exit id', s') => match Nat.beq id' id with
      | true => some (.norm, s')
      | false => some (.exit id', s')
    | r => r
  | .loop c, s => loopA fuel (codeA P L call fuel c) s
  | .region _ ops draw, s => match draw with
    | false => match deferOf ops.toList with
      | none => match seqA P call ops ops.toList s.f s.H with
        | some (f, H) => some (.norm, ⟨f, H, s.ds⟩)
        | none => none
      | some (pre, o, x, args) => match seqA P call ops pre s.f s.H with
        | some (f, H) => match wantA f ops o, ev f x, evs f args, f.put o.dst undefA with
          | some true, some (.fn (.func g) first captured), some l, some f' => match entersA P g with
            | true => some (.norm, ⟨f', H, Df.call g (first ++ (l ++ captured)) :: s.ds⟩)
            | false => none
          | _, _, _, _ => none
        | none => none
    | true => match drawA P call ops s.f s.H with
      | some (f, H) => some (.norm, ⟨f, H, s.ds⟩)
      | none => none
  | c, s => L.X call c s

def resA (P : Program) (f : Fr) (H : Heap) : List ResultVar → Option (List AV)
  | [] => some []
  | .tmp t :: l => match f.get t, resA P f H l with
    | some v, some vs => some (v :: vs)
    | _, _ => none
  | .cell a t :: l => match f.get a with
    | some (.ptr id off) => match loadA P t H id off, resA P f H l with
      | some v, some vs => some (v :: vs)
      | _, _ => none
    | _ => none

def leaveA (L : Lore) : List Df → Heap → Option Heap
  | [], H => some H
  | .call g args :: l, H => match L.D g with
    | some d => match d args H with
      | some H' => leaveA L l H'
      | none => none
    | none => none
  | .coll :: l, H => leaveA L l H

def bodyA (P : Program) (G : Nat → Option Nat) (L : Lore) (call : CallF) (fuel : Nat) (fn : Func) (args : List AV) (H : Heap) : Option (AV × Heap) :=
  match fn.body, Nat.ble args.length fn.ntmps && Nat.ble fn.ntmps 512 with
  | some c, true => match codeA P L call fuel c ⟨⟨T.lay 9 (.leaf undefA) 0 args, fn.ntmps, G⟩, H, []⟩ with
    | some (.exit _, _) => none
    | some (_, s) => match leaveA L s.ds s.H with
      | some H' => match resA P s.f H' fn.results.toList with
        | some [v] => some (v, H')
        | some l => some (.tup l, H')
        | none => none
      | none => none
    | none => none
  | _, _ => none

def callA (P : Program) (G : Nat → Option Nat) (L : Lore) (fuel : Nat) : Nat → CallF
  | 0, _, _, _ => none
  | n + 1, g, args, H => match L.K g args with
    | some s => s H
    | none => match P.funcs[g]? with
      | some fn => bodyA P G L (callA P G L fuel n) fuel fn args H
      | none => none
end
end Ev
end Go.Proofs.YtpppaheennkkpaaGreatDoor
