/- Values and memory for a run that the kernel makes by itself: a tree of cells, values that name blocks by numbers of their own, and what they stand for. -/
import Derived.Calls
import Derived.Orders
namespace Go.Proofs.YtikmamcbngbipaaGreatDoor
namespace Ev

/-- A row of things, numbered from the least bit on; a leaf is one thing everywhere. -/
inductive T (α : Type) where
  | leaf (v : α)
  | node (l r : T α)

namespace T
variable {α : Type}
noncomputable def get (t : T α) : Nat → α := T.rec (motive := fun _ => Nat → α) (fun v _ => v) (fun _ _ L R i => Nat.rec (motive := fun _ => α) (L (Nat.div i 2)) (fun _ _ => R (Nat.div i 2)) (Nat.mod i 2)) t
theorem pick2 {β : Type} (i : Nat) (a b : β) : Nat.rec (motive := fun _ => β) a (fun _ _ => b) (Nat.mod i 2) = if i % 2 = 0 then a else b := by
  have : Nat.mod i 2 = i % 2 := rfl
  rw [this]
  rcases Nat.mod_two_eq_zero_or_one i with h | h <;> rw [h] <;> rfl
theorem get_leaf (v : α) (i : Nat) : get (leaf v) i = v := rfl
theorem get_node (l r : T α) (i : Nat) : get (node l r) i = if i % 2 = 0 then l.get (i / 2) else r.get (i / 2) := pick2 i _ _
noncomputable def set (d : Nat) : T α → Nat → α → T α := Nat.rec (motive := fun _ => T α → Nat → α → T α) (fun _ _ v => leaf v)
  (fun _ S t => T.rec (motive := fun _ => Nat → α → T α) (fun x i v => Nat.rec (motive := fun _ => T α) (node (S (leaf x) (Nat.div i 2) v) (leaf x)) (fun _ _ => node (leaf x) (S (leaf x) (Nat.div i 2) v)) (Nat.mod i 2))
    (fun l r _ _ i v => Nat.rec (motive := fun _ => T α) (node (S l (Nat.div i 2) v) r) (fun _ _ => node l (S r (Nat.div i 2) v)) (Nat.mod i 2)) t) d
theorem set_zero (t : T α) (i : Nat) (v : α) : set 0 t i v = leaf v := rfl
theorem set_leaf (d : Nat) (x : α) (i : Nat) (v : α) : set (d + 1) (leaf x) i v = if i % 2 = 0 then node (set d (leaf x) (i / 2) v) (leaf x) else node (leaf x) (set d (leaf x) (i / 2) v) := pick2 i _ _
theorem set_node (d : Nat) (l r : T α) (i : Nat) (v : α) : set (d + 1) (node l r) i v = if i % 2 = 0 then node (set d l (i / 2) v) r else node l (set d r (i / 2) v) := pick2 i _ _

theorem get_set : ∀ (d : Nat) (t : T α) (i j : Nat) (v : α), (set d t i v).get j = if j % 2 ^ d = i % 2 ^ d then v else t.get j
  | 0, t, i, j, v => by simp [set_zero, get_leaf, Nat.mod_one]
  | d + 1, t, i, j, v => by
    have hp : 2 ^ (d + 1) = 2 * 2 ^ d := by rw [Nat.pow_succ, Nat.mul_comm]
    have key : ∀ x, x % 2 ^ (d + 1) = 2 * (x / 2 % 2 ^ d) + x % 2 := fun x => by
      rw [hp, Nat.mod_mul]; omega
    have h2 : j % 2 ^ (d + 1) = i % 2 ^ (d + 1) ↔ (j / 2 % 2 ^ d = i / 2 % 2 ^ d ∧ j % 2 = i % 2) := by
      rw [key, key]; omega
    rcases Nat.mod_two_eq_zero_or_one i with hi | hi <;> rcases Nat.mod_two_eq_zero_or_one j with hj | hj <;> cases t <;>
      simp [set_leaf, set_node, get_leaf, get_node, hi, hj, h2, get_set d]

theorem get_set_lt {d : Nat} {t : T α} {i j : Nat} {v : α} (hi : i < 2 ^ d) (hj : j < 2 ^ d) :
    (set d t i v).get j = if j = i then v else t.get j := by
  rw [get_set, Nat.mod_eq_of_lt hi, Nat.mod_eq_of_lt hj]

/-- What stands from i on, n of them. -/
noncomputable def list (t : T α) : Nat → Nat → List α
  | _, 0 => []
  | i, n + 1 => t.get i :: t.list (i + 1) n
theorem list_length (t : T α) : ∀ (n i : Nat), (t.list i n).length = n
  | 0, _ => rfl
  | n + 1, i => by simp [list, list_length t n]
theorem list_get (t : T α) : ∀ (n i k : Nat), k < n → (t.list i n)[k]? = some (t.get (i + k))
  | n + 1, i, 0, _ => by simp [list]
  | n + 1, i, k + 1, h => by
    simp only [list, List.getElem?_cons_succ]
    rw [list_get t n (i + 1) k (by omega), show i + 1 + k = i + (k + 1) by omega]
/-- A list laid from i on. -/
noncomputable def lay (d : Nat) : T α → Nat → List α → T α
  | t, _, [] => t
  | t, i, v :: l => lay d (set d t i v) (i + 1) l
theorem get_lay_out {d : Nat} : ∀ (l : List α) (t : T α) (i j : Nat), i + l.length ≤ 2 ^ d → j < 2 ^ d → ¬ (i ≤ j ∧ j < i + l.length) →
    (lay d t i l).get j = t.get j
  | [], t, i, j, _, _, _ => rfl
  | v :: l, t, i, j, hl, hj, h => by
    simp only [List.length_cons] at hl h
    rw [lay, get_lay_out l _ (i + 1) j (by omega) hj (by omega), get_set_lt (by omega) hj, if_neg (by omega)]
theorem get_lay_in {d : Nat} : ∀ (l : List α) (t : T α) (i j : Nat), i + l.length ≤ 2 ^ d → i ≤ j → j < i + l.length →
    l[j - i]? = some ((lay d t i l).get j)
  | [], t, i, j, _, h, h' => by simp at h'; omega
  | v :: l, t, i, j, hl, h, h' => by
    simp only [List.length_cons] at hl h'
    rw [lay]
    by_cases h1 : j = i
    · subst h1
      rw [get_lay_out l _ (j + 1) j (by omega) (by omega) (by omega), get_set_lt (by omega) (by omega), Nat.sub_self]
      simp
    · rw [← get_lay_in l (set d t i v) (i + 1) j (by omega) (by omega) (by omega), show j - i = (j - (i + 1)) + 1 by omega]
      simp
end T

/-- A value of the run: blocks bear the run's own numbers. -/
inductive AV where
  | bool (b : Bool)
  | int (k : IntKind) (n : Int)
  | str (l : List UInt8)
  | ptr (id off : Nat)
  | nilp
  | slice (id off len cap : Nat)
  | osl (id off0 off len k : Nat)
  | nils
  | map (id : Nat)
  | nilm
  | fn (f : Fn) (first captured : List AV)
  | nilf
  | iface (t : TypeId) (v : AV)
  | nili
  | agg (l : List AV)
  | tup (l : List AV)
  | sym (i : Nat)
instance : Inhabited AV := ⟨.tup []⟩

/-- Where a block of the run lies: in which block, from which cell on, how many cells from there. -/
structure Pl where
  b : Nat
  o : Nat
  n : Nat
abbrev Place := Nat → Option Pl

mutual
def conc (σ : Nat → Value) (ρ : Place) : AV → Option Value
  | .bool b => some (.bool b)
  | .int k n => some (.int k n)
  | .str l => some (.string ⟨l.toArray⟩)
  | .ptr id off => match ρ id with
    | some p => some (.pointer (some ⟨p.b, p.o + off, none⟩))
    | none => none
  | .nilp => some (.pointer none)
  | .slice id off len cap => match ρ id with
    | some p => some (.slice (some ⟨p.b, p.o + off, none⟩) len cap)
    | none => none
  | .osl id off0 off len k => match ρ id with
    | some p => if 0 < k ∧ off + len * k ≤ p.n ∧ (p.n - off) % k = 0 then
        some (.slice (some ⟨p.b, p.o + (if off = p.n then off0 else off), none⟩) len ((p.n - off) / k)) else none
    | none => none
  | .nils => some (.slice none 0 0)
  | .map id => match ρ id with
    | some p => some (.map (some p.b))
    | none => none
  | .nilm => some (.map none)
  | .fn f first captured => match concs σ ρ first, concs σ ρ captured with
    | some a, some b => some (.func f a.toArray b.toArray)
    | _, _ => none
  | .nilf => some .nilFunc
  | .iface t v => match conc σ ρ v with
    | some x => some (.iface t x)
    | none => none
  | .nili => some .nilIface
  | .agg l => match concs σ ρ l with
    | some a => some (.agg a.toArray)
    | none => none
  | .tup l => match concs σ ρ l with
    | some a => some (.tuple a.toArray)
    | none => none
  | .sym i => some (σ i)
def concs (σ : Nat → Value) (ρ : Place) : List AV → Option (List Value)
  | [] => some []
  | v :: l => match conc σ ρ v, concs σ ρ l with
    | some a, some b => some (a :: b)
    | _, _ => none
end

/-- One place more. -/
def Place.le (ρ ρ' : Place) : Prop := ∀ i x, ρ i = some x → ρ' i = some x
theorem Place.le.refl (ρ : Place) : ρ.le ρ := fun _ _ h => h
theorem Place.le.trans {a b c : Place} (h : Place.le a b) (k : Place.le b c) : a.le c := fun i x e => k i x (h i x e)

mutual
theorem conc_mono {σ : Nat → Value} {ρ ρ' : Place} (h : ρ.le ρ') : ∀ (a : AV) (v : Value), conc σ ρ a = some v → conc σ ρ' a = some v
  | .bool b, v, e => by simpa [conc] using e
  | .int k n, v, e => by simpa [conc] using e
  | .str l, v, e => by simpa [conc] using e
  | .ptr id off, v, e => by
    unfold conc at e ⊢
    cases hr : ρ id with
    | none => rw [hr] at e; cases e
    | some x => rw [hr] at e; rw [h id x hr]; exact e
  | .nilp, v, e => by simpa [conc] using e
  | .slice id off len cap, v, e => by
    unfold conc at e ⊢
    cases hr : ρ id with
    | none => rw [hr] at e; cases e
    | some x => rw [hr] at e; rw [h id x hr]; exact e
  | .osl id off0 off len k, v, e => by
    unfold conc at e ⊢
    cases hr : ρ id with
    | none => rw [hr] at e; cases e
    | some x => rw [hr] at e; rw [h id x hr]; exact e
  | .nils, v, e => by simpa [conc] using e
  | .map id, v, e => by
    unfold conc at e ⊢
    cases hr : ρ id with
    | none => rw [hr] at e; cases e
    | some x => rw [hr] at e; rw [h id x hr]; exact e
  | .nilm, v, e => by simpa [conc] using e
  | .fn f a b, v, e => by
    unfold conc at e ⊢
    cases ha : concs σ ρ a with
    | none => rw [ha] at e; cases e
    | some x =>
      cases hb : concs σ ρ b with
      | none => rw [ha, hb] at e; cases e
      | some y => rw [ha, hb] at e; rw [concs_mono h a x ha, concs_mono h b y hb]; exact e
  | .nilf, v, e => by simpa [conc] using e
  | .iface t x, v, e => by
    unfold conc at e ⊢
    cases ha : conc σ ρ x with
    | none => rw [ha] at e; cases e
    | some y => rw [ha] at e; rw [conc_mono h x y ha]; exact e
  | .nili, v, e => by simpa [conc] using e
  | .agg l, v, e => by
    unfold conc at e ⊢
    cases ha : concs σ ρ l with
    | none => rw [ha] at e; cases e
    | some x => rw [ha] at e; rw [concs_mono h l x ha]; exact e
  | .tup l, v, e => by
    unfold conc at e ⊢
    cases ha : concs σ ρ l with
    | none => rw [ha] at e; cases e
    | some x => rw [ha] at e; rw [concs_mono h l x ha]; exact e
  | .sym i, v, e => by simpa [conc] using e
theorem concs_mono {σ : Nat → Value} {ρ ρ' : Place} (h : ρ.le ρ') : ∀ (l : List AV) (vs : List Value), concs σ ρ l = some vs → concs σ ρ' l = some vs
  | [], vs, e => by simpa [concs] using e
  | v :: l, vs, e => by
    unfold concs at e ⊢
    cases ha : conc σ ρ v with
    | none => rw [ha] at e; cases e
    | some x =>
      cases hb : concs σ ρ l with
      | none => rw [ha, hb] at e; cases e
      | some y => rw [ha, hb] at e; rw [conc_mono h v x ha, concs_mono h l y hb]; exact e
end
end Ev
end Go.Proofs.YtikmamcbngbipaaGreatDoor
