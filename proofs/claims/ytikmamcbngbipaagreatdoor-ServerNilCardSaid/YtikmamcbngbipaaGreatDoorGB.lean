/- The compiled run: its small parts. -/
import Derived.Test.YtikmamcbngbipaaGreatDoorGA
import Derived.Test.YtikmamcbngbipaaGreatDoorFA
namespace Go.Proofs.YtikmamcbngbipaaGreatDoor
namespace Ev

theorem fN_eq {β : Type} (m : Nat) (K : Nat → β) : fN m K = K m := rfl
theorem fBool_eq {β : Type} (b : Bool) (K : Bool → β) : fBool b K = K b := by cases b <;> rfl
theorem fI_eq {β : Type} (n : Int) (K : Int → β) : fI n K = K n := by cases n <;> rfl
theorem fB_eq {β : Type} (b : Bool) (x y : β) : fB b x y = if b then x else y := by cases b <;> rfl
theorem fB_ok {b x : Bool} (h : fB b x false = true) : b = true ∧ x = true := by
  cases b
  · cases (show false = true from h)
  · exact ⟨rfl, h⟩

namespace T
variable {α β : Type}
theorem getK_eq (K : α → β) : ∀ (t : T α) (d i : Nat), i < 2 ^ d → t.getK (pathOf d i) K = K (t.get i)
  | .leaf v, d, i, _ => rfl
  | .node l r, 0, i, h => by
    have : i = 0 := by simpa using h
    subst this
    show l.getK .e K = _
    rw [get_node]
    exact getK_eq K l 0 0 (by simp)
  | .node l r, d + 1, i, h => by
    have hp : 2 ^ (d + 1) = 2 * 2 ^ d := by rw [Nat.pow_succ, Nat.mul_comm]
    have h2 : i / 2 < 2 ^ d := by omega
    rw [get_node, pathOf]
    split
    · rename_i h0
      rw [if_pos h0]
      exact getK_eq K l d (i / 2) h2
    · rename_i h0
      rw [if_neg (fun e => h0 e)]
      exact getK_eq K r d (i / 2) h2
theorem setK_eq (v : α) : ∀ (d : Nat) (t : T α) (i : Nat) (K : T α → β), setK (pathOf d i) t v K = K (T.set d t i v)
  | 0, t, i, K => rfl
  | d + 1, t, i, K => by
    rw [pathOf]
    cases t with
    | leaf x =>
      rw [set_leaf]
      split
      · rename_i h0
        rw [if_pos h0]
        exact setK_eq v d (.leaf x) (i / 2) (fun l => K (.node l (.leaf x)))
      · rename_i h0
        rw [if_neg (fun e => h0 e)]
        exact setK_eq v d (.leaf x) (i / 2) (fun r => K (.node (.leaf x) r))
    | node l r =>
      rw [set_node]
      split
      · rename_i h0
        rw [if_pos h0]
        exact setK_eq v d l (i / 2) (fun l => K (.node l r))
      · rename_i h0
        rw [if_neg (fun e => h0 e)]
        exact setK_eq v d r (i / 2) (fun r => K (.node l r))
theorem getN_eq (K : α → β) : ∀ (t : T α) (i : Nat), t.getN i K = K (t.get i)
  | .leaf v, i => rfl
  | .node l r, i => by
    have e : (T.node l r).getN i K = Nat.rec (motive := fun _ => β) (l.getN (Nat.div i 2) K) (fun _ _ => r.getN (Nat.div i 2) K) (Nat.mod i 2) := rfl
    rw [e, pick2, get_node]
    split
    · exact getN_eq K l (i / 2)
    · exact getN_eq K r (i / 2)
theorem setN_eq (v : α) : ∀ (d : Nat) (t : T α) (i : Nat) (K : T α → β), setN d t i v K = K (T.set d t i v)
  | 0, t, i, K => rfl
  | d + 1, t, i, K => by
    have e : setN (d + 1) t i v K = Nat.rec (motive := fun _ => β)
      (T.rec (motive := fun _ => β) (fun x => setN d (.leaf x) (Nat.div i 2) v fun l => K (.node l (.leaf x))) (fun l r _ _ => setN d l (Nat.div i 2) v fun l' => K (.node l' r)) t)
      (fun _ _ => T.rec (motive := fun _ => β) (fun x => setN d (.leaf x) (Nat.div i 2) v fun r => K (.node (.leaf x) r)) (fun l r _ _ => setN d r (Nat.div i 2) v fun r' => K (.node l r')) t) (Nat.mod i 2) := rfl
    rw [e, pick2]
    cases t with
    | leaf x =>
      rw [set_leaf]
      split
      · exact setN_eq v d (.leaf x) (i / 2) (fun l => K (.node l (.leaf x)))
      · exact setN_eq v d (.leaf x) (i / 2) (fun r => K (.node (.leaf x) r))
    | node l r =>
      rw [set_node]
      split
      · exact setN_eq v d l (i / 2) (fun l => K (.node l r))
      · exact setN_eq v d r (i / 2) (fun r => K (.node l r))
theorem listK_eq (t : T α) : ∀ (n i : Nat) (K : List α → β), listK t n i K = K (t.list i n)
  | 0, i, K => rfl
  | n + 1, i, K => by
    have e : listK t (n + 1) i K = getN t i (fun v => listK t n (i + 1) fun l => K (v :: l)) := rfl
    rw [e, getN_eq, listK_eq t n]
    rfl
theorem layK_eq (d : Nat) : ∀ (l : List α) (t : T α) (i : Nat) (K : T α → β), layK d l t i K = K (T.lay d t i l)
  | [], t, i, K => rfl
  | v :: l, t, i, K => by
    have e : layK d (v :: l) t i K = setN d t i v (fun t => layK d l t (i + 1) K) := rfl
    rw [e, setN_eq, layK_eq d l]
    rfl
end T

theorem fS_eq {β : Type} : ∀ (l : List UInt8) (K : List UInt8 → β), fS l K = K l
  | [], K => rfl
  | v :: l, K => by
    have e : fS (v :: l) K = fS l (fun l => K (v :: l)) := rfl
    rw [e, fS_eq l]
theorem fL_eq {β : Type} {el : AV → (AV → β) → β} (he : ∀ v K, el v K = K v) : ∀ (l : List AV) (K : List AV → β), fL l el K = K l
  | [], K => rfl
  | v :: l, K => by
    have e : fL (v :: l) el K = el v (fun v => fL l el fun l => K (v :: l)) := rfl
    rw [e, he, fL_eq he l]
theorem fV0_eq {β : Type} (v : AV) (K : AV → β) : fV0 v K = K v := by
  cases v with
  | bool b => exact fBool_eq b (fun b => K (.bool b))
  | int k n => exact fI_eq n (fun n => K (.int k n))
  | str l => exact fS_eq l (fun l => K (.str l))
  | _ => rfl
theorem fV_eq {β : Type} (v : AV) (K : AV → β) : fV v K = K v := by
  cases v with
  | bool b => exact fBool_eq b (fun b => K (.bool b))
  | int k n => exact fI_eq n (fun n => K (.int k n))
  | str l => exact fS_eq l (fun l => K (.str l))
  | fn f a b =>
    show fL a fV0 (fun a => fL b fV0 fun b => K (.fn f a b)) = _
    rw [fL_eq fV0_eq, fL_eq fV0_eq]
  | iface t v =>
    show fV0 v (fun v => K (.iface t v)) = _
    rw [fV0_eq]
  | agg l =>
    show fL l fV0 (fun l => K (.agg l)) = _
    rw [fL_eq fV0_eq]
  | tup l =>
    show fL l fV0 (fun l => K (.tup l)) = _
    rw [fL_eq fV0_eq]
  | _ => rfl

section
variable {P : Program} {G : Nat → Option Nat} {sz : Nat} {t : T AV}

theorem slotOf_some {i : Nat} {p : Path} (h : slotOf sz i = some p) : i < sz ∧ p = pathOf 9 i ∧ Nat.blt i sz = true := by
  unfold slotOf at h
  split at h
  · rename_i hb
    cases h
    exact ⟨bl hb, rfl, hb⟩
  · cases h
theorem onPtr_ok {v : AV} {K : Nat → Nat → Bool} (h : onPtr v K = true) : ∃ id off, v = .ptr id off ∧ K id off = true := by
  cases v <;> first | exact ⟨_, _, rfl, h⟩ | exact nomatch (show false = true from h)
theorem onNat_ok {n : Int} {K : Nat → Bool} (h : onNat n K = true) : ∃ m, n = .ofNat m ∧ K m = true := by
  cases n <;> first | exact ⟨_, rfl, h⟩ | exact nomatch (show false = true from h)
theorem onInt_ok {v : AV} {K : IntKind → Int → Bool} {E : Bool} (h : onInt v K E = true) : (∃ k n, v = .int k n ∧ K k n = true) ∨ E = true := by
  cases v <;> first | exact .inl ⟨_, _, rfl, h⟩ | exact .inr h
theorem onO_ok {α : Type} {x : Option α} {K : α → Bool} (h : onO x K = true) : ∃ v, x = some v ∧ K v = true := by
  cases x with
  | none => exact nomatch (show false = true from h)
  | some v => exact ⟨v, rfl, h⟩
theorem onCells_ok {ht : HT} {id nx : Nat} {K : T AV → Nat → TypeId → Bool} (h : onCells ht id K = true) : ∃ c n ty, (⟨ht, nx⟩ : Heap).get id = some (.cells c n ty) ∧ K c n ty = true := by
  unfold onCells at h
  rw [T.getN_eq] at h
  show ∃ c n ty, ht.get id = _ ∧ _
  revert h
  cases ht.get id with
  | none => intro h; exact nomatch (show false = true from h)
  | some k =>
    cases k with
    | cells c n ty => intro h; exact ⟨c, n, ty, rfl, h⟩
    | map es ck => intro h; exact nomatch (show false = true from h)

theorem srcK_ok (hs : sz ≤ 512) {x : Operand} {K : AV → Bool} (h : srcK G (srcOf sz x) t K = true) : ∃ v, ev ⟨t, sz, G⟩ x = some v ∧ K v = true := by
  unfold srcOf at h
  split at h
  · rename_i i
    split at h
    · rename_i p hp
      obtain ⟨h1, rfl, hb⟩ := slotOf_some hp
      have h : T.getK t (pathOf 9 i) K = true := h
      rw [T.getK_eq K t 9 i (by omega)] at h
      exact ⟨t.get i, by simp only [ev, Fr.get, hb], h⟩
    · exact nomatch (show false = true from h)
  · rename_i v
    split at h
    · rename_i a ha
      exact ⟨a, ha, h⟩
    · exact nomatch (show false = true from h)
  · rename_i g
    have h : Option.rec (motive := fun _ => Bool) false (fun id => K (.ptr id 0)) (G g) = true := h
    cases hg : G g with
    | none => rw [hg] at h; exact nomatch (show false = true from h)
    | some id => rw [hg] at h; exact ⟨.ptr id 0, by simp [ev, hg], h⟩
  · exact ⟨_, rfl, h⟩
theorem srcsK_ok (hs : sz ≤ 512) : ∀ {l : List Operand} {K : List AV → Bool}, srcsK G (l.map (srcOf sz)) t K = true → ∃ vs, evs ⟨t, sz, G⟩ l = some vs ∧ K vs = true
  | [], K, h => ⟨[], rfl, h⟩
  | x :: l, K, h => by
    have h : srcK G (srcOf sz x) t (fun v => srcsK G (l.map (srcOf sz)) t fun l => K (v :: l)) = true := h
    obtain ⟨v, h1, h2⟩ := srcK_ok hs h
    obtain ⟨vs, h3, h4⟩ := srcsK_ok hs h2
    exact ⟨v :: vs, by simp [evs, h1, h3], h4⟩
theorem dsK_ok {dst : Option Nat} {v : AV} {K : T AV → Bool} (h : dsK (dsOf sz dst) t v K = true) : ∃ t', (⟨t, sz, G⟩ : Fr).put dst v = some ⟨t', sz, G⟩ ∧ K t' = true := by
  unfold dsOf at h
  split at h
  · exact ⟨t, rfl, h⟩
  · rename_i d
    split at h
    · rename_i p hp
      obtain ⟨h1, rfl, hb⟩ := slotOf_some hp
      have h : T.setK (pathOf 9 d) t v K = true := h
      rw [T.setK_eq] at h
      exact ⟨_, by simp only [Fr.put, hb], h⟩
    · exact nomatch (show false = true from h)
theorem gdK_ok (hs : sz ≤ 512) {ops : Array Oper} {o : Oper} {yes no : Bool} (h : gdK (gdOf sz ops o) t yes no = true) : (wantA ⟨t, sz, G⟩ ops o = some true ∧ yes = true) ∨ (wantA ⟨t, sz, G⟩ ops o = some false ∧ no = true) := by
  unfold gdOf at h
  unfold wantA
  split at h
  · rename_i hg
    rw [hg]
    exact .inl ⟨rfl, h⟩
  · rename_i j want hg
    rw [hg]
    simp only
    split at h
    · rename_i g hj
      rw [hj]
      simp only
      split at h
      · rename_i d hd
        rw [hd]
        simp only
        split at h
        · rename_i p hp
          obtain ⟨h1, rfl, hb⟩ := slotOf_some hp
          have hget : (⟨t, sz, G⟩ : Fr).get d = some (t.get d) := by simp only [Fr.get, hb]
          rw [hget]
          unfold gdK at h
          simp only at h
          rw [T.getK_eq _ t 9 d (by omega)] at h
          revert h
          cases t.get d with
          | bool x =>
            intro h
            cases x <;> cases want <;> first | exact .inl ⟨rfl, h⟩ | exact .inr ⟨rfl, h⟩
          | tup l => intro h; exact .inr ⟨rfl, h⟩
          | _ => intro h; exact nomatch (show false = true from h)
        · exact nomatch (show false = true from h)
      · exact nomatch (show false = true from h)
    · exact nomatch (show false = true from h)
end
end Ev
end Go.Proofs.YtikmamcbngbipaaGreatDoor
