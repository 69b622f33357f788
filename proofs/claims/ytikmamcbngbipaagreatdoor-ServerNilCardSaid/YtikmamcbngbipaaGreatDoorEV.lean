/- A statement whose order Go leaves open: bits, what stands ahead of what. -/
import Derived.Test.YtikmamcbngbipaaGreatDoorEU
namespace Go.Proofs.YtikmamcbngbipaaGreatDoor
namespace Ev

section
variable {σ : Nat → Value} {P : Program} {G : Nat → Option Nat} {call : FuncId → List AV → Heap → Option (AV × Heap)} {ops : Array Oper} {bm : T Nat} {n0 : Nat} {rs : List Rec} {fin : Fr × Heap × Nat × Nat}

theorem bit_lor (a b j : Nat) : Nat.testBit (Nat.lor a b) j = (Nat.testBit a j || Nat.testBit b j) := Nat.testBit_or a b j
theorem bit_land (a b j : Nat) : Nat.testBit (Nat.land a b) j = (Nat.testBit a j && Nat.testBit b j) := Nat.testBit_and a b j

def isActR (rs : List Rec) (j : Nat) : Bool := match rs[j]? with
  | some r => match r.kd with
    | .act => true
    | _ => false
  | none => false

theorem stAt_get {i : Nat} {r : Rec} (h : rs[i]? = some r) : stAt rs fin i = (r.f, r.C, r.M, r.A) := by unfold stAt; rw [h]

/-- Which acts there were so far, and what they had ahead of them. -/
theorem st_bits (hL : Laid P call ops bm n0 rs fin 0) (hlen : rs.length = ops.size) (h0 : (stAt rs fin 0).2.2 = (0, 0)) : ∀ i, i ≤ ops.size →
    (∀ j, Nat.testBit (stAt rs fin i).2.2.2 j = (decide (j < i) && isActR rs j)) ∧ (∀ j, Nat.testBit (stAt rs fin i).2.2.1 j = true ↔ ∃ a, a < i ∧ isActR rs a = true ∧ Nat.testBit (bm.get a) j = true)
  | 0, _ => by
    have e1 : (stAt rs fin 0).2.2.2 = 0 := by rw [h0]
    have e2 : (stAt rs fin 0).2.2.1 = 0 := by rw [h0]
    refine ⟨fun j => by rw [e1]; simp, fun j => by rw [e2]; simp⟩
  | i + 1, hi => by
    obtain ⟨ih1, ih2⟩ := st_bits hL hlen h0 i (by omega)
    have ho := Array.getElem?_eq_getElem (xs := ops) (i := i) (by omega)
    have hr := List.getElem?_eq_getElem (l := rs) (i := i) (by omega)
    obtain ⟨f2, hput, hc⟩ := hL.each i _ _ (Nat.zero_le _) ho hr
    rw [stAt_get hr] at ih1 ih2
    generalize rs[i] = r at hr hput hc ih1 ih2
    have same : isActR rs i = false → stAt rs fin (i + 1) = (f2, r.C, r.M, r.A) → (∀ j, Nat.testBit (stAt rs fin (i + 1)).2.2.2 j = (decide (j < i + 1) && isActR rs j)) ∧ (∀ j, Nat.testBit (stAt rs fin (i + 1)).2.2.1 j = true ↔ ∃ a, a < i + 1 ∧ isActR rs a = true ∧ Nat.testBit (bm.get a) j = true) := fun hna he => by
      rw [he]
      refine ⟨fun j => ?_, fun j => ?_⟩
      · have := ih1 j
        simp only at this ⊢
        rw [this]
        by_cases hj : j = i
        · subst hj; simp [hna]
        · have : decide (j < i + 1) = decide (j < i) := by rw [Bool.eq_iff_iff]; simp; omega
          rw [this]
      · have := ih2 j
        simp only at this ⊢
        rw [this]
        constructor
        · rintro ⟨a, h1, h2, h3⟩; exact ⟨a, by omega, h2, h3⟩
        · rintro ⟨a, h1, h2, h3⟩
          by_cases ha : a = i
          · subst ha; rw [hna] at h2; cases h2
          · exact ⟨a, by omega, h2, h3⟩
    rcases hc with ⟨hk, _, _, he⟩ | ⟨hk, _, _, _, he⟩ | ⟨k, n, v, hk, _, _, _, _, he⟩ | ⟨C2, hk, _, _, _, _, he⟩
    · exact same (by simp [isActR, hr, hk]) he
    · exact same (by simp [isActR, hr, hk]) he
    · exact same (by simp [isActR, hr, hk]) he
    · have hact : isActR rs i = true := by simp [isActR, hr, hk]
      rw [he]
      refine ⟨fun j => ?_, fun j => ?_⟩
      · have := ih1 j
        simp only at this ⊢
        rw [bit_lor, this, Nat.testBit_two_pow]
        by_cases hj : j = i
        · subst hj; simp [hact]
        · have e1 : decide (j < i + 1) = decide (j < i) := by rw [Bool.eq_iff_iff]; simp; omega
          have e2 : decide (i = j) = false := by simp; omega
          rw [e1, e2, Bool.or_false]
      · have := ih2 j
        simp only at this ⊢
        rw [bit_lor, Bool.or_eq_true, this]
        constructor
        · rintro (⟨a, h1, h2, h3⟩ | h)
          · exact ⟨a, by omega, h2, h3⟩
          · exact ⟨i, by omega, hact, h⟩
        · rintro ⟨a, h1, h2, h3⟩
          by_cases ha : a = i
          · subst ha; exact .inr h3
          · exact .inl ⟨a, by omega, h2, h3⟩

/-- Where no act stands between, memory is the same. -/
theorem st_const (hL : Laid P call ops bm n0 rs fin 0) (hlen : rs.length = ops.size) (a : Nat) : ∀ n, a + n ≤ ops.size → (∀ j, a ≤ j → j < a + n → isActR rs j = false) → (stAt rs fin (a + n)).2 = (stAt rs fin a).2
  | 0, _, _ => rfl
  | n + 1, hn, hna => by
    have ih := st_const hL hlen a n (by omega) (fun j h1 h2 => hna j h1 (by omega))
    have ho := Array.getElem?_eq_getElem (xs := ops) (i := a + n) (by omega)
    have hr := List.getElem?_eq_getElem (l := rs) (i := a + n) (by omega)
    obtain ⟨f2, hput, hc⟩ := hL.each (a + n) _ _ (Nat.zero_le _) ho hr
    rw [← ih, stAt_get hr]
    have hact := hna (a + n) (by omega) (by omega)
    generalize rs[a + n] = r at hr hput hc
    rcases hc with ⟨hk, _, _, he⟩ | ⟨hk, _, _, _, he⟩ | ⟨k, m, v, hk, _, _, _, _, he⟩ | ⟨C2, hk, _, _, _, _, he⟩
    · rw [show a + (n + 1) = a + n + 1 by omega, he]
    · rw [show a + (n + 1) = a + n + 1 by omega, he]
    · rw [show a + (n + 1) = a + n + 1 by omega, he]
    · simp [isActR, hr, hk] at hact

/-- The masks. -/
theorem maskOf_bit {bm' : T Nat} {o : Oper} {j : Nat} (h : Nat.testBit (maskOf bm' o) j = true) : ∃ e, e ∈ o.after ∧ Region.binds .any e = true ∧ (j = e.on ∨ Nat.testBit (bm'.get e.on) j = true) := by
  unfold maskOf at h
  have key : ∀ (l : List Edge) (s : Nat), Nat.testBit (l.foldl (fun s e => match Region.binds .any e with
      | true => Nat.lor (Nat.lor s (2 ^ e.on)) (bm'.get e.on)
      | false => s) s) j = true → Nat.testBit s j = true ∨ ∃ e, e ∈ l ∧ Region.binds .any e = true ∧ (j = e.on ∨ Nat.testBit (bm'.get e.on) j = true) := by
    intro l
    induction l with
    | nil => intro s h; exact .inl h
    | cons e l ih =>
      intro s h
      rw [List.foldl_cons] at h
      rcases ih _ h with h | ⟨e', h1, h2, h3⟩
      · split at h
        · rename_i hb
          rw [bit_lor, bit_lor, Nat.testBit_two_pow] at h
          simp only [Bool.or_eq_true, decide_eq_true_eq] at h
          rcases h with (h | h) | h
          · exact .inl h
          · exact .inr ⟨e, by simp, hb, .inl h.symm⟩
          · exact .inr ⟨e, by simp, hb, .inr h⟩
        · exact .inl h
      · exact .inr ⟨e', by simp [h1], h2, h3⟩
  rcases key _ _ h with h | ⟨e, h1, h2, h3⟩
  · simp at h
  · exact ⟨e, by simpa using h1, h2, h3⟩

theorem masks_get : ∀ (l : List Oper) (i : Nat) (b : T Nat), i + l.length ≤ 512 → (∀ j, i ≤ j → j < 512 → b.get j = 0) → ∀ k o, l[k]? = some o → ∃ b' : T Nat, (masks l i b).get (i + k) = maskOf b' o ∧ ∀ j, j < 512 → b'.get j = if j < i + k then (masks l i b).get j else 0 := by
  have low : ∀ (l : List Oper) (i : Nat) (b : T Nat), i + l.length ≤ 512 → ∀ j, j < i → (masks l i b).get j = b.get j := by
    intro l
    induction l with
    | nil => intro i b _ j _; rfl
    | cons o l ih =>
      intro i b hl j hj
      simp only [List.length_cons] at hl
      rw [masks, ih (i + 1) _ (by omega) j (by omega), T.get_set_lt (d := 9) (by omega) (by omega), if_neg (by omega)]
  intro l
  induction l with
  | nil => intro i b _ _ k o h; simp at h
  | cons x l ih =>
    intro i b hl hb k o h
    simp only [List.length_cons] at hl
    cases k with
    | zero =>
      simp only [List.getElem?_cons_zero, Option.some.injEq] at h
      subst h
      refine ⟨b, ?_, fun j hj => ?_⟩
      · show (masks l (i + 1) (T.set 9 b i (maskOf b x))).get i = _
        rw [low l (i + 1) _ (by omega) i (by omega), T.get_set_lt (d := 9) (by omega) (by omega), if_pos rfl]
      · rw [Nat.add_zero]
        split
        · rename_i hji
          rw [low (x :: l) i b (by simp only [List.length_cons]; omega) j hji]
        · exact hb j (by omega) hj
    | succ k =>
      obtain ⟨b', h1, h2⟩ := ih (i + 1) (T.set 9 b i (maskOf b x)) (by omega) (fun j h1 h2 => by
        rw [T.get_set_lt (d := 9) (by omega) (by omega), if_neg (by omega)]; exact hb j (by omega) h2) k o (by simpa using h)
      refine ⟨b', ?_, fun j hj => ?_⟩
      · rw [masks, show i + (k + 1) = i + 1 + k by omega]; exact h1
      · rw [h2 j hj, masks, show i + (k + 1) = i + 1 + k by omega]

/-- Is all that must stand ahead of what was done, done? -/
def ClosedS (ops : Array Oper) (S : Nat → Bool) : Prop := ∀ i o, S i = true → ops[i]? = some o → ∀ e, e ∈ o.after → Region.binds .any e = true → S e.on = true
theorem mask_closed (hm : ops.size ≤ 512) {S : Nat → Bool} (hS : ClosedS ops S) (hb : ∀ i, S i = true → i < ops.size) : ∀ (n i : Nat) (o : Oper), i < n → ops[i]? = some o → (∀ e, e ∈ o.after → Region.binds .any e = true → S e.on = true) → ∀ j, Nat.testBit ((maskTree ops).get i) j = true → S j = true
  | 0, i, o, hi, _, _, _, _ => by omega
  | n + 1, i, o, hi, ho, hready, j, hj => by
    obtain ⟨b', h1, h2⟩ := masks_get ops.toList 0 (.leaf 0) (by simpa using hm) (fun j _ _ => rfl) i o (by simpa using ho)
    rw [Nat.zero_add] at h1
    have hj' : Nat.testBit (maskOf b' o) j = true := by rw [← h1]; exact hj
    obtain ⟨e, he1, he2, he3⟩ := maskOf_bit hj'
    have hSe := hready e he1 he2
    rcases he3 with he3 | he3
    · rw [he3]; exact hSe
    · by_cases hlt : e.on < 512
      · rw [h2 e.on hlt] at he3
        split at he3
        · rename_i hon
          cases hoe : ops[e.on]? with
          | none =>
            have := Array.getElem?_eq_none_iff.1 hoe
            have := (Array.getElem?_eq_some_iff.1 ho).1
            omega
          | some o' => exact mask_closed hm hS hb n e.on o' (by omega) hoe (hS e.on o' hSe hoe) j he3
        · simp at he3
      · have := hb _ hSe; omega

/-- Of two operations one stands ahead of the other, or neither looks at what the other makes. -/
theorem orderly_spec (h : orderly ops = true) : ops.size ≤ 256 ∧ (∀ i, i < ops.size → (maskTree ops).get i < 2 ^ i) ∧
    ∀ i j oi oj, j < i → ops[i]? = some oi → ops[j]? = some oj → Nat.testBit ((maskTree ops).get i) j = true ∨ oj.apart ops oi = true := by
  unfold orderly at h
  rw [Bool.and_eq_true] at h
  obtain ⟨h1, h2⟩ := h
  refine ⟨Nat.le_of_ble_eq_true h2, ?_⟩
  have inner : ∀ (mask : Nat) (o : Oper) (l : List Oper) (k : Nat), orderlyAt ops mask o l k = true → ∀ j x, l[j]? = some x → Nat.testBit mask (k + j) = true ∨ x.apart ops o = true := by
    intro mask o l
    induction l with
    | nil => intro k _ j x h; simp at h
    | cons y l ih =>
      intro k h j x hx
      rw [orderlyAt, Bool.and_eq_true] at h
      cases j with
      | zero =>
        simp only [List.getElem?_cons_zero, Option.some.injEq] at hx
        subst hx
        simpa using h.1
      | succ j =>
        have := ih (k + 1) h.2 j x (by simpa using hx)
        rw [show k + (j + 1) = k + 1 + j by omega]; exact this
  have outer : ∀ (l seen : List Oper), orderlyFrom ops (maskTree ops) l seen.length seen = true → ∀ k o, l[k]? = some o → (maskTree ops).get (seen.length + k) < 2 ^ (seen.length + k) ∧
      ∀ j x, j < seen.length + k → (seen ++ l)[j]? = some x → Nat.testBit ((maskTree ops).get (seen.length + k)) j = true ∨ x.apart ops o = true := by
    intro l
    induction l with
    | nil => intro seen _ k o h; simp at h
    | cons y l ih =>
      intro seen h k o ho
      rw [orderlyFrom, Bool.and_eq_true, Bool.and_eq_true] at h
      obtain ⟨⟨a1, a2⟩, a3⟩ := h
      cases k with
      | zero =>
        simp only [List.getElem?_cons_zero, Option.some.injEq] at ho
        subst ho
        refine ⟨bl a1, fun j x hj hx => ?_⟩
        rw [Nat.add_zero] at hj ⊢
        rw [List.getElem?_append_left hj] at hx
        have := inner _ _ _ 0 a2 j x hx
        simpa using this
      | succ k =>
        have := ih (seen ++ [y]) (by simpa using a3) k o (by simpa using ho)
        simp only [List.length_append, List.length_singleton] at this
        rw [show seen.length + (k + 1) = seen.length + 1 + k by omega]
        refine ⟨this.1, fun j x hj hx => this.2 j x hj ?_⟩
        simpa using hx
  have := outer ops.toList [] h1
  refine ⟨fun i hi => ?_, fun i j oi oj hji hi hj => ?_⟩
  · have := (this i _ (by rw [Array.getElem?_toList]; exact Array.getElem?_eq_getElem hi)).1
    simpa using this
  · have := (this i oi (by simpa using hi)).2 j oj (by simpa using hji) (by simpa using hj)
    simpa using this
end
end Ev
end Go.Proofs.YtikmamcbngbipaaGreatDoor
