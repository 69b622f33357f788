/- The document's double is the program's; a row of blocks grows by one. -/
import Derived.Test.YtkbkobekndfapaaXp
namespace Go.Proofs.Ytkbkobekndfapaa

theorem xdFold (t : List Nat) (ht : t.length = 16) : ∀ n, n ≤ 15 → (foldUp xdStep t n).length = 16 ∧ ∀ j, (foldUp xdStep t n).getD j 0 = if 16 - n ≤ j ∧ j < 16 then t.getD j 0 * 2 % 256 ||| t.getD (j - 1) 0 / 128 else t.getD j 0 := by
  intro n
  induction n with
  | zero => intro _; rw [foldUp_zero]; exact ⟨ht, fun j => by rw [if_neg (by omega)]⟩
  | succ n ih =>
    intro hn
    obtain ⟨h1, h2⟩ := ih (by omega)
    rw [foldUp_succ, xdStep_def]
    refine ⟨by rw [List.length_set, h1], fun j => ?_⟩
    rw [getD_set, h2 j, h2 (15 - n), h2 (14 - n), h1]
    by_cases e : 15 - n = j
    · subst e
      rw [if_pos ⟨rfl, by omega⟩, if_neg (by omega), if_neg (by omega), if_pos (by omega), show 15 - n - 1 = 14 - n by omega]
    · rw [if_neg (fun h => e h.1)]
      by_cases h3 : 16 - n ≤ j ∧ j < 16
      · rw [if_pos h3, if_pos (by omega)]
      · rw [if_neg h3, if_neg (by omega)]
theorem xdbl_get (t : List Nat) (ht : t.length = 16) (j : Nat) (hj : j < 16) : (xdbl t).getD j 0 = if j = 0 then xdFirst (t.getD 0 0) (t.getD 15 0 / 128) else t.getD j 0 * 2 % 256 ||| t.getD (j - 1) 0 / 128 := by
  obtain ⟨h1, h2⟩ := xdFold t ht 15 (by omega)
  rw [xdbl_def, getD_set, h2 0, h1, h2 j]
  by_cases e : j = 0
  · subst e
    rw [if_pos ⟨rfl, by omega⟩, if_neg (by omega), if_pos rfl]
  · rw [if_neg (fun h => e h.1.symm), if_pos (by omega), if_neg e]
theorem xdbl_len (t : List Nat) (ht : t.length = 16) : (xdbl t).length = 16 := by rw [xdbl_def, List.length_set, (xdFold t ht 15 (by omega)).1]
/-- The document's way. -/
def rdCarry (t : List Nat) (i : Nat) : Nat := if i = 0 then 0 else t.getD (i - 1) 0 / 128
def rdStep (t l : List Nat) (i : Nat) : List Nat := l.set i (t.getD i 0 * 2 % 256 ||| rdCarry t i)
theorem rdStep_def (t l : List Nat) (i : Nat) : rdStep t l i = l.set i (t.getD i 0 * 2 % 256 ||| rdCarry t i) := rfl
theorem rdCarry_succ (t : List Nat) (i : Nat) : rdCarry t (i + 1) = t.getD i 0 / 128 := by unfold rdCarry; rw [if_neg (by omega)]; rfl
theorem rdCarry_zero (t : List Nat) : rdCarry t 0 = 0 := by unfold rdCarry; rw [if_pos rfl]
theorem rdCarry_lt {n : Nat} {t : List Nat} (h : Bytes n t) (i : Nat) : rdCarry t i < 2 := by
  unfold rdCarry
  split
  · omega
  · have := h.get (i - 1); omega
theorem rdStep_bytes {n m : Nat} {t l : List Nat} (ht : Bytes m t) (h : Bytes n l) (i : Nat) : Bytes n (rdStep t l i) := h.set _ (or_lt _ _ (by omega) (by have := rdCarry_lt ht i; omega))
theorem rdFold (t l : List Nat) (hl : l.length = 16) : ∀ n, n ≤ 16 → (foldUp (rdStep t) l n).length = 16 ∧ ∀ j, (foldUp (rdStep t) l n).getD j 0 = if j < n then t.getD j 0 * 2 % 256 ||| rdCarry t j else l.getD j 0 := by
  intro n
  induction n with
  | zero => intro _; rw [foldUp_zero]; exact ⟨hl, fun j => by rw [if_neg (by omega)]⟩
  | succ n ih =>
    intro hn
    obtain ⟨h1, h2⟩ := ih (by omega)
    rw [foldUp_succ, rdStep_def]
    refine ⟨by rw [List.length_set, h1], fun j => ?_⟩
    rw [getD_set, h2 j, h1]
    by_cases e : n = j
    · subst e
      rw [if_pos ⟨rfl, by omega⟩, if_pos (by omega)]
    · rw [if_neg (fun h => e h.1)]
      by_cases h3 : j < n
      · rw [if_pos h3, if_pos (by omega)]
      · rw [if_neg h3, if_neg (by omega)]
theorem rd_one {t : List Nat} (ht : Bytes 16 t) (h : t.getD 15 0 / 128 = 1) : (foldUp (rdStep t) (noughts 16) 16).set 0 ((foldUp (rdStep t) (noughts 16) 16).getD 0 0 ^^^ 135) = xdbl t := by
  obtain ⟨h1, h2⟩ := rdFold t (noughts 16) (noughts_bytes 16).1 16 (by omega)
  apply list_ext16 (by rw [List.length_set, h1]) (xdbl_len t ht.1)
  intro j hj
  rw [getD_set, h2 j, h2 0, h1, xdbl_get t ht.1 j hj, if_pos hj, if_pos (show 0 < 16 by omega), rdCarry_zero]
  by_cases e : j = 0
  · subst e
    rw [if_pos ⟨rfl, by omega⟩, if_pos rfl, h]
    unfold xdFirst
    rw [Nat.or_zero]
  · rw [if_neg (fun h => e h.1.symm), if_neg e]
    unfold rdCarry
    rw [if_neg e]
theorem rd_none {t : List Nat} (ht : Bytes 16 t) (h : t.getD 15 0 / 128 = 0) : foldUp (rdStep t) (noughts 16) 16 = xdbl t := by
  obtain ⟨h1, h2⟩ := rdFold t (noughts 16) (noughts_bytes 16).1 16 (by omega)
  apply list_ext16 h1 (xdbl_len t ht.1)
  intro j hj
  rw [h2 j, xdbl_get t ht.1 j hj, if_pos hj]
  by_cases e : j = 0
  · subst e
    rw [if_pos rfl, h, rdCarry_zero]
    unfold xdFirst
    rw [Nat.or_zero, Nat.zero_mul, Nat.xor_zero]
  · rw [if_neg e]
    unfold rdCarry
    rw [if_neg e]
attribute [irreducible] rdStep rdCarry

theorem flatKey_append {l x : List Nat} {m : Nat} (hl : l.length = 16 * m) (hx : x.length = 16) : flatKey (l ++ x) m = x := by
  apply list_ext16 (flatKey_len _ _) hx
  intro j hj
  rw [flatKey_get _ _ _ hj]
  simp only [List.getD]
  rw [List.getElem?_append_right (by omega), hl, Nat.add_sub_cancel_left]
theorem flatKey_append_other {l x : List Nat} {m k : Nat} (hl : l.length = 16 * m) (hk : k < m) : flatKey (l ++ x) k = flatKey l k := by
  apply list_ext16 (flatKey_len _ _) (flatKey_len _ _)
  intro j hj
  rw [flatKey_get _ _ _ hj, flatKey_get _ _ _ hj]
  simp only [List.getD]
  rw [List.getElem?_append_left (by omega)]
/-- A block xored with the tweak, byte for byte. -/
def rbStep (data t : List Nat) (at_ : Nat) (l : List Nat) (i : Nat) : List Nat := l.set i (data.getD (at_ + i) 0 ^^^ t.getD i 0)
theorem rbStep_def (data t : List Nat) (at_ : Nat) (l : List Nat) (i : Nat) : rbStep data t at_ l i = l.set i (data.getD (at_ + i) 0 ^^^ t.getD i 0) := rfl
theorem rbStep_bytes {n m : Nat} {data t l : List Nat} {at_ : Nat} (hd : ∀ x ∈ data, x < 256) (ht : Bytes m t) (h : Bytes n l) (i : Nat) : Bytes n (rbStep data t at_ l i) := h.set _ (xor_lt _ _ (getD_lt hd _) (ht.get _))
theorem rbFold (data t l : List Nat) (at_ : Nat) (hl : l.length = 16) : ∀ n, n ≤ 16 → (foldUp (rbStep data t at_) l n).length = 16 ∧ ∀ j, (foldUp (rbStep data t at_) l n).getD j 0 = if j < n then data.getD (at_ + j) 0 ^^^ t.getD j 0 else l.getD j 0 := by
  intro n
  induction n with
  | zero => intro _; rw [foldUp_zero]; exact ⟨hl, fun j => by rw [if_neg (by omega)]⟩
  | succ n ih =>
    intro hn
    obtain ⟨h1, h2⟩ := ih (by omega)
    rw [foldUp_succ, rbStep_def]
    refine ⟨by rw [List.length_set, h1], fun j => ?_⟩
    rw [getD_set, h2 j, h1]
    by_cases e : n = j
    · subst e
      rw [if_pos ⟨rfl, by omega⟩, if_pos (by omega)]
    · rw [if_neg (fun h => e h.1)]
      by_cases h3 : j < n
      · rw [if_pos h3, if_pos (by omega)]
      · rw [if_neg h3, if_neg (by omega)]
theorem rb_eq (data t : List Nat) (m : Nat) : foldUp (rbStep data t (16 * m)) (noughts 16) 16 = xorS (flatKey data m) t := by
  obtain ⟨h1, h2⟩ := rbFold data t (noughts 16) (16 * m) (noughts_bytes 16).1 16 (by omega)
  apply list_ext16 h1 (xorS_len _ _ (flatKey_len _ _))
  intro j hj
  rw [h2 j, if_pos hj, xorS_get _ _ (flatKey_len _ _) _ hj, flatKey_get _ _ _ hj]
attribute [irreducible] rbStep
/-- The bytes appended, one by one. -/
def raStep (b t l : List Nat) (i : Nat) : List Nat := l ++ [b.getD i 0 ^^^ t.getD i 0]
theorem raStep_def (b t l : List Nat) (i : Nat) : raStep b t l i = l ++ [b.getD i 0 ^^^ t.getD i 0] := rfl
theorem raFold (b t l : List Nat) (hb : b.length = 16) : ∀ n, n ≤ 16 → foldUp (raStep b t) l n = l ++ (xorS b t).take n := by
  intro n
  induction n with
  | zero => intro _; rw [foldUp_zero]; simp
  | succ n ih =>
    intro hn
    rw [foldUp_succ, ih (by omega), raStep_def, List.append_assoc, ← xorS_get b t hb n (by omega)]
    congr 1
    have hl := xorS_len b t hb
    rw [List.take_succ_eq_append_getElem (by omega)]
    simp [List.getD, hl, show n < 16 by omega]
theorem ra_eq (b t l : List Nat) (hb : b.length = 16) : foldUp (raStep b t) l 16 = l ++ xorS b t := by
  rw [raFold b t l hb 16 (by omega), List.take_of_length_le (by rw [xorS_len b t hb]; omega)]
attribute [irreducible] raStep
end Go.Proofs.Ytkbkobekndfapaa
