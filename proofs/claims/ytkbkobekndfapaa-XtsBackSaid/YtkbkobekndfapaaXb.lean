/- XTS in plain Lean: tweaks, blocks, what is sealed. -/
import Derived.Test.YtkbkobekndfapaaXa
import Derived.Test.YtkbkobekndfapaaX
import Derived.Test.YtkbkobekndfapaaQ
namespace Go.Proofs.Ytkbkobekndfapaa

theorem getD_set (l : List Nat) (i j x : Nat) : (l.set i x).getD j 0 = if i = j ∧ i < l.length then x else l.getD j 0 := by
  by_cases h : i = j
  · subst h
    by_cases hl : i < l.length
    · simp [List.getD, hl]
    · simp [List.getD, hl]
  · simp [List.getD, h]
theorem xorStep_def (k s : List Nat) (i : Nat) : xorStep k s i = s.set i (s.getD i 0 ^^^ k.getD i 0) := rfl
theorem xorS_fold (s k : List Nat) (hs : s.length = 16) : ∀ n, n ≤ 16 → (foldUp (xorStep k) s n).length = 16 ∧ ∀ j, (foldUp (xorStep k) s n).getD j 0 = if j < n then s.getD j 0 ^^^ k.getD j 0 else s.getD j 0 := by
  intro n
  induction n with
  | zero => intro _; rw [foldUp_zero]; exact ⟨hs, fun j => by simp⟩
  | succ n ih =>
    intro hn
    obtain ⟨h1, h2⟩ := ih (by omega)
    rw [foldUp_succ, xorStep_def]
    refine ⟨by rw [List.length_set, h1], fun j => ?_⟩
    rw [getD_set, h2 j, h2 n, h1]
    by_cases e : n = j
    · subst e
      rw [if_pos ⟨rfl, by omega⟩, if_neg (by omega), if_pos (by omega)]
    · rw [if_neg (fun h => e h.1)]
      by_cases h3 : j < n
      · rw [if_pos h3, if_pos (by omega)]
      · rw [if_neg h3, if_neg (by omega)]
theorem xorS_get (s k : List Nat) (hs : s.length = 16) (j : Nat) (hj : j < 16) : (xorS s k).getD j 0 = s.getD j 0 ^^^ k.getD j 0 := by
  rw [xorS_eq, (xorS_fold s k hs 16 (by omega)).2 j, if_pos hj]
theorem xorS_len (s k : List Nat) (hs : s.length = 16) : (xorS s k).length = 16 := by rw [xorS_eq]; exact (xorS_fold s k hs 16 (by omega)).1
theorem xorAt_fold (l t : List Nat) (a : Nat) (hl : a + 16 ≤ l.length) : ∀ n, n ≤ 16 → (foldUp (xaStep a t) l n).length = l.length ∧ ∀ j, (foldUp (xaStep a t) l n).getD j 0 = if a ≤ j ∧ j < a + n then l.getD j 0 ^^^ t.getD (j - a) 0 else l.getD j 0 := by
  intro n
  induction n with
  | zero => intro _; rw [foldUp_zero]; exact ⟨rfl, fun j => by rw [if_neg (by omega)]⟩
  | succ n ih =>
    intro hn
    obtain ⟨h1, h2⟩ := ih (by omega)
    rw [foldUp_succ, xaStep_def]
    refine ⟨by rw [List.length_set, h1], fun j => ?_⟩
    rw [getD_set, h2 j, h2 (a + n), h1]
    by_cases e : a + n = j
    · subst e
      rw [if_pos ⟨rfl, by omega⟩, if_neg (by omega), if_pos (by omega), Nat.add_sub_cancel_left]
    · rw [if_neg (fun h => e h.1)]
      by_cases h3 : a ≤ j ∧ j < a + n
      · rw [if_pos h3, if_pos (by omega)]
      · rw [if_neg h3, if_neg (by omega)]
theorem xorAt_get (l t : List Nat) (a : Nat) (hl : a + 16 ≤ l.length) (j : Nat) : (xorAt l a t).getD j 0 = if a ≤ j ∧ j < a + 16 then l.getD j 0 ^^^ t.getD (j - a) 0 else l.getD j 0 := by
  rw [xorAt_def]; exact (xorAt_fold l t a hl 16 (by omega)).2 j
theorem xorAt_len (l t : List Nat) (a : Nat) (hl : a + 16 ≤ l.length) : (xorAt l a t).length = l.length := by rw [xorAt_def]; exact (xorAt_fold l t a hl 16 (by omega)).1
theorem list_ext16 {a b : List Nat} (ha : a.length = 16) (hb : b.length = 16) (h : ∀ j, j < 16 → a.getD j 0 = b.getD j 0) : a = b := by
  apply List.ext_getElem (by omega)
  intro i h1 h2
  have := h i (by omega)
  simpa [List.getD, h1, h2] using this
theorem flatKey_len (l : List Nat) (k : Nat) : (flatKey l k).length = 16 := by unfold flatKey; simp
theorem flatKey_xor (l t : List Nat) (m : Nat) (hl : 16 * m + 16 ≤ l.length) : flatKey (xorAt l (16 * m) t) m = xorS (flatKey l m) t := by
  apply list_ext16 (flatKey_len _ _) (xorS_len _ _ (flatKey_len _ _))
  intro j hj
  rw [flatKey_get _ _ _ hj, xorAt_get _ _ _ hl, if_pos (by omega), xorS_get _ _ (flatKey_len _ _) _ hj, flatKey_get _ _ _ hj, Nat.add_sub_cancel_left]
theorem flatKey_xor_other (l t : List Nat) (m k : Nat) (hl : 16 * m + 16 ≤ l.length) (h : k ≠ m) : flatKey (xorAt l (16 * m) t) k = flatKey l k := by
  apply list_ext16 (flatKey_len _ _) (flatKey_len _ _)
  intro j hj
  rw [flatKey_get _ _ _ hj, xorAt_get _ _ _ hl, if_neg (by omega), flatKey_get _ _ _ hj]
/-- A block put into a list. -/
def putAt (l : List Nat) (a : Nat) (x : List Nat) : List Nat := l.take a ++ x ++ l.drop (a + 16)
theorem putAt_len (l x : List Nat) (a : Nat) (hl : a + 16 ≤ l.length) (hx : x.length = 16) : (putAt l a x).length = l.length := by unfold putAt; simp [hx]; omega
theorem putAt_get (l x : List Nat) (a : Nat) (hl : a + 16 ≤ l.length) (hx : x.length = 16) (j : Nat) : (putAt l a x).getD j 0 = if a ≤ j ∧ j < a + 16 then x.getD (j - a) 0 else l.getD j 0 := by
  unfold putAt
  by_cases h1 : j < a
  · rw [if_neg (by omega)]
    simp only [List.getD, List.append_assoc]
    rw [List.getElem?_append_left (by simp; omega), List.getElem?_take, if_pos h1]
  · by_cases h2 : j < a + 16
    · rw [if_pos (by omega)]
      simp only [List.getD, List.append_assoc]
      rw [List.getElem?_append_right (by simp; omega), List.getElem?_append_left (by simp; omega)]
      simp [show min a l.length = a by omega]
    · rw [if_neg (by omega)]
      simp only [List.getD, List.append_assoc]
      rw [List.getElem?_append_right (by simp; omega), List.getElem?_append_right (by simp; omega), List.getElem?_drop]
      simp [show min a l.length = a by omega, hx, show a + 16 + (j - a - 16) = j by omega]
theorem putAt_lt {l x : List Nat} {a : Nat} (hl : ∀ y ∈ l, y < 256) (hx : ∀ y ∈ x, y < 256) : ∀ y ∈ putAt l a x, y < 256 := by
  intro y hy
  unfold putAt at hy
  simp only [List.mem_append] at hy
  rcases hy with (h | h) | h
  · exact hl y (List.mem_of_mem_take h)
  · exact hx y h
  · exact hl y (List.mem_of_mem_drop h)
theorem flatKey_put (l x : List Nat) (m : Nat) (hl : 16 * m + 16 ≤ l.length) (hx : x.length = 16) : flatKey (putAt l (16 * m) x) m = x := by
  apply list_ext16 (flatKey_len _ _) hx
  intro j hj
  rw [flatKey_get _ _ _ hj, putAt_get _ _ _ hl hx, if_pos (by omega), Nat.add_sub_cancel_left]
theorem flatKey_put_other (l x : List Nat) (m k : Nat) (hl : 16 * m + 16 ≤ l.length) (hx : x.length = 16) (h : k ≠ m) : flatKey (putAt l (16 * m) x) k = flatKey l k := by
  apply list_ext16 (flatKey_len _ _) (flatKey_len _ _)
  intro j hj
  rw [flatKey_get _ _ _ hj, putAt_get _ _ _ hl hx, if_neg (by omega), flatKey_get _ _ _ hj]
theorem flat_ext {a b : List Nat} {k : Nat} (ha : a.length = 16 * k) (hb : b.length = 16 * k) (h : ∀ m, m < k → flatKey a m = flatKey b m) : a = b := by
  apply List.ext_getElem (by omega)
  intro i h1 h2
  have e := h (i / 16) (by omega)
  have e1 := flatKey_get a (i / 16) (i % 16) (Nat.mod_lt _ (by omega))
  have e2 := flatKey_get b (i / 16) (i % 16) (Nat.mod_lt _ (by omega))
  rw [e, e2, Nat.div_add_mod] at e1
  simpa [List.getD, h1, h2] using e1.symm

/-- The tweak of block m. -/
def twk (t0 : List Nat) (m : Nat) : List Nat := foldUp (fun t _ => xdbl t) t0 m
theorem twk_zero (t0 : List Nat) : twk t0 0 = t0 := by unfold twk; rw [foldUp_zero]
theorem twk_succ (t0 : List Nat) (m : Nat) : twk t0 (m + 1) = xdbl (twk t0 m) := by unfold twk; rw [foldUp_succ]
theorem twk_bytes {t0 : List Nat} (h : Bytes 16 t0) (m : Nat) : Bytes 16 (twk t0 m) := by
  induction m with
  | zero => rw [twk_zero]; exact h
  | succ m ih => rw [twk_succ]; exact xdbl_bytes ih
/-- One block, between its tweaks. -/
def oneB (f : List Nat → List Nat) (t x : List Nat) : List Nat := xorS (f (xorS x t)) t
theorem oneB_def (f : List Nat → List Nat) (t x : List Nat) : oneB f t x = xorS (f (xorS x t)) t := rfl
theorem xorS_undo {x t : List Nat} (hx : x.length = 16) : xorS (xorS x t) t = x := by
  apply list_ext16 (xorS_len _ _ (xorS_len _ _ hx)) hx
  intro j hj
  rw [xorS_get _ _ (xorS_len _ _ hx) _ hj, xorS_get _ _ hx _ hj, Nat.xor_assoc, Nat.xor_self, Nat.xor_zero]
theorem oneB_back {f g : List Nat → List Nat} {t x : List Nat} (ht : Bytes 16 t) (hx : Bytes 16 x) (hf : ∀ y, Bytes 16 y → Bytes 16 (f y)) (h : ∀ y, Bytes 16 y → g (f y) = y) : oneB g t (oneB f t x) = x := by
  unfold oneB
  have h1 := xorS_bytes ht hx
  rw [xorS_undo (hf _ h1).1, h _ h1, xorS_undo hx.1]
theorem oneB_bytes {f : List Nat → List Nat} {t x : List Nat} (ht : Bytes 16 t) (hx : Bytes 16 x) (hf : ∀ y, Bytes 16 y → Bytes 16 (f y)) : Bytes 16 (oneB f t x) := xorS_bytes ht (hf _ (xorS_bytes ht hx))
/-- What is sealed (or opened): block for block. -/
structure Sealed (f : List Nat → List Nat) (t0 data r : List Nat) : Prop where
  size : r.length = data.length
  ok : ∀ x ∈ r, x < 256
  block : ∀ m, m < data.length / 16 → flatKey r m = oneB f (twk t0 m) (flatKey data m)
theorem Sealed.same {f : List Nat → List Nat} {t0 data r r' : List Nat} (h : Sealed f t0 data r) (h' : Sealed f t0 data r') (hd : data.length % 16 = 0) : r = r' :=
  flat_ext (k := data.length / 16) (by rw [h.size]; omega) (by rw [h'.size]; omega) fun m hm => by rw [h.block m hm, h'.block m hm]
theorem Sealed.back {f g : List Nat → List Nat} {t0 data r r' : List Nat} (ht : Bytes 16 t0) (hdb : ∀ x ∈ data, x < 256) (h : Sealed f t0 data r) (h' : Sealed g t0 r r') (hd : data.length % 16 = 0) (hf : ∀ y, Bytes 16 y → Bytes 16 (f y)) (hg : ∀ y, Bytes 16 y → g (f y) = y) : r' = data :=
  flat_ext (k := data.length / 16) (by rw [h'.size, h.size]; omega) (by omega) fun m hm => by
    rw [h'.block m (by rw [h.size]; exact hm), h.block m hm]
    exact oneB_back (twk_bytes ht m) (flatKey_bytes hdb m) hf hg
attribute [irreducible] putAt twk oneB
end Go.Proofs.Ytkbkobekndfapaa
