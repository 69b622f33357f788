/- The round keys, byte by byte: what New and the document's Keys make. -/
import Derived.Test.YtkbkobekndfapaaN
namespace Go.Proofs.Ytkbkobekndfapaa

/-- Four bytes that come behind word i: the last word, turned as i asks. -/
def turnW (N i : Nat) (p : Nat) (a b c d : Nat) : List Nat :=
  if i % N = 0 then [sbox b ^^^ p, sbox c, sbox d, sbox a] else if N = 8 ∧ i % 8 = 4 then [sbox a, sbox b, sbox c, sbox d] else [a, b, c, d]
def wordAt (N i : Nat) (l : List Nat) (p : Nat) : List Nat := turnW N i p (l.getD (4 * i - 4) 0) (l.getD (4 * i - 3) 0) (l.getD (4 * i - 2) 0) (l.getD (4 * i - 1) 0)
/-- The first k bytes of word i. -/
def someB (N i : Nat) (l t : List Nat) (k : Nat) : List Nat := (List.range k).map fun k => l.getD (4 * (i - N) + k) 0 ^^^ t.getD k 0
def expStep (N : Nat) (st : List Nat × Nat) (j : Nat) : List Nat × Nat :=
  (st.1 ++ someB N (N + j) st.1 (wordAt N (N + j) st.1 st.2) 4, if (N + j) % N = 0 then dbl st.2 else st.2)
def expSt (N : Nat) (key : List Nat) (j : Nat) : List Nat × Nat := foldUp (expStep N) (key, 1) j
/-- All round keys' bytes. -/
def expand (N : Nat) (key : List Nat) : List Nat := (expSt N key (3 * N + 28)).1
theorem expSt_zero (N : Nat) (key : List Nat) : expSt N key 0 = (key, 1) := by unfold expSt; rw [foldUp_zero]
theorem expSt_succ (N : Nat) (key : List Nat) (j : Nat) : expSt N key (j + 1) = expStep N (expSt N key j) j := foldUp_succ _ _ _
theorem turnW_bytes {N i p a b c d : Nat} (hp : p < 256) (ha : a < 256) (hb : b < 256) (hc : c < 256) (hd : d < 256) : Bytes 4 (turnW N i p a b c d) := by
  unfold turnW
  split
  · exact ⟨rfl, by simp only [List.mem_cons, List.not_mem_nil, or_false, forall_eq_or_imp, forall_eq]; exact ⟨xor_lt _ _ (sbox_lt _) hp, sbox_lt _, sbox_lt _, sbox_lt _⟩⟩
  · split
    · exact ⟨rfl, by simp only [List.mem_cons, List.not_mem_nil, or_false, forall_eq_or_imp, forall_eq]; exact ⟨sbox_lt _, sbox_lt _, sbox_lt _, sbox_lt _⟩⟩
    · exact ⟨rfl, by simp only [List.mem_cons, List.not_mem_nil, or_false, forall_eq_or_imp, forall_eq]; exact ⟨ha, hb, hc, hd⟩⟩
theorem wordAt_bytes {N i p : Nat} {l : List Nat} (hp : p < 256) (hl : ∀ x ∈ l, x < 256) : Bytes 4 (wordAt N i l p) :=
  turnW_bytes hp (getD_lt hl _) (getD_lt hl _) (getD_lt hl _) (getD_lt hl _)
theorem someB_len (N i : Nat) (l t : List Nat) (k : Nat) : (someB N i l t k).length = k := by simp [someB]
theorem someB_zero (N i : Nat) (l t : List Nat) : someB N i l t 0 = [] := rfl
theorem someB_succ (N i : Nat) (l t : List Nat) (k : Nat) : someB N i l t (k + 1) = someB N i l t k ++ [l.getD (4 * (i - N) + k) 0 ^^^ t.getD k 0] := by simp [someB, List.range_succ]
theorem someB_lt {N i : Nat} {l t : List Nat} (hl : ∀ x ∈ l, x < 256) (ht : ∀ x ∈ t, x < 256) (k : Nat) : ∀ x ∈ someB N i l t k, x < 256 := by
  intro x hx
  simp only [someB, List.mem_map] at hx
  obtain ⟨k, _, rfl⟩ := hx
  exact xor_lt _ _ (getD_lt hl _) (getD_lt ht _)
theorem append_getD (l m : List Nat) (i : Nat) (h : i < l.length) : (l ++ m).getD i 0 = l.getD i 0 := by simp [List.getD, List.getElem?_append_left h]
theorem expSt_in {N : Nat} {key : List Nat} (hk : Bytes (4 * N) key) (j : Nat) : Bytes (4 * (N + j)) (expSt N key j).1 ∧ (expSt N key j).2 < 256 := by
  induction j with
  | zero => rw [expSt_zero]; exact ⟨hk, by show (1 : Nat) < 256; omega⟩
  | succ j ih =>
    obtain ⟨⟨h1, h2⟩, h3⟩ := ih
    rw [expSt_succ]
    refine ⟨⟨?_, ?_⟩, ?_⟩
    · show ((expSt N key j).1 ++ _).length = _
      rw [List.length_append, someB_len, h1]; omega
    · intro x hx
      rcases List.mem_append.1 hx with hx | hx
      · exact h2 x hx
      · exact someB_lt h2 (wordAt_bytes h3 h2).2 4 x hx
    · show (if (N + j) % N = 0 then dbl (expSt N key j).2 else (expSt N key j).2) < 256
      split
      · exact dbl_lt _ h3
      · exact h3
theorem expand_bytes {N : Nat} {key : List Nat} (hk : Bytes (4 * N) key) : Bytes (16 * (N + 7)) (expand N key) := by
  have h := (expSt_in hk (3 * N + 28)).1
  exact ⟨by show (expSt N key (3 * N + 28)).1.length = _; rw [h.1]; omega, h.2⟩
/-- The round key number k. -/
def flatKey (flat : List Nat) (k : Nat) : List Nat := (List.range 16).map fun i => flat.getD (16 * k + i) 0
theorem flatKey_bytes {flat : List Nat} (h : ∀ x ∈ flat, x < 256) (k : Nat) : Bytes 16 (flatKey flat k) :=
  ⟨by simp [flatKey], fun x hx => by
    simp only [flatKey, List.mem_map] at hx
    obtain ⟨i, _, rfl⟩ := hx
    exact getD_lt h _⟩
theorem flatKey_get (flat : List Nat) (k i : Nat) (hi : i < 16) : (flatKey flat k).getD i 0 = flat.getD (16 * k + i) 0 := by
  simp [flatKey, List.getD, hi]
/-- All round keys. -/
def keysOf (flat : List Nat) (n : Nat) : List (List Nat) := (List.range n).map (flatKey flat)
theorem keysOf_keys {flat : List Nat} (h : ∀ x ∈ flat, x < 256) (n : Nat) : Keys n (keysOf flat n) :=
  ⟨by simp [keysOf], fun k hk => by
    simp only [keysOf, List.mem_map] at hk
    obtain ⟨i, _, rfl⟩ := hk
    exact flatKey_bytes h i⟩
theorem keysOf_get (flat : List Nat) (n i : Nat) (hi : i < n) : (keysOf flat n).getD i [] = flatKey flat i := by simp [keysOf, List.getD, hi]
theorem keysOf_len (flat : List Nat) (n : Nat) : (keysOf flat n).length = n := by simp [keysOf]
theorem keysOf_succ (flat : List Nat) (n : Nat) : keysOf flat (n + 1) = keysOf flat n ++ [flatKey flat n] := by simp [keysOf, List.range_succ]
theorem turnW_0 {N i p a b c d : Nat} (h : i % N = 0) : turnW N i p a b c d = [sbox b ^^^ p, sbox c, sbox d, sbox a] := if_pos h
theorem turnW_4 {N i p a b c d : Nat} (h : ¬ i % N = 0) (h8 : N = 8) (h4 : i % 8 = 4) : turnW N i p a b c d = [sbox a, sbox b, sbox c, sbox d] := by unfold turnW; rw [if_neg h, if_pos ⟨h8, h4⟩]
theorem turnW_n {N i p a b c d : Nat} (h : ¬ i % N = 0) (hn : ¬ (N = 8 ∧ i % 8 = 4)) : turnW N i p a b c d = [a, b, c, d] := by unfold turnW; rw [if_neg h, if_neg hn]
theorem expand_eq (N : Nat) (key : List Nat) : expand N key = (expSt N key (3 * N + 28)).1 := rfl
theorem take_key {NK : Nat} {flat : List Nat} (hf : Bytes (16 * NK) flat) {m : Nat} (hm : m < NK) : flat.take (16 * (m + 1)) = flat.take (16 * m) ++ flatKey flat m := by
  apply List.ext_getElem?
  intro j
  have hl := hf.1
  rw [List.getElem?_take]
  by_cases h1 : j < 16 * m
  · rw [if_pos (by omega), List.getElem?_append_left (by simp; omega), List.getElem?_take, if_pos h1]
  · rw [List.getElem?_append_right (by simp; omega)]
    simp only [List.length_take, hl, flatKey, List.getElem?_map]
    by_cases h2 : j < 16 * (m + 1)
    · rw [if_pos h2, List.getElem?_range (by omega)]
      simp [List.getD, show min (16 * m) (16 * NK) = 16 * m by omega, show 16 * m + (j - 16 * m) = j by omega, show j < flat.length by omega]
    · rw [if_neg h2, List.getElem?_eq_none (by simp; omega)]
      rfl
attribute [irreducible] turnW someB expSt expand flatKey keysOf
end Go.Proofs.Ytkbkobekndfapaa
