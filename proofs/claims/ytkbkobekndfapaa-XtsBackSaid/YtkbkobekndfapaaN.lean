/- The document's answer on bytes: products of polynomials, the byte that makes 1, S and its other way: they are the program's tables. -/
import Derived.Test.YtkbkobekndfapaaM
namespace Go.Proofs.Ytkbkobekndfapaa

def mulStep (s : Nat × Nat × Nat) (_ : Nat) : Nat × Nat × Nat :=
  (if s.2.2 % 2 = 1 then s.1 ^^^ s.2.1 else s.1, if 128 ≤ s.2.1 then (s.2.1 * 2 % 256) ^^^ 27 else s.2.1 * 2 % 256, s.2.2 / 2)
def mulSt (a b n : Nat) : Nat × Nat × Nat := foldUp mulStep (0, a, b) n
def mulN (a b : Nat) : Nat := (mulSt a b 8).1
def InB (s : Nat × Nat × Nat) : Prop := s.1 < 256 ∧ s.2.1 < 256 ∧ s.2.2 < 256
theorem mulStep_in {s : Nat × Nat × Nat} (h : InB s) (i : Nat) : InB (mulStep s i) := by
  obtain ⟨h1, h2, h3⟩ := h
  refine ⟨?_, ?_, ?_⟩ <;> simp only [mulStep]
  · split
    · exact xor_lt _ _ h1 h2
    · exact h1
  · split
    · exact xor_lt _ _ (by omega) (by omega)
    · omega
  · omega
theorem mulSt_in {a b : Nat} (ha : a < 256) (hb : b < 256) (n : Nat) : InB (mulSt a b n) := foldUp_inv (I := InB) ⟨(by omega : (0 : Nat) < 256), ha, hb⟩ (fun _ i h => mulStep_in h i) n
theorem mulSt_zero (a b : Nat) : mulSt a b 0 = (0, a, b) := by unfold mulSt; rw [foldUp_zero]
theorem mulSt_succ (a b n : Nat) : mulSt a b (n + 1) = mulStep (mulSt a b n) n := foldUp_succ _ _ _
theorem mulN_lt {a b : Nat} (ha : a < 256) (hb : b < 256) : mulN a b < 256 := (mulSt_in ha hb 8).1

def invStep (s : Nat × Nat) (_ : Nat) : Nat × Nat := (mulN s.1 (mulN s.2 s.2), mulN s.2 s.2)
def invSt (a n : Nat) : Nat × Nat := foldUp invStep (1, a) n
def invN (a : Nat) : Nat := (invSt a 7).1
theorem invSt_in {a : Nat} (ha : a < 256) (n : Nat) : (invSt a n).1 < 256 ∧ (invSt a n).2 < 256 :=
  foldUp_inv (I := fun s : Nat × Nat => s.1 < 256 ∧ s.2 < 256) ⟨(by omega : (1 : Nat) < 256), ha⟩ (fun s i h => ⟨mulN_lt h.1 (mulN_lt h.2 h.2), mulN_lt h.2 h.2⟩) n
theorem invSt_zero (a : Nat) : invSt a 0 = (1, a) := by unfold invSt; rw [foldUp_zero]
theorem invSt_succ (a n : Nat) : invSt a (n + 1) = invStep (invSt a n) n := foldUp_succ _ _ _
theorem invN_lt {a : Nat} (ha : a < 256) : invN a < 256 := (invSt_in ha 7).1

def rotl (a n : Nat) : Nat := (a * 2 ^ n % 256) ||| (a / 2 ^ (8 - n))
theorem rotl_lt {a n : Nat} (ha : a < 256) : rotl a n < 256 := Nat.or_lt_two_pow (n := 8) (by omega) (Nat.lt_of_le_of_lt (Nat.div_le_self _ _) ha)
def SN (x : Nat) : Nat := invN x ^^^ rotl (invN x) 1 ^^^ rotl (invN x) 2 ^^^ rotl (invN x) 3 ^^^ rotl (invN x) 4 ^^^ 99
def backN (x : Nat) : Nat := invN (rotl x 1 ^^^ rotl x 3 ^^^ rotl x 6 ^^^ 5)

attribute [local semireducible] foldUp sboxL isboxL sbox isbox
theorem SN_eq : ∀ x, x < 256 → SN x = sbox x := by decide +kernel
theorem backN_eq : ∀ x, x < 256 → backN x = isbox x := by decide +kernel
theorem mul_1 : ∀ x, x < 256 → mulN 1 x = x := by decide +kernel
theorem mul_2 : ∀ x, x < 256 → mulN 2 x = dbl x := by decide +kernel
theorem mul_3 : ∀ x, x < 256 → mulN 3 x = dbl x ^^^ x := by decide +kernel
theorem mul_9 : ∀ x, x < 256 → mulN 9 x = dbl (dbl (dbl x)) ^^^ x := by decide +kernel
theorem mul_11 : ∀ x, x < 256 → mulN 11 x = dbl (dbl (dbl x) ^^^ x) ^^^ x := by decide +kernel
theorem mul_13 : ∀ x, x < 256 → mulN 13 x = dbl (dbl (dbl x ^^^ x)) ^^^ x := by decide +kernel
theorem mul_14 : ∀ x, x < 256 → mulN 14 x = dbl (dbl (dbl x ^^^ x) ^^^ x) := by decide +kernel
theorem mul_by_2 : ∀ x, x < 256 → mulN x 2 = dbl x := by decide +kernel
theorem box_back : ∀ x, x < 256 → isbox (sbox x) = x := by decide +kernel
theorem back_box : ∀ x, x < 256 → sbox (isbox x) = x := by decide +kernel
attribute [irreducible] mulSt invSt mulN invN rotl SN backN
end Go.Proofs.Ytkbkobekndfapaa
