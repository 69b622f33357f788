/- '==' on two blocks; a list of bytes as a string. -/
import Derived.Test.YtkbkobekndfapaaA
namespace Go.Proofs.Ytkbkobekndfapaa
open Go.RowKit

theorem run_eqIn5 (d : Nat) (a b : Nat) (w : World) : (Op.equalIn (d + 1) 5 (.int .u8 (a : Int)) (.int .u8 (b : Int))).run Try.prog w = .ok (decide (a = b)) w := by
  rw [run_equalIn_int w d 5 .u8 .u8 _ _ Try.underlying5]
  congr 1
  rw [Bool.eq_iff_iff]
  simp
  omega

/-- The loop over the elements, by recursion. -/
def eqFrom (a b : List Nat) : Nat → Nat → Bool
  | 0, _ => true
  | n + 1, i => if a.getD i 0 = b.getD i 0 then eqFrom a b n (i + 1) else false
theorem eqFrom_iff {a b : List Nat} : ∀ (n i : Nat), eqFrom a b n i = true ↔ ∀ j, i ≤ j → j < i + n → a.getD j 0 = b.getD j 0
  | 0, i => by simp [eqFrom]; omega
  | n + 1, i => by
    unfold eqFrom
    by_cases h : a.getD i 0 = b.getD i 0
    · rw [if_pos h, eqFrom_iff n (i + 1)]
      constructor
      · intro g j h1 h2
        by_cases e : j = i
        · subst e; exact h
        · exact g j (by omega) (by omega)
      · intro g j h1 h2
        exact g j (by omega) (by omega)
    · rw [if_neg h]
      constructor
      · intro g; cases g
      · intro g; exact absurd (g i (Nat.le_refl _) (by omega)) h
theorem eqFrom_eq {a b : List Nat} {n : Nat} (ha : a.length = n) (hb : b.length = n) : eqFrom a b n 0 = decide (a = b) := by
  rw [Bool.eq_iff_iff, eqFrom_iff, decide_eq_true_iff]
  constructor
  · intro h
    apply List.ext_getElem (by omega)
    intro i h1 h2
    have := h i (by omega) (by omega)
    simpa [List.getD, h1, h2] using this
  · rintro rfl j _ _; rfl

theorem run_part5 (l : List Nat) (i : Nat) (hi : i < l.length) (w : World) : (part 5 (bA l) i).run Try.prog w = .ok (.int .u8 ((l.getD i 0 : Nat) : Int)) w := by
  have hg := bA_get hi
  simp [part, go_sem]
  rw [hg]
  simp [List.getD]

theorem run_eqLoop (a b : List Nat) (d : Nat) (w : World) : ∀ (n i : Nat), i + n ≤ a.length → i + n ≤ b.length →
    (forIn (List.range' i n) ((none, ()) : Option Bool × Unit) (fun i __s => (do
      let x ← part 5 (bA a) (i * 1)
      let y ← part 5 (bA b) (i * 1)
      let e ← Op.equalIn (d + 1) 5 x y
      if (!e) = true then pure (ForInStep.done (some false, ())) else pure (ForInStep.yield (none, ())) : Sem (ForInStep (Option Bool × Unit))))).run Try.prog w =
    .ok (if eqFrom a b n i = true then (none, ()) else (some false, ())) w
  | 0, i, _, _ => by simp [eqFrom]
  | n + 1, i, h1, h2 => by
    rw [List.range'_succ, List.forIn_cons]
    simp only [Nat.mul_one, Sem.run_bind, run_part5 a i (by omega), run_part5 b i (by omega), Result.andThen_ok, run_eqIn5]
    by_cases h : a.getD i 0 = b.getD i 0
    · have ih := run_eqLoop a b d w n (i + 1) (by omega) (by omega)
      simp only [Nat.mul_one] at ih
      simp only [h, decide_true, Bool.not_true, Bool.false_eq_true, if_false, Sem.run_pure, Result.andThen_ok, eqFrom, if_true]
      exact ih
    · simp only [h, decide_false, Bool.not_false, if_true, Sem.run_pure, Result.andThen_ok, eqFrom, if_false, Bool.false_eq_true]
theorem run_eq16 (a b : List Nat) (ha : a.length = 16) (hb : b.length = 16) (w : World) : (binOp .eql 23 (.agg (bA a)) (.agg (bA b))).run Try.prog w = .ok (.bool (decide (a = b))) w := by
  rw [run_eql_struct]
  rw [show (10000 : Nat) = 9998 + 1 + 1 from rfl]
  unfold Op.equalIn
  simp only [Sem.run_bind, run_underlying Try.underlying23, Result.andThen_ok, Std.Legacy.Range.forIn_eq_forIn_range']
  have hs : (sizeOf 5).run Try.prog w = .ok 1 w := by kernel_rfl
  have h := run_eqLoop a b 9998 w 16 0 (by omega) (by omega)
  rw [hs]
  simp only [Result.andThen_ok]
  have e16 : ([:16] : Std.Legacy.Range).size = 16 := rfl
  have e0 : ([:16] : Std.Legacy.Range).start = 0 := rfl
  have e1 : ([:16] : Std.Legacy.Range).step = 1 := rfl
  simp only [e16] at *
  rw [show (9999 : Nat) = 9998 + 1 from rfl, h]
  rw [eqFrom_eq ha hb]
  by_cases hab : a = b
  · simp [hab]
  · simp [hab]
end Go.Proofs.Ytkbkobekndfapaa
