/- Sums, tests, slices, conversions of the run are the program's. -/
import Derived.Test.YtikmamcbngbipaaGreatDoorEF
import Derived.Laws.Strings2
import Derived.Laws.BytesString
namespace Go.Proofs.YtikmamcbngbipaaGreatDoor
namespace Ev

section
variable {σ : Nat → Value} {ρ : Place} {P : Program} {H : Heap} {w : World}

/-- A value of the program that the run tells. -/
def Says (σ : Nat → Value) (ρ : Place) (P : Program) (w : World) (s : Sem Value) (v : AV) : Prop := ∃ v', s.run P w = .ok v' w ∧ conc σ ρ v = some v'

theorem bits_run (k : IntKind) (f : Nat → Nat → Nat) (g : BitVec k.bits → BitVec k.bits → BitVec k.bits)
    (hg : ∀ a b, a < 2 ^ k.bits → b < 2 ^ k.bits → (g (BitVec.ofInt k.bits (.ofNat a)) (BitVec.ofInt k.bits (.ofNat b))).toNat = f a b) {x y : Int} {v : AV} (h : bitsOf k f x y = some v) :
    conc σ ρ v = some (.int k (k.wrap (g (BitVec.ofInt k.bits x) (BitVec.ofInt k.bits y)).toNat)) := by
  unfold bitsOf at h
  split at h
  · split at h
    · rename_i ha hb
      cases h
      simp only [conc, fwrap_eq]
      rw [hg _ _ (bl ha) (bl hb)]
      rfl
    · cases h
  · cases h
theorem ofInt_small {n a : Nat} (h : a < 2 ^ n) : (BitVec.ofInt n (.ofNat a)).toNat = a := by
  rw [BitVec.toNat_ofInt]
  have : ((Int.ofNat a) % ((2 ^ n : Nat) : Int)) = (a : Int) := Int.emod_eq_of_lt (Int.natCast_nonneg a) (by show (a : Int) < _; exact_mod_cast h)
  rw [this]; simp

theorem abInt_run {op : BinOp} {k k' : IntKind} {x y : Int} {v : AV} (t : TypeId) (h : abInt op k x y = some v) (hk : k = k' ∨ op = .shl ∨ op = .shr) :
    Says σ ρ P w (Go.binOp op t (.int k x) (.int k' y)) v := by
  cases op
  case shl =>
    simp only [abInt] at h
    split at h
    · cases h
    · rename_i hy
      cases h
      have hy' : ¬ y < 0 := by rw [ilt_eq] at hy; simpa using hy
      exact ⟨_, by simp only [Go.binOp, Op.shift, if_neg hy']; rfl, by simp [conc, fwrap_eq]⟩
  case shr =>
    simp only [abInt] at h
    split at h
    · cases h
    · rename_i hy
      split at h
      · rename_i a
        cases h
        have hy' : ¬ y < 0 := by rw [ilt_eq] at hy; simpa using hy
        refine ⟨_, by simp only [Go.binOp, Op.shift, if_neg hy']; rfl, ?_⟩
        simp only [conc, Option.some.injEq, Value.int.injEq, true_and]
        have e : ((2 : Int) ^ (min y.toNat k.bits)) = ((2 ^ (min y.toNat k.bits) : Nat) : Int) := by simp
        rw [e]
        exact Int.ofNat_fdiv a _
      · cases h
  all_goals
    obtain rfl : k = k' := by rcases hk with e | e | e <;> first | exact e | cases e
  case add => cases h; exact ⟨_, by simp [Go.binOp, Op.intArith]; rfl, by simp [conc, fwrap_eq]⟩
  case sub => cases h; exact ⟨_, by simp [Go.binOp, Op.intArith]; rfl, by simp [conc, fwrap_eq]⟩
  case mul => cases h; exact ⟨_, by simp [Go.binOp, Op.intArith]; rfl, by simp [conc, fwrap_eq]⟩
  case quo =>
    simp only [abInt] at h
    split at h
    · cases h
    · rename_i hy
      cases h
      have hy' : ¬ y = 0 := by rw [ieq_eq] at hy; simpa using hy
      exact ⟨_, by simp [Go.binOp, Op.intDiv, hy']; rfl, by simp [conc]⟩
  case rem =>
    simp only [abInt] at h
    split at h
    · cases h
    · rename_i hy
      cases h
      have hy' : ¬ y = 0 := by rw [ieq_eq] at hy; simpa using hy
      exact ⟨_, by simp [Go.binOp, Op.intDiv, hy']; rfl, by simp [conc]⟩
  case and => exact ⟨_, by simp [Go.binOp, Op.intBits], bits_run k Nat.land (· &&& ·) (fun a b ha hb => by rw [BitVec.toNat_and, ofInt_small ha, ofInt_small hb]; rfl) h⟩
  case or => exact ⟨_, by simp [Go.binOp, Op.intBits], bits_run k Nat.lor (· ||| ·) (fun a b ha hb => by rw [BitVec.toNat_or, ofInt_small ha, ofInt_small hb]; rfl) h⟩
  case xor => exact ⟨_, by simp [Go.binOp, Op.intBits], bits_run k Nat.xor (· ^^^ ·) (fun a b ha hb => by rw [BitVec.toNat_xor, ofInt_small ha, ofInt_small hb]; rfl) h⟩
  case andNot => exact ⟨_, by simp [Go.binOp, Op.intBits], bits_run k (fun a b => Nat.xor a (Nat.land a b)) (fun a b => a &&& ~~~b) (fun a b ha hb => by
    have e : ∀ u v : BitVec k.bits, u &&& ~~~v = u ^^^ (u &&& v) := fun u v => by
      apply BitVec.eq_of_getLsbD_eq
      intro i hi
      simp [hi]
      cases u[i] <;> cases v[i] <;> rfl
    rw [e, BitVec.toNat_xor, BitVec.toNat_and, ofInt_small ha, ofInt_small hb]; rfl) h⟩
  case eql => cases h; exact ⟨_, by simp [Go.binOp, Op.intCmp]; rfl, by simp [conc, ieq_eq]⟩
  case neq => cases h; exact ⟨_, by simp [Go.binOp, Op.intCmp]; rfl, by simp [conc, ieq_eq, bne]⟩
  case lss => cases h; exact ⟨_, by simp [Go.binOp, Op.intCmp]; rfl, by simp [conc, ilt_eq]⟩
  case leq => cases h; exact ⟨_, by simp [Go.binOp, Op.intCmp]; rfl, by simp [conc, ilt_eq]; rw [Bool.eq_iff_iff]; simp⟩
  case gtr => cases h; exact ⟨_, by simp [Go.binOp, Op.intCmp]; rfl, by simp [conc, ilt_eq]⟩
  case geq => cases h; exact ⟨_, by simp [Go.binOp, Op.intCmp]; rfl, by simp [conc, ilt_eq]; rw [Bool.eq_iff_iff]; simp⟩

theorem abStr_run {op : BinOp} {x y : List UInt8} {v : AV} (t : TypeId) (h : abStr op x y = some v) :
    Says σ ρ P w (Go.binOp op t (.string ⟨x.toArray⟩) (.string ⟨y.toArray⟩)) v := by
  unfold abStr at h
  split at h
  · split at h
    · rename_i hl
      cases h
      have hl := Nat.le_of_ble_eq_true hl
      have : ¬ (((⟨x.toArray⟩ : ByteArray).size + (⟨y.toArray⟩ : ByteArray).size : Nat) : Int) > IntKind.i64.max := by
        simp only [ByteArray.size, List.size_toArray, IntKind.max, IntKind.signed, IntKind.bits]
        simp; omega
      refine ⟨.string ⟨(x ++ y).toArray⟩, ?_, by simp [conc]⟩
      simp only [binOp_string_add, Op.stringOp, if_neg this, Sem.run_pure]
      congr 2
    · cases h
  · cases h; exact ⟨.bool (x == y), by simp [binOp_string_eql], by simp [conc, beqs_eq]⟩
  · cases h; exact ⟨.bool !(x == y), by simp [binOp_string_neq], by simp [conc, beqs_eq]⟩
  · cases h
end
end Ev
end Go.Proofs.YtikmamcbngbipaaGreatDoor
