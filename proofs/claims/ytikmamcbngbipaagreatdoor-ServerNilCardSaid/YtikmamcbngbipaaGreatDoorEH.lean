/- Tests of likeness, cuts of slices. -/
import Derived.Test.YtikmamcbngbipaaGreatDoorEG
namespace Go.Proofs.YtikmamcbngbipaaGreatDoor
namespace Ev

section
variable {σ : Nat → Value} {ρ : Place} {P : Program} {H : Heap} {w : World}

theorem conc_ptr {id off : Nat} {v : Value} (h : conc σ ρ (.ptr id off) = some v) : ∃ p, ρ id = some p ∧ v = .pointer (some ⟨p.b, p.o + off, none⟩) := by
  simp only [conc] at h
  split at h
  · rename_i p hp; cases h; exact ⟨p, hp, rfl⟩
  · cases h
theorem conc_slice {id off len cap : Nat} {v : Value} (h : conc σ ρ (.slice id off len cap) = some v) : ∃ p, ρ id = some p ∧ v = .slice (some ⟨p.b, p.o + off, none⟩) len cap := by
  simp only [conc] at h
  split at h
  · rename_i p hp; cases h; exact ⟨p, hp, rfl⟩
  · cases h
theorem conc_osl {id off0 off len k : Nat} {v : Value} (h : conc σ ρ (.osl id off0 off len k) = some v) : ∃ p, ρ id = some p ∧ 0 < k ∧ off + len * k ≤ p.n ∧ (p.n - off) % k = 0 ∧
    v = .slice (some ⟨p.b, p.o + (if off = p.n then off0 else off), none⟩) len ((p.n - off) / k) := by
  simp only [conc] at h
  split at h
  · rename_i p hp
    split at h
    · rename_i hc; cases h; exact ⟨p, hp, hc.1, hc.2.1, hc.2.2, rfl⟩
    · cases h
  · cases h
theorem conc_map {id : Nat} {v : Value} (h : conc σ ρ (.map id) = some v) : ∃ p, ρ id = some p ∧ v = .map (some p.b) := by
  simp only [conc] at h
  split at h
  · rename_i p hp; cases h; exact ⟨p, hp, rfl⟩
  · cases h
theorem conc_iface {t : TypeId} {a : AV} {v : Value} (h : conc σ ρ (.iface t a) = some v) : ∃ x, conc σ ρ a = some x ∧ v = .iface t x := by
  simp only [conc] at h
  split at h
  · rename_i x hx; cases h; exact ⟨x, hx, rfl⟩
  · cases h
theorem conc_agg {l : List AV} {v : Value} (h : conc σ ρ (.agg l) = some v) : ∃ x, concs σ ρ l = some x ∧ v = .agg x.toArray := by
  simp only [conc] at h
  split at h
  · rename_i x hx; cases h; exact ⟨x, hx, rfl⟩
  · cases h
theorem conc_tup {l : List AV} {v : Value} (h : conc σ ρ (.tup l) = some v) : ∃ x, concs σ ρ l = some x ∧ v = .tuple x.toArray := by
  simp only [conc] at h
  split at h
  · rename_i x hx; cases h; exact ⟨x, hx, rfl⟩
  · cases h
theorem conc_fn {f : Fn} {a b : List AV} {v : Value} (h : conc σ ρ (.fn f a b) = some v) : ∃ x y, concs σ ρ a = some x ∧ concs σ ρ b = some y ∧ v = .func f x.toArray y.toArray := by
  simp only [conc] at h
  split at h
  · rename_i x y hx hy; cases h; exact ⟨x, y, hx, hy, rfl⟩
  · cases h

theorem aeq_run {t : TypeId} {x y : AV} {b : Bool} {a c : Value} (h : aeq P t x y = some b) (hx : conc σ ρ x = some a) (hy : conc σ ρ y = some c) :
    (Op.equal t a c).run P w = .ok b w := by
  unfold aeq at h
  unfold Op.equal Op.maxDepth
  change (Op.equalIn (9999 + 1) t a c).run P w = .ok b w
  generalize 9999 = dd
  split at h
  all_goals first
    | (split at h
       · rename_i hu
         cases h
         first
           | (obtain ⟨p, hp, rfl⟩ := conc_ptr hx)
           | (obtain ⟨p, hp, rfl⟩ := conc_slice hx)
           | (obtain ⟨p, hp, _, _, _, rfl⟩ := conc_osl hx)
           | (obtain ⟨p, hp, rfl⟩ := conc_map hx)
           | (obtain ⟨p, hp, rfl⟩ := conc_iface hx)
           | (obtain ⟨p, q, hp, hq, rfl⟩ := conc_fn hx)
           | (simp only [conc, Option.some.injEq] at hx; subst hx)
         all_goals first
           | (obtain ⟨p, hp, rfl⟩ := conc_ptr hy)
           | (obtain ⟨p, hp, rfl⟩ := conc_slice hy)
           | (obtain ⟨p, hp, _, _, _, rfl⟩ := conc_osl hy)
           | (obtain ⟨p, hp, rfl⟩ := conc_map hy)
           | (obtain ⟨p, hp, rfl⟩ := conc_iface hy)
           | (obtain ⟨p, q, hp, hq, rfl⟩ := conc_fn hy)
           | (simp only [conc, Option.some.injEq] at hy; subst hy)
         all_goals simp [Op.equalIn, run_und hu]
       · cases h)
    | cases h
def loose : Value → Bool
  | .int _ _ | .float _ _ | .complex _ _ _ | .string _ => false
  | _ => true
theorem binOp_eql {t : TypeId} {a b : Value} (h : loose a = true) : Go.binOp .eql t a b = (do pure (.bool (← Op.equal t a b))) := by
  cases a <;> first | (simp [loose] at h; done) | (cases b <;> rfl)
theorem binOp_neq {t : TypeId} {a b : Value} (h : loose a = true) : Go.binOp .neq t a b = (do pure (.bool (!(← Op.equal t a b)))) := by
  cases a <;> first | (simp [loose] at h; done) | (cases b <;> rfl)
def bothNil : Value → Value → Bool
  | .nilIface, .nilIface => true
  | .agg _, .agg _ => true
  | _, _ => false
theorem eqGuard_free {op : BinOp} {t : TypeId} {x y : Operand} {a b : Value} (h : bothNil a b = false) : (eqGuard op t x y a b).run P w = .ok () w := by
  unfold eqGuard
  cases op <;> simp <;> (cases a <;> cases b <;> first | rfl | (simp [bothNil] at h; done))
theorem aeq_loose {t : TypeId} {x y : AV} {r : Bool} {a b : Value} (h : aeq P t x y = some r) (hx : conc σ ρ x = some a) (hy : conc σ ρ y = some b) : loose a = true ∧ bothNil a b = false := by
  unfold aeq at h
  split at h
  all_goals first
    | cases h
    | (clear h
       first
         | (obtain ⟨p, hp, rfl⟩ := conc_ptr hx)
         | (obtain ⟨p, hp, rfl⟩ := conc_slice hx)
         | (obtain ⟨p, hp, _, _, _, rfl⟩ := conc_osl hx)
         | (obtain ⟨p, hp, rfl⟩ := conc_map hx)
         | (obtain ⟨p, hp, rfl⟩ := conc_iface hx)
         | (obtain ⟨p, q, hp, hq, rfl⟩ := conc_fn hx)
         | (simp only [conc, Option.some.injEq] at hx; subst hx)
       all_goals first
         | (obtain ⟨p, hp, rfl⟩ := conc_ptr hy)
         | (obtain ⟨p, hp, rfl⟩ := conc_slice hy)
         | (obtain ⟨p, hp, _, _, _, rfl⟩ := conc_osl hy)
         | (obtain ⟨p, hp, rfl⟩ := conc_map hy)
         | (obtain ⟨p, hp, rfl⟩ := conc_iface hy)
         | (obtain ⟨p, q, hp, hq, rfl⟩ := conc_fn hy)
         | (simp only [conc, Option.some.injEq] at hy; subst hy)
       all_goals exact ⟨rfl, rfl⟩)
theorem eqGuard_nil {op : BinOp} {t : TypeId} {X Y : Operand} (h : (isLit X || isLit Y) = true) : (eqGuard op t X Y .nilIface .nilIface).run P w = .ok () w := by
  unfold eqGuard
  generalize Op.maxDepth = dd
  cases X <;> cases Y <;> simp [isLit] at h <;> cases op <;> rfl
theorem abin_run {op : BinOp} {t : TypeId} {X Y : Operand} {x y v : AV} {a b : Value} (h : abin P op t (isLit X || isLit Y) x y = some v) (hx : conc σ ρ x = some a) (hy : conc σ ρ y = some b) :
    Says σ ρ P w (do eqGuard op t X Y a b; Go.binOp op t a b) v := by
  unfold abin at h
  split at h
  · rename_i k n k' m
    simp only [conc, Option.some.injEq] at hx hy
    subst hx; subst hy
    split at h
    · rename_i hk
      obtain ⟨v', h1, h2⟩ := abInt_run (σ := σ) (ρ := ρ) (P := P) (w := w) (k' := k') t h (by simpa [or_assoc] using hk)
      exact ⟨v', by simp only [Sem.run_bind, eqGuard_free (a := .int k n) (b := .int k' m) rfl, Result.andThen_ok]; exact h1, h2⟩
    · cases h
  · rename_i n m
    simp only [conc, Option.some.injEq] at hx hy
    subst hx; subst hy
    obtain ⟨v', h1, h2⟩ := abStr_run (σ := σ) (ρ := ρ) (P := P) (w := w) t h
    exact ⟨v', by simp only [Sem.run_bind, eqGuard_free (a := .string ⟨n.toArray⟩) (b := .string ⟨m.toArray⟩) rfl, Result.andThen_ok]; exact h1, h2⟩
  · simp only [conc, Option.some.injEq] at hx hy
    subst hx; subst hy
    split at h
    · rename_i ms hlit hu
      have hg := eqGuard_nil (P := P) (w := w) (op := op) (t := t) hlit
      have he : (Op.equal t .nilIface .nilIface).run P w = .ok true w := by
        unfold Op.equal Op.maxDepth
        change (Op.equalIn (9999 + 1) t _ _).run P w = _
        generalize 9999 = dd
        simp [Op.equalIn, run_und hu]
      split at h
      · cases h
        exact ⟨.bool true, by simp only [Sem.run_bind, hg, Result.andThen_ok, binOp_eql (a := .nilIface) rfl, he, Sem.run_pure], rfl⟩
      · cases h
        exact ⟨.bool false, by simp only [Sem.run_bind, hg, Result.andThen_ok, binOp_neq (a := .nilIface) rfl, he, Sem.run_pure]; rfl, rfl⟩
      · cases h
    · cases h
  · split at h
    · split at h
      · rename_i r hr
        cases h
        obtain ⟨l1, l2⟩ := aeq_loose hr hx hy
        exact ⟨.bool r, by simp only [Sem.run_bind, eqGuard_free l2, Result.andThen_ok, binOp_eql l1, aeq_run hr hx hy, Sem.run_pure], rfl⟩
      · cases h
    · split at h
      · rename_i r hr
        cases h
        obtain ⟨l1, l2⟩ := aeq_loose hr hx hy
        exact ⟨.bool !r, by simp only [Sem.run_bind, eqGuard_free l2, Result.andThen_ok, binOp_neq l1, aeq_run hr hx hy, Sem.run_pure], rfl⟩
      · cases h
    · cases h

theorem aun_run {op : UnOp} {x v : AV} {a : Value} (h : aun op x = some v) (hx : conc σ ρ x = some a) : Says σ ρ P w (Op.unary op a) v := by
  unfold aun at h
  split at h
  · rename_i b
    cases h
    simp only [conc, Option.some.injEq] at hx
    subst hx
    exact ⟨.bool !b, rfl, rfl⟩
  · rename_i k n
    cases h
    simp only [conc, Option.some.injEq] at hx
    subst hx
    exact ⟨.int k (k.wrap (0 - n)), rfl, by simp [conc, fwrap_eq]⟩
  · rename_i k n
    split at h
    · rename_i hs hb
      cases h
      simp only [conc, Option.some.injEq] at hx
      subst hx
      have hb := bl hb
      refine ⟨.int k (k.wrap ((BitVec.ofInt k.bits k.max ^^^ BitVec.ofInt k.bits (.ofNat n)).toNat)), by simp only [Op.unary, hs]; rfl, ?_⟩
      have hp : 0 < 2 ^ k.bits := Nat.two_pow_pos _
      have hm : (BitVec.ofInt k.bits k.max) = BitVec.allOnes k.bits := by
        apply BitVec.eq_of_toNat_eq
        simp only [IntKind.max, hs, Bool.false_eq_true, if_false, BitVec.toNat_ofInt, BitVec.toNat_allOnes]
        have : ((2 : Int) ^ k.bits - 1) % ((2 ^ k.bits : Nat) : Int) = ((2 ^ k.bits - 1 : Nat) : Int) := by
          have e : ((2 : Int) ^ k.bits) = ((2 ^ k.bits : Nat) : Int) := by simp
          rw [e, Int.emod_eq_of_lt] <;> omega
        rw [this]; simp
      rw [hm, BitVec.allOnes_xor, BitVec.toNat_not, ofInt_small hb]
      simp only [conc, Option.some.injEq, Value.int.injEq, true_and, IntKind.wrap, hs, Bool.false_and, Bool.false_eq_true, if_false]
      have e : ((2 : Int) ^ k.bits) = ((2 ^ k.bits : Nat) : Int) := by simp
      rw [e, Int.emod_eq_of_lt (by omega) (by omega)]
      rfl
    · cases h
  · cases h
end
end Ev
end Go.Proofs.YtikmamcbngbipaaGreatDoor
