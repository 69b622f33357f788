/- Cuts and conversions. -/
import Derived.Test.YtikmamcbngbipaaGreatDoorEH
namespace Go.Proofs.YtikmamcbngbipaaGreatDoor
namespace Ev

section
variable {σ : Nat → Value} {ρ : Place} {P : Program} {H : Heap} {w : World}

/-- A value that may be missing. -/
def OC (σ : Nat → Value) (ρ : Place) : Option AV → Option Value → Prop
  | none, none => True
  | some a, some v => conc σ ρ a = some v
  | _, _ => False
theorem evO_conc {f : Fr} {a : Act} {L : List Operand} (h : EV σ ρ f a L) {x : Option Operand} {v : Option AV} (hm : ∀ y, x = some y → y ∈ L) (e : evO f x = some v) : OC σ ρ v (x.map a.eval) := by
  unfold evO at e
  split at e
  · cases e; trivial
  · split at e
    · rename_i x v' hv; cases e; exact h.one (hm _ rfl) hv
    · cases e
theorem bound_run {y n : Nat} {k : IntKind} {c : BoundsCode} (h : n ≤ y) : (Instr.sliceBound (.int k (.ofNat n)) y c).run P w = .ok n w := by
  have : (0 : Int) ≤ Int.ofNat n ∧ Int.ofNat n ≤ (y : Int) := ⟨Int.natCast_nonneg n, by show (n : Int) ≤ y; exact_mod_cast h⟩
  simp only [Instr.sliceBound, asIntOf, Sem.run_bind, Sem.run_pure, Result.andThen_ok, if_pos this]
  rfl
theorem bound_run' {y n : Nat} {k : IntKind} {c : BoundsCode} (h : n ≤ y) : (Instr.sliceBound (.int k (n : Int)) y c).run P w = .ok n w := bound_run h
theorem boundA_oc {x : Option AV} {v : Option Value} {d n : Nat} (h : boundA x d = some n) (hc : OC σ ρ x v) : (x = none ∧ v = none ∧ n = d) ∨ (∃ k, v = some (.int k (.ofNat n)) ∧ x.isSome = true) := by
  unfold boundA at h
  split at h
  · cases h
    cases v with
    | none => exact .inl ⟨rfl, rfl, rfl⟩
    | some v => exact hc.elim
  · rename_i k n'
    cases h
    cases v with
    | none => exact hc.elim
    | some v =>
      simp only [OC, conc, Option.some.injEq] at hc
      exact .inr ⟨k, by rw [← hc], rfl⟩
  · cases h
theorem bounds_run {b : Bool} {len cap l h m : Nat} {lo hi mx : Option AV} {lo' hi' mx' : Option Value} (h1 : OC σ ρ lo lo') (h2 : OC σ ρ hi hi') (h3 : OC σ ρ mx mx')
    (b1 : boundA mx cap = some m) (b2 : boundA hi len = some h) (b3 : boundA lo 0 = some l) (c1 : l ≤ h) (c2 : h ≤ m) (c3 : m ≤ cap) (c4 : mx.isSome = true → hi.isSome = true) :
    (Instr.sliceBounds b len cap lo' hi' mx').run P w = .ok (l, h, m) w := by
  rcases boundA_oc b1 h3 with ⟨e1, e2, e3⟩ | ⟨k1, e1, e2⟩ <;> rcases boundA_oc b2 h2 with ⟨f1, f2, f3⟩ | ⟨k2, f1, f2⟩ <;> rcases boundA_oc b3 h1 with ⟨g1, g2, g3⟩ | ⟨k3, g1, g2⟩
  all_goals first
    | (exfalso; rw [f1] at c4; simp [e2] at c4; done)
    | skip
  all_goals simp_all [Instr.sliceBounds, bound_run', Result.andThen_ok]

theorem slice_same (b : Nat) (o n : Nat) : (⟨b, o, none⟩ : Addr).add n = ⟨b, o + n, none⟩ := add_none b o n

theorem boundsA_spec {mx hi lo : Option AV} {len cap l h m : Nat} (e : boundsA mx hi lo len cap = some (l, h, m)) :
    boundA mx cap = some m ∧ boundA hi len = some h ∧ boundA lo 0 = some l ∧ l ≤ h ∧ h ≤ m ∧ m ≤ cap ∧ (mx.isSome = true → hi.isSome = true) := by
  unfold boundsA at e
  split at e
  · rename_i m' h' l' b1 b2 b3
    split at e
    · rename_i hc
      cases e
      simp only [Bool.and_eq_true] at hc
      obtain ⟨⟨⟨c1, c2⟩, c3⟩, c4⟩ := hc
      refine ⟨b1, b2, b3, Nat.le_of_ble_eq_true c1, Nat.le_of_ble_eq_true c2, Nat.le_of_ble_eq_true c3, fun hm => ?_⟩
      cases mx with
      | none => cases hm
      | some a => cases hi with
        | none => cases c4
        | some b => rfl
    · cases e
  · cases e
theorem cutA_conc {id off size l h m : Nat} {p : Pl} (hp : ρ id = some p) :
    conc σ ρ (cutA id off size l h m) = some (.slice (if m = l then some ⟨p.b, p.o + off, none⟩ else some ((⟨p.b, p.o + off, none⟩ : Addr).add (l * size))) (h - l) (m - l)) := by
  unfold cutA
  split
  · rename_i e
    have e := Nat.eq_of_beq_eq_true e
    simp [conc, hp, e]
  · rename_i e
    have e : ¬ m = l := fun x => by subst x; simp at e
    simp [conc, hp, e, add_none, Nat.add_assoc]

theorem capOf_le {H : Heap} (hr : HR σ ρ H w.heap) {id off len k : Nat} {p : Pl} (hp : ρ id = some p) (hcap : len ≤ (p.n - off) / k) : capOf H id off len k ≤ (p.n - off) / k := by
  unfold capOf
  split
  · rename_i t m ty hg
    obtain ⟨q, hq, c, fz, _, _, _, hm, _⟩ := hr.live id _ (hr.lt hp) hg
    rw [hp] at hq; cases hq
    split
    · exact Nat.div_le_div_right (by omega)
    · exact hcap
  · exact hcap
theorem sliceA_run {H : Heap} (hr : HR σ ρ H w.heap) {t : TypeId} {x v : AV} {lo hi mx : Option AV} {x' : Value} {lo' hi' mx' : Option Value} (h : sliceA P t x lo hi mx H = some v) (hx : conc σ ρ x = some x')
    (h1 : OC σ ρ lo lo') (h2 : OC σ ρ hi hi') (h3 : OC σ ρ mx mx') : Says σ ρ P w (Instr.sliceAt t x' lo' hi' mx') v := by
  unfold sliceA at h
  split at h
  · rename_i s hu
    simp only [conc, Option.some.injEq] at hx
    subst hx
    split at h
    · rename_i l hh m hb
      cases h
      have : mx' = none := by cases mx' with | none => rfl | some _ => exact h3.elim
      subst this
      obtain ⟨b1, b2, b3, c1, c2, c3, c4⟩ := boundsA_spec hb
      have hs : (⟨s.toArray⟩ : ByteArray).size = s.length := by simp [ByteArray.size]
      have hb' := bounds_run (P := P) (w := w) (b := false) h1 h2 (mx' := none) (mx := none) trivial b1 b2 b3 c1 c2 c3 c4
      refine ⟨.string ⟨((s.drop l).take (hh - l)).toArray⟩, ?_, rfl⟩
      simp only [Instr.sliceAt, Instr.slice, Sem.run_bind, run_und hu, Result.andThen_ok]
      simp [hs, hb', ByteArray.extract_mk]
    · cases h
  · rename_i e hu
    simp only [conc, Option.some.injEq] at hx
    subst hx
    split at h
    · rename_i r sz hb hsz
      cases h
      obtain ⟨l, hh, m⟩ := r
      obtain ⟨b1, b2, b3, c1, c2, c3, c4⟩ := boundsA_spec hb
      have hb' := bounds_run (P := P) (w := w) (b := true) h1 h2 h3 b1 b2 b3 c1 c2 c3 c4
      refine ⟨.slice none 0 0, ?_, rfl⟩
      have e1 : m = 0 := by omega
      have e2 : hh = 0 := by omega
      have e3 : l = 0 := by omega
      subst e1; subst e2; subst e3
      simp [Instr.sliceAt, Instr.slice, run_und hu, hb', run_size hsz]
    · cases h
  · rename_i e id off len cap hu
    obtain ⟨p, hp, rfl⟩ := conc_slice hx
    split at h
    · rename_i l hh m size hb hsz
      cases h
      obtain ⟨b1, b2, b3, c1, c2, c3, c4⟩ := boundsA_spec hb
      have hb' := bounds_run (P := P) (w := w) (b := true) h1 h2 h3 b1 b2 b3 c1 c2 c3 c4
      refine ⟨_, ?_, cutA_conc hp⟩
      simp [Instr.sliceAt, Instr.slice, run_und hu, hb', run_size hsz]
    · cases h
  · rename_i e id off0 off len k hu
    obtain ⟨p, hp, hk, hl, hd, rfl⟩ := conc_osl hx
    have hcap : len ≤ (p.n - off) / k := (Nat.le_div_iff_mul_le hk).2 (by omega)
    have hcap2 := capOf_le hr hp hcap
    have hmod : k * ((p.n - off) / k) = p.n - off := by
      have := Nat.div_add_mod (p.n - off) k; omega
    split at h
    · rename_i l hh m size hb hsz
      obtain ⟨b1, b2, b3, c1, c2, c3, c4⟩ := boundsA_spec hb
      split at h
      · rename_i hsk
        have hsk := Nat.eq_of_beq_eq_true hsk
        subst hsk
        have hq : hh * size ≤ p.n - off := by
          have q1 : hh * size ≤ (p.n - off) / size * size := Nat.mul_le_mul_right _ (by omega)
          have q2 := Nat.div_mul_le_self (p.n - off) size
          omega
        have hm' : mx' = none := by cases mx' with | none => rfl | some _ => exact h3.elim
        subst hm'
        have hb' := bounds_run (P := P) (w := w) (b := true) h1 h2 (mx' := none) (mx := none) trivial (cap := (p.n - off) / size) (m := (p.n - off) / size) rfl b2 b3 c1 (by omega) (Nat.le_refl _) (by simp)
        split at h
        · cases h
          refine ⟨.slice (some ⟨p.b, p.o + (if off = p.n then off0 else off), none⟩) hh ((p.n - off) / size), ?_, ?_⟩
          · simp only [Instr.sliceAt, Instr.slice, Sem.run_bind, run_und hu, Result.andThen_ok, hb', run_size hsz, Sem.run_pure]
            congr 2
            · split
              · rfl
              · simp [Addr.add]
          · simp only [conc, hp]
            rw [if_pos ⟨hk, by omega, hd⟩]
        · rename_i l'
          cases h
          have hlt : off < p.n := by
            have : 1 * size ≤ hh * size := Nat.mul_le_mul_right _ (by omega)
            omega
          refine ⟨.slice (if (p.n - off) / size = l' + 1 then some ⟨p.b, p.o + off, none⟩ else some ((⟨p.b, p.o + off, none⟩ : Addr).add ((l' + 1) * size))) (hh - (l' + 1)) ((p.n - off) / size - (l' + 1)), ?_, ?_⟩
          · simp only [Instr.sliceAt, Instr.slice, Sem.run_bind, run_und hu, Result.andThen_ok, hb', run_size hsz, Sem.run_pure, if_neg (Nat.ne_of_lt hlt), Option.map_some]
          · have q2 : (hh - (l' + 1)) * size = hh * size - (l' + 1) * size := Nat.sub_mul _ _ _
            have q4 : (l' + 1) * size ≤ hh * size := Nat.mul_le_mul_right _ (by omega)
            have q5 : p.n - (off + (l' + 1) * size) = (p.n - off) - (l' + 1) * size := by omega
            have q6 : (p.n - (off + (l' + 1) * size)) / size = (p.n - off) / size - (l' + 1) := by
              rw [q5, Nat.mul_comm, Nat.sub_mul_div]
            have q7 : (p.n - (off + (l' + 1) * size)) % size = 0 := by
              rw [q5, ← hmod, Nat.mul_comm (l' + 1), ← Nat.mul_sub]; simp
            simp only [conc, hp]
            rw [if_pos ⟨hk, by omega, q7⟩, q6]
            by_cases he : (p.n - off) / size = l' + 1
            · have : off + (l' + 1) * size = p.n := by
                rw [he] at hmod
                rw [Nat.mul_comm] at hmod; omega
              rw [if_pos this, if_pos he]
            · have : ¬ off + (l' + 1) * size = p.n := fun e => he (by
                have : p.n - off = (l' + 1) * size := by omega
                rw [this]; exact Nat.mul_div_cancel _ hk)
              rw [if_neg this, if_neg he, add_none, Nat.add_assoc]
      · rename_i mx0 hsk
        split at h
        · rename_i hlen
          cases h
          have hlen := bl hlen
          have hlt : off < p.n := by
            have : 1 * k ≤ len * k := Nat.mul_le_mul_right _ (by omega)
            omega
          have b1' : boundA (some mx0) ((p.n - off) / k) = some m := by
            cases mx0 with
            | int k n => cases n <;> exact b1
            | _ => exact b1
          have hb' := bounds_run (P := P) (w := w) (b := true) h1 h2 h3 b1' b2 b3 c1 c2 (Nat.le_trans c3 hcap2) c4
          refine ⟨_, ?_, cutA_conc hp⟩
          simp [Instr.sliceAt, Instr.slice, run_und hu, hb', run_size hsz, Nat.ne_of_lt hlt]
        · cases h
      · cases h
    · cases h
  · rename_i n e id off hu
    obtain ⟨p, hp, rfl⟩ := conc_ptr hx
    split at h
    · rename_i l hh m size hb hsz
      cases h
      obtain ⟨b1, b2, b3, c1, c2, c3, c4⟩ := boundsA_spec hb
      have hb' := bounds_run (P := P) (w := w) (b := false) h1 h2 h3 b1 b2 b3 c1 c2 c3 c4
      refine ⟨_, ?_, cutA_conc hp⟩
      simp [Instr.sliceAt, Instr.sureAddr, run_und hu, hb', run_size hsz]
      split <;> rfl
    · cases h
  · cases h
end
end Ev
end Go.Proofs.YtikmamcbngbipaaGreatDoor
