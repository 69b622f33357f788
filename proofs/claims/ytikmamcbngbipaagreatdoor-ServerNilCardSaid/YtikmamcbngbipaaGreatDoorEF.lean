/- What an operation that turns nothing comes to is what it comes to in the program: parts. -/
import Derived.Test.YtikmamcbngbipaaGreatDoorEE
namespace Go.Proofs.YtikmamcbngbipaaGreatDoor
namespace Ev

section
variable {σ : Nat → Value} {ρ : Place} {P : Program} {H : Heap} {w : World}

theorem run_und {t : TypeId} {d : TypeDesc} (h : P.underlying t = some d) (w : World) : (underlying t).run P w = .ok d w := run_underlying h w
theorem sizeA_info {t : TypeId} {s : Nat} (h : sizeA P t = some s) : ∃ i, P.info? t = some i ∧ i.size = s := by
  unfold sizeA at h
  split at h
  · rename_i i hi; cases h; exact ⟨i, hi, rfl⟩
  · cases h
theorem run_size {t : TypeId} {s : Nat} (h : sizeA P t = some s) (w : World) : (sizeOf t).run P w = .ok s w := by
  obtain ⟨i, hi, rfl⟩ := sizeA_info h
  simp [sizeOf, typeInfo, hi]
theorem run_info {t : TypeId} {i : TypeInfo} (h : P.info? t = some i) (w : World) : (typeInfo t).run P w = .ok i w := by
  simp [typeInfo, h]
theorem run_zero {t : TypeId} {z : AV} (h : zeroA P t = some z) (w : World) : ∃ zv, (zeroValue t).run P w = .ok zv w ∧ conc σ ρ z = some zv := by
  unfold zeroA at h
  split at h
  · rename_i i hi
    split at h
    · rename_i zv hz
      exact ⟨zv, by simp [zeroValue, typeInfo, hi, hz], ofA_conc h⟩
    · cases h
  · cases h
theorem run_agg {t : TypeId} {b : Bool} (h : aggOf P t = some b) (w : World) : (isAgg t).run P w = .ok b w := by
  unfold aggOf at h
  split at h
  · rename_i fs hu; cases h; simp [isAgg, run_und hu]
  · rename_i n e hu; cases h; simp [isAgg, run_und hu]
  · rename_i d h1 h2 hu
    cases h
    simp only [isAgg, Sem.run_bind, run_und hu, Result.andThen_ok]
    cases d <;> first | rfl | exact (h1 _ rfl).elim | exact (h2 _ _ rfl).elim
  · cases h

theorem loadVar_run (hr : HR σ ρ H w.heap) {t : TypeId} {id off : Nat} {v : AV} {p : Pl} (hp : ρ id = some p) (h : loadA P t H id off = some v) :
    ∃ v', (loadVar t ⟨p.b, p.o + off, none⟩).run P w = .ok v' w ∧ conc σ ρ v = some v' := by
  unfold loadA at h
  split at h
  · rename_i s ha hsz
    split at h
    · rename_i l hl
      cases h
      obtain ⟨vs, h1, h2, h3⟩ := loads_run (P := P) hr hp hl
      exact ⟨.agg vs.toArray, by simp [loadVar, run_agg ha, run_size hsz, h3], by simp [conc, h1]⟩
    · cases h
  · rename_i ha
    obtain ⟨v', h1, h2⟩ := load_cell hr hp h
    exact ⟨v', by simp [loadVar, run_agg ha, h1], h2⟩
  · cases h

/-- A fresh block of known cells. -/
theorem BR_fresh {l : List AV} {vs : List Value} (h : concs σ ρ l = some vs) (b : Nat) (t : TypeId) :
    BR σ ρ ⟨b, 0, vs.length⟩ (some (.cells vs.toArray t)) (.cells (T.lay (dep l.length) (.leaf default) 0 l) l.length t) := by
  have hl := concs_length h
  refine ⟨vs.toArray, (0, 0), rfl, .inl rfl, by simp, by simp [hl], fun i hi => ?_⟩
  have := T.get_lay_in (d := dep l.length) l (.leaf default) 0 i (by have := lt_dep l.length; omega) (by omega) (by omega)
  obtain ⟨v, e1, e2⟩ := concs_get h this
  exact ⟨v, by simpa using e1, e2⟩

theorem part_run {t : TypeId} {l : List AV} {vs : List Value} {off : Nat} {v : AV} (hl : concs σ ρ l = some vs) (h : partA P t l off = some v) (w : World) :
    ∃ v', (part t vs.toArray off).run P w = .ok v' w ∧ conc σ ρ v = some v' := by
  unfold partA at h
  split at h
  · rename_i s ha hsz
    cases h
    refine ⟨.agg ((vs.drop off).take s).toArray, ?_, by simp [conc, concs_take s (concs_drop off hl)]⟩
    simp only [part, Sem.run_bind, run_agg ha, Result.andThen_ok, if_true, run_size hsz, Sem.run_pure]
    congr 2
    simp [List.extract_eq_take_drop]
  · rename_i ha
    obtain ⟨v', h1, h2⟩ := concs_get hl h
    exact ⟨v', by simp [part, run_agg ha, h1], h2⟩
  · cases h

/-- Numbers. -/
theorem fwrap_eq (k : IntKind) (n : Int) : fwrap k n = k.wrap n := by
  unfold fwrap
  split
  · rename_i m
    split
    · split
      · rename_i h
        have h := Nat.le_of_ble_eq_true h
        simp only [IntKind.wrap, IntKind.bits, IntKind.signed, Int.ofNat_eq_natCast]
        have e : ((m : Int) % (2 ^ 64 : Int)) = m := by omega
        simp only [e]
        split
        · rename_i hh; simp at hh; omega
        · rfl
      · rfl
    · simp [IntKind.wrap, IntKind.bits, IntKind.signed]
    · simp [IntKind.wrap, IntKind.bits, IntKind.signed]
    · simp [IntKind.wrap, IntKind.bits, IntKind.signed]
    · rfl
  · rfl
theorem ilt_eq (a b : Int) : ilt a b = decide (a < b) := by
  cases a <;> cases b <;> simp [ilt, Nat.blt] <;> first | omega | (rw [Bool.eq_iff_iff]; simp; omega)
theorem ieq_eq (a b : Int) : ieq a b = (a == b) := by
  cases a <;> cases b <;> simp [ieq] <;> first | omega | (rw [Bool.eq_iff_iff]; simp; done) | (rw [Bool.eq_iff_iff]; simp; omega)
theorem beqs_eq : ∀ (a b : List UInt8), beqs a b = (a == b)
  | [], [] => rfl
  | [], _ :: _ => rfl
  | _ :: _, [] => rfl
  | a :: x, b :: y => by
    unfold beqs
    split
    · rename_i h
      have : a = b := UInt8.toNat_inj.1 (Nat.eq_of_beq_eq_true h)
      subst this
      rw [beqs_eq x y]
      simp
    · rename_i h
      have : a ≠ b := fun e => by subst e; simp at h
      simp [this]
end
end Ev
end Go.Proofs.YtikmamcbngbipaaGreatDoor
