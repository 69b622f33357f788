/- Keys of maps. -/
import Derived.Test.YtikmamcbngbipaaGreatDoorEJ
namespace Go.Proofs.YtikmamcbngbipaaGreatDoor
namespace Ev

section
variable {σ : Nat → Value} {ρ : Place} {P : Program} {H : Heap} {w : World}

theorem bytes_beq (n m : List UInt8) : ((⟨n.toArray⟩ : ByteArray) == ⟨m.toArray⟩) = (n == m) := by
  show ByteArray.beq _ _ = _
  unfold ByteArray.beq
  simp
theorem intKey_und {t : TypeId} (h : intKey P t = true) : ∃ k, P.underlying t = some (.int k) := by
  unfold intKey at h
  split at h
  · rename_i k hu; exact ⟨k, hu⟩
  · cases h
theorem beqI_eq {a b : AV} {r : Bool} {x y : Value} (h : beqI a b = some r) (hx : conc σ ρ a = some x) (hy : conc σ ρ b = some y) : ∃ k n m, x = .int k n ∧ y = .int k m ∧ r = (n == m) := by
  unfold beqI at h
  split at h
  · rename_i k n k' m
    split at h
    · rename_i hk
      cases h
      simp only [conc, Option.some.injEq] at hx hy
      have : k = k' := by simpa using hk
      subst this
      exact ⟨k, n, m, hx.symm, hy.symm, ieq_eq _ _⟩
    · cases h
  · cases h

theorem part_int {t : TypeId} {xs : List Value} {i : Nat} {v : Value} (hk : ∃ k, P.underlying t = some (.int k)) (h : xs[i]? = some v) (w : World) : (part t xs.toArray i).run P w = .ok v w := by
  obtain ⟨k, hu⟩ := hk
  simp [part, isAgg, run_und hu, h]
theorem equalIn_int {t : TypeId} {k : IntKind} {n m : Int} (d : Nat) (hk : ∃ k, P.underlying t = some (.int k)) (w : World) : (Op.equalIn (d + 1) t (.int k n) (.int k m)).run P w = .ok (n == m) w := by
  obtain ⟨k', hu⟩ := hk
  simp [Op.equalIn, run_und hu]
theorem intFields_cons {i : Nat} {f : Field} {l : List Field} (h : intFields P i (f :: l) = true) : (∃ k, P.underlying f.type = some (.int k)) ∧ f.name ≠ "_" ∧ f.offset = i ∧ intFields P (i + 1) l = true := by
  unfold intFields at h
  split at h
  · rename_i hc
    simp only [Bool.and_eq_true, bne_iff_ne] at hc
    exact ⟨intKey_und hc.1.1, hc.1.2, Nat.eq_of_beq_eq_true hc.2, h⟩
  · cases h
theorem beqIs_cons {a b : AV} {x y : List AV} {r : Bool} (h : beqIs (a :: x) (b :: y) = some r) : (beqI a b = some true ∧ beqIs x y = some r) ∨ (beqI a b = some false ∧ r = false) := by
  unfold beqIs at h
  split at h
  · rename_i e; exact .inl ⟨e, h⟩
  · rename_i e; cases h; exact .inr ⟨e, rfl⟩
  · cases h

theorem struct_loop (d : Nat) (xs ys : List Value) : ∀ (l : List Field) (i : Nat) (a b : List AV) (r : Bool), intFields P i l = true → beqIs a b = some r → a.length = l.length → b.length = l.length →
    concs σ ρ a = some (xs.drop i) → concs σ ρ b = some (ys.drop i) →
    (do
      for f in l do
        if f.name ≠ "_" then
          if !(← Op.equalIn (d + 1) f.type (← part f.type xs.toArray f.offset) (← part f.type ys.toArray f.offset)) then return false
      pure true : Sem Bool).run P w = .ok r w := by
  intro l
  induction l with
  | nil =>
    intro i a b r _ hb la lb _ _
    have : a = [] := List.length_eq_zero_iff.1 la
    subst this
    have : b = [] := List.length_eq_zero_iff.1 lb
    subst this
    cases hb
    simp
  | cons f l ih =>
    intro i a b r hf hb la lb ha hbb
    obtain ⟨hk, hn, ho, hl⟩ := intFields_cons hf
    cases a with
    | nil => simp at la
    | cons a0 a =>
      cases b with
      | nil => simp at lb
      | cons b0 b =>
        obtain ⟨x0, e1, e2⟩ := concs_get ha (i := 0) (a := a0) rfl
        obtain ⟨y0, f1, f2⟩ := concs_get hbb (i := 0) (a := b0) rfl
        rw [List.getElem?_drop, Nat.add_zero] at e1 f1
        have ha' : concs σ ρ a = some (xs.drop (i + 1)) := by have := concs_drop 1 ha; simpa [List.drop_drop] using this
        have hb' : concs σ ρ b = some (ys.drop (i + 1)) := by have := concs_drop 1 hbb; simpa [List.drop_drop] using this
        have p1 := part_int (P := P) hk e1 w
        have p2 := part_int (P := P) hk f1 w
        rw [← ho] at p1 p2
        rcases beqIs_cons hb with ⟨q1, q2⟩ | ⟨q1, rfl⟩
        · obtain ⟨k, n, m, rfl, rfl, e⟩ := beqI_eq q1 e2 f2
          have he := equalIn_int (P := P) (t := f.type) (k := k) (n := n) (m := m) d hk w
          rw [← e] at he
          have := ih (i + 1) a b r hl q2 (by simpa using la) (by simpa using lb) ha' hb'
          simp only [List.forIn_cons, Sem.run_bind] at this ⊢
          simp only [hn, ne_eq, not_false_eq_true, if_true, Sem.run_bind, p1, p2, he, Result.andThen_ok, Bool.not_true, Bool.false_eq_true, if_false, Sem.run_pure]
          exact this
        · obtain ⟨k, n, m, rfl, rfl, e⟩ := beqI_eq q1 e2 f2
          have he := equalIn_int (P := P) (t := f.type) (k := k) (n := n) (m := m) d hk w
          rw [← e] at he
          simp only [List.forIn_cons, Sem.run_bind]
          simp only [hn, ne_eq, not_false_eq_true, if_true, Sem.run_bind, p1, p2, he, Result.andThen_ok, Bool.not_false, Sem.run_pure]

theorem keyEq_equal (d : Nat) {t : TypeId} {a b : AV} {r : Bool} {x y : Value} (h : keyEq P t a b = some r) (hx : conc σ ρ a = some x) (hy : conc σ ρ b = some y) :
    (Op.equalIn (d + 2) t x y).run P w = .ok r w := by
  unfold keyEq at h
  split at h
  · rename_i k n k' m
    split at h
    · rename_i hi hk
      cases h
      simp only [conc, Option.some.injEq] at hx hy
      subst hx; subst hy
      have : k = k' := by simpa using hk
      subst this
      rw [ieq_eq]
      exact equalIn_int (d + 1) (intKey_und hi) w
    · cases h
  · rename_i n m
    split at h
    · rename_i hu
      cases h
      simp only [conc, Option.some.injEq] at hx hy
      subst hx; subst hy
      have : ((⟨n.toArray⟩ : ByteArray) == ⟨m.toArray⟩) = beqs n m := by
        rw [beqs_eq, bytes_beq]
      simp [Op.equalIn, run_und hu, this]
    · cases h
  · rename_i n m
    split at h
    · rename_i fs hu
      split at h
      · rename_i hc
        simp only [Bool.and_eq_true, Bool.not_eq_true'] at hc
        obtain ⟨⟨⟨c1, c2⟩, c3⟩, c4⟩ := hc
        obtain ⟨xs, ha, rfl⟩ := conc_agg hx
        obtain ⟨ys, hb, rfl⟩ := conc_agg hy
        have := struct_loop (w := w) d xs ys fs.toList 0 n m r c1 h (by simpa using Nat.eq_of_beq_eq_true c2) (by simpa using Nat.eq_of_beq_eq_true c3) (by simpa using ha) (by simpa using hb)
        rw [show d + 2 = (d + 1) + 1 from rfl]
        generalize d + 1 = dd at this ⊢
        simp only [Op.equalIn, Sem.run_bind, run_und hu, Result.andThen_ok, run_program, c4, Bool.false_eq_true, if_false]
        rw [← Array.forIn_toList]
        simpa only [Sem.run_bind] using this
      · cases h
    · cases h
  · cases h

theorem keyEq_bits (d : Nat) {t : TypeId} {a b : AV} {x y : Value} (h : keyEq P t a b = some true) (hx : conc σ ρ a = some x) (hy : conc σ ρ b = some y) :
    Instr.sameBits (d + 1) y x = true := by
  unfold keyEq at h
  split at h
  · rename_i k n k' m
    split at h
    · rename_i hi hk
      simp only [conc, Option.some.injEq] at hx hy
      subst hx; subst hy
      have : k = k' := by simpa using hk
      subst this
      rw [ieq_eq] at h
      simp at h
      simp [Instr.sameBits, h]
    · cases h
  · rename_i n m
    split at h
    · simp only [conc, Option.some.injEq] at hx hy
      subst hx; subst hy
      rw [beqs_eq] at h
      simp at h
      simp [Instr.sameBits, h, bytes_beq]
    · cases h
  · rename_i n m
    split at h
    · split at h
      · obtain ⟨xs, ha, rfl⟩ := conc_agg hx
        obtain ⟨ys, hb, rfl⟩ := conc_agg hy
        have : ∀ (n m : List AV) (xs ys : List Value), beqIs n m = some true → concs σ ρ n = some xs → concs σ ρ m = some ys → ys.length = xs.length ∧ (ys.zip xs).all (fun (x, y) => Instr.sameBits d x y) = true := by
          intro n
          induction n with
          | nil =>
            intro m xs ys hb ha hc
            cases m with
            | nil => cases ha; cases hc; simp
            | cons b m => cases hb
          | cons a n ih =>
            intro m xs ys hb ha hc
            cases m with
            | nil => cases hb
            | cons b m =>
              simp only [concs] at ha hc
              split at ha
              · rename_i x0 x1 hx0 hx1
                cases ha
                split at hc
                · rename_i y0 y1 hy0 hy1
                  cases hc
                  rcases beqIs_cons hb with ⟨q1, q2⟩ | ⟨_, q2⟩
                  · obtain ⟨k, i, j, rfl, rfl, e⟩ := beqI_eq q1 hx0 hy0
                    have e : i = j := by simpa using e.symm
                    obtain ⟨r1, r2⟩ := ih m x1 y1 q2 hx1 hy1
                    refine ⟨by simp [r1], ?_⟩
                    simp only [List.zip_cons_cons, List.all_cons, r2, Bool.and_true]
                    cases d <;> simp [Instr.sameBits, e]
                  · cases q2
                · cases hc
              · cases ha
        obtain ⟨r1, r2⟩ := this n m xs ys h ha hb
        simp [Instr.sameBits, r1, r2]
      · cases h
    · cases h
  · cases h

theorem check_loop (d : Nat) (b : Bool) (xs : List Value) : ∀ (l : List Field) (i : Nat), intFields P i l = true → i + l.length ≤ xs.length →
    (do
      for f in l do
        if f.name ≠ "_" then Instr.checkKey b (d + 1) f.type (← part f.type xs.toArray f.offset) : Sem Unit).run P w = .ok () w := by
  intro l
  induction l with
  | nil => intro i _ _; simp
  | cons f l ih =>
    intro i hf hl
    obtain ⟨hk, hn, ho, hl'⟩ := intFields_cons hf
    simp only [List.length_cons] at hl
    obtain ⟨v0, hv0⟩ : ∃ v0, xs[i]? = some v0 := ⟨_, List.getElem?_eq_getElem (show i < xs.length by omega)⟩
    have p1 := part_int (P := P) (xs := xs) hk hv0 w
    rw [← ho] at p1
    have hc : ∀ v, (Instr.checkKey b (d + 1) f.type v).run P w = .ok () w := fun v => by
      obtain ⟨k, hu⟩ := hk
      simp [Instr.checkKey, run_und hu]
    have := ih (i + 1) hl' (by omega)
    simp only [List.forIn_cons, Sem.run_bind] at this ⊢
    simp only [hn, ne_eq, not_false_eq_true, if_true, Sem.run_bind, p1, hc, Result.andThen_ok, Sem.run_pure]
    exact this
theorem checkKey_run (d : Nat) (e : Bool) {t : TypeId} {a : AV} {x : Value} (h : keyOk P t a = true) (hx : conc σ ρ a = some x) : (Instr.checkKey e (d + 2) t x).run P w = .ok () w := by
  unfold keyOk at h
  split at h
  · obtain ⟨k, hu⟩ := intKey_und h
    simp only [conc, Option.some.injEq] at hx
    subst hx
    simp [Instr.checkKey, run_und hu]
  · split at h
    · rename_i hu
      simp only [conc, Option.some.injEq] at hx
      subst hx
      simp [Instr.checkKey, run_und hu]
    · cases h
  · rename_i n
    split at h
    · rename_i fs hu
      simp only [Bool.and_eq_true] at h
      obtain ⟨xs, ha, rfl⟩ := conc_agg hx
      have hl := concs_length ha
      have h2 := Nat.eq_of_beq_eq_true h.2
      have := check_loop (P := P) (w := w) d e xs fs.toList 0 h.1 (by simp; omega)
      rw [show d + 2 = (d + 1) + 1 from rfl]
      generalize d + 1 = dd at this ⊢
      simp only [Instr.checkKey, Sem.run_bind, run_und hu, Result.andThen_ok]
      rw [← Array.forIn_toList]
      simpa only [Sem.run_bind] using this
    · cases h
  · cases h

theorem ents_get : ∀ {es : List (AV × AV × Nat)} {l : List MapEntry} {i : Nat} {e : AV × AV × Nat}, Ents σ ρ es l → es[i]? = some e →
    ∃ m, l[i]? = some m ∧ conc σ ρ e.1 = some m.key ∧ conc σ ρ e.2.1 = some m.val ∧ m.born = e.2.2
  | [], l, i, e, h, he => by simp at he
  | x :: es, [], i, e, h, he => by cases h
  | (k, v, b) :: es, m :: l, i, e, ⟨h1, h2, h3, h4⟩, he => by
    cases i with
    | zero => simp only [List.getElem?_cons_zero, Option.some.injEq] at he; subst he; exact ⟨m, rfl, h1, h2, h3⟩
    | succ i =>
      have := ents_get (i := i) h4 (by simpa using he)
      simpa using this
theorem ents_length : ∀ {es : List (AV × AV × Nat)} {l : List MapEntry}, Ents σ ρ es l → l.length = es.length
  | [], [], _ => rfl
  | [], _ :: _, h => h.elim
  | _ :: _, [], h => by cases h
  | (k, v, b) :: es, m :: l, ⟨_, _, _, h4⟩ => by simp [ents_length h4]
theorem ents_of : ∀ {es : List (AV × AV × Nat)} {l : List MapEntry}, l.length = es.length → (∀ (i : Nat) (e : AV × AV × Nat), es[i]? = some e → ∃ m, l[i]? = some m ∧ conc σ ρ e.1 = some m.key ∧ conc σ ρ e.2.1 = some m.val ∧ m.born = e.2.2) → Ents σ ρ es l
  | [], l, h, _ => by
    have : l = [] := List.length_eq_zero_iff.1 h
    subst this; trivial
  | e :: es, [], h, _ => by simp at h
  | (k, v, b) :: es, m :: l, h, g => by
    obtain ⟨m', a1, a2, a3, a4⟩ := g 0 (k, v, b) rfl
    simp only [List.getElem?_cons_zero, Option.some.injEq] at a1
    subst a1
    exact ⟨a2, a3, a4, ents_of (by simpa using h) (fun i e he => by
      have := g (i + 1) e (by simpa using he)
      simpa using this)⟩

def easyD : TypeDesc → Bool
  | .int _ | .string => true
  | _ => false
/-- The one way of the search that tells of likeness at once. -/
theorem findNow_run {t : TypeId} {k : AV} {x : Value} {D : TypeDesc} (hu : P.underlying t = some D) (hn : easyD D = true) (hx : conc σ ρ k = some x) :
    ∀ {es : List (AV × AV × Nat)} {l : List MapEntry} {i : Nat} {r : Option Nat}, Ents σ ρ es l → idxA P t k es i = some r →
      Instr.findNow D x l i = some (r.map fun j => (j, ((l[j - i]?).map (·.val)).getD undef)) ∧ (∀ j, r = some j → i ≤ j ∧ j < i + l.length)
  | [], l, i, r, h, e => by
    have : l = [] := List.length_eq_zero_iff.1 (ents_length h)
    subst this
    cases e
    exact ⟨rfl, fun j hj => by cases hj⟩
  | (k', v, b) :: es, [], i, r, h, e => by cases h
  | (k', v, b) :: es, m :: l, i, r, ⟨h1, h2, h3, h4⟩, e => by
    have now : ∀ q, keyEq P t k k' = some q → Instr.sameNow D x m.key = some q := fun q hq => by
      unfold keyEq at hq
      split at hq
      · rename_i kk n kk' mm
        split at hq
        · rename_i hi hk
          cases hq
          simp only [conc, Option.some.injEq] at hx h1
          have : kk = kk' := by simpa using hk
          subst this
          obtain ⟨k2, hu2⟩ := intKey_und hi
          rw [hu] at hu2; cases hu2
          rw [← hx, ← h1]
          simp [Instr.sameNow, ieq_eq]
        · cases hq
      · rename_i n mm
        split at hq
        · rename_i hu2
          cases hq
          simp only [conc, Option.some.injEq] at hx h1
          rw [hu] at hu2; cases hu2
          rw [← hx, ← h1]
          simp only [Instr.sameNow, Option.some.injEq]
          rw [beqs_eq, bytes_beq]
        · cases hq
      · split at hq
        · rename_i hu2
          rw [hu] at hu2; cases hu2
          simp [easyD] at hn
        · cases hq
      · cases hq
    unfold idxA at e
    split at e
    · rename_i hq
      cases e
      refine ⟨by simp [Instr.findNow, now _ hq], fun j hj => ?_⟩
      cases hj; simp
    · rename_i hq
      obtain ⟨q1, q2⟩ := findNow_run hu hn hx h4 e
      refine ⟨?_, fun j hj => by have := q2 j hj; simp; omega⟩
      simp only [Instr.findNow, now _ hq, q1]
      cases r with
      | none => rfl
      | some j =>
        have := q2 j rfl
        simp only [Option.map_some, Option.some.injEq, Prod.mk.injEq, true_and]
        rw [show j - i = (j - (i + 1)) + 1 by omega]; simp
    · cases e

theorem findAsking_run {t : TypeId} {k : AV} {x : Value} (hx : conc σ ρ k = some x) :
    ∀ {es : List (AV × AV × Nat)} {l : List MapEntry} {i : Nat} {r : Option Nat}, Ents σ ρ es l → idxA P t k es i = some r →
      (Instr.findAsking t x l i).run P w = .ok (r.map fun j => (j, ((l[j - i]?).map (·.val)).getD undef)) w ∧ (∀ j, r = some j → i ≤ j ∧ j < i + l.length)
  | [], l, i, r, h, e => by
    have : l = [] := List.length_eq_zero_iff.1 (ents_length h)
    subst this
    cases e
    exact ⟨rfl, fun j hj => by cases hj⟩
  | (k', v, b) :: es, [], i, r, h, e => by cases h
  | (k', v, b) :: es, m :: l, i, r, ⟨h1, h2, h3, h4⟩, e => by
    have ask : ∀ q, keyEq P t k k' = some q → (Op.equal t x m.key).run P w = .ok q w := fun q hq => keyEq_equal 9998 hq hx h1
    unfold idxA at e
    split at e
    · rename_i hq
      cases e
      refine ⟨by simp [Instr.findAsking, ask _ hq], fun j hj => ?_⟩
      cases hj; simp
    · rename_i hq
      obtain ⟨q1, q2⟩ := findAsking_run hx h4 e
      refine ⟨?_, fun j hj => by have := q2 j hj; simp; omega⟩
      simp only [Instr.findAsking, Sem.run_bind, ask _ hq, Result.andThen_ok, Bool.false_eq_true, if_false, q1]
      cases r with
      | none => rfl
      | some j =>
        have := q2 j rfl
        simp only [Option.map_some]
        rw [show j - i = (j - (i + 1)) + 1 by omega]; simp
    · cases e

theorem findKey_run {t : TypeId} {k : AV} {x : Value} (hx : conc σ ρ k = some x) (hk : keyOk P t k = true) {es : List (AV × AV × Nat)} {l : List MapEntry} {r : Option Nat} (h : Ents σ ρ es l) (e : idxA P t k es 0 = some r) :
    (Instr.findKey t x l).run P w = .ok (r.map fun j => (j, ((l[j]?).map (·.val)).getD undef)) w ∧ (∀ j, r = some j → j < l.length) := by
  have hu : ∃ D, P.underlying t = some D ∧ (easyD D = true ∨ ∃ fs, D = .struct fs) := by
    unfold keyOk at hk
    split at hk
    · obtain ⟨k', h'⟩ := intKey_und hk; exact ⟨_, h', .inl rfl⟩
    · split at hk
      · rename_i h'; exact ⟨_, h', .inl rfl⟩
      · cases hk
    · split at hk
      · rename_i fs h'; exact ⟨_, h', .inr ⟨fs, rfl⟩⟩
      · cases hk
    · cases hk
  obtain ⟨D, hD, hor⟩ := hu
  rcases hor with hn | ⟨fs, rfl⟩
  · obtain ⟨q1, q2⟩ := findNow_run (P := P) hD hn hx h e
    refine ⟨?_, fun j hj => by have := q2 j hj; omega⟩
    simp only [Instr.findKey, Sem.run_bind, run_und hD, Result.andThen_ok, q1]
    simp
  · obtain ⟨q1, q2⟩ := findAsking_run (P := P) (w := w) hx h e
    refine ⟨?_, fun j hj => by have := q2 j hj; omega⟩
    simp only [Instr.findKey, Sem.run_bind, run_und hD, Result.andThen_ok]
    have q1' : (Instr.findAsking t x l 0).run P w = .ok (r.map fun j => (j, ((l[j]?).map (·.val)).getD undef)) w := by simpa using q1
    cases l with
    | nil =>
      simp only [Instr.findNow]
      cases r with
      | none => rfl
      | some j => have := q2 j rfl; simp at this
    | cons m l =>
      have : Instr.findNow (.struct fs) x (m :: l) 0 = none := by
        simp only [Instr.findNow]
        have : Instr.sameNow (.struct fs) x m.key = none := rfl
        rw [this]
      rw [this]
      exact q1'
end
end Ev
end Go.Proofs.YtikmamcbngbipaaGreatDoor
