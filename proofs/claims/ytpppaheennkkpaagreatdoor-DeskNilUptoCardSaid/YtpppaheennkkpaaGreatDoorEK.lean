/- Keys of maps. -/
import Derived.Test.YtpppaheennkkpaaGreatDoorEE
namespace Go.Proofs.YtpppaheennkkpaaGreatDoor
namespace Ev

section
variable {σ : Nat → Value} {ρ : Place} {P : Program} {H : Heap} {w : World}

theorem bytes_beq (n m : List UInt8) : ((⟨n.toArray⟩ : ByteArray) == ⟨m.toArray⟩) = (n == m) := by
  show ByteArray.beq _ _ = _
  unfold ByteArray.beq
  simp
theorem intKey_und {t : TypeId} (h : intKey P t = true) : ∃ k, P.underlying t = some (.int k) := by
  unfold intKey at h
  split at h
  · rename_i k hu; exact ⟨k, hu⟩
  · cases h
theorem beqI_eq {a b : AV} {r : Bool} {x y : Value} (h : beqI a b = some r) (hx : conc σ ρ a = some x) (hy : conc σ ρ b = some y) : ∃ k n m, x = .int k n ∧ y = .int k m ∧ r = (n == m) := by
  unfold beqI at h
  split at h
  · rename_i k n k' m
    split at h
    · rename_i hk
      cases h
      simp only [conc, Option.some.injEq] at hx hy
      have : k = k' := by simpa using hk
      subst this
      exact ⟨k, n, m, hx.symm, hy.symm, ieq_eq _ _⟩
    · cases h
  · cases h

theorem part_int {t : TypeId} {xs : List Value} {i : Nat} {v : Value} (hk : ∃ k, P.underlying t = some (.int k)) (h : xs[i]? = some v) (w : World) : (part t xs.toArray i).run P w = .ok v w := by
  obtain ⟨k, hu⟩ := hk
  simp [part, isAgg, run_und hu, h]
theorem equalIn_int {t : TypeId} {k : IntKind} {n m : Int} (d : Nat) (hk : ∃ k, P.underlying t = some (.int k)) (w : World) : (Op.equalIn (d + 1) t (.int k n) (.int k m)).run P w = .ok (n == m) w := by
  obtain ⟨k', hu⟩ := hk
  simp [Op.equalIn, run_und hu]
theorem intFields_cons {i : Nat} {f : Field} {l : List Field} (h : intFields P i (f :: l) = true) : (∃ k, P.underlying f.type = some (.int k)) ∧ f.name ≠ "_" ∧ f.offset = i ∧ intFields P (i + 1) l = true := by
  unfold intFields at h
  split at h
  · rename_i hc
    simp only [Bool.and_eq_true, bne_iff_ne] at hc
    exact ⟨intKey_und hc.1.1, hc.1.2, Nat.eq_of_beq_eq_true hc.2, h⟩
  · cases h
theorem beqIs_cons {a b : AV} {x y : List AV} {r : Bool} (h : beqIs (a :: x) (b :: y) = some r) : (beqI a b = some true ∧ beqIs x y = some r) ∨ (beqI a b = some false ∧ r = false) := by
  unfold beqIs at h
  split at h
  · rename_i e; exact .inl ⟨e, h⟩
  · rename_i e; cases h; exact .inr ⟨e, rfl⟩
  · cases h

theorem struct_loop (d : Nat) (xs ys : List Value) : ∀ (l : List Field) (i : Nat) (a b : List AV) (r : Bool), intFields P i l = true → beqIs a b = some r → a.length = l.length → b.length = l.length →
    concs σ ρ a = some (xs.drop i) → concs σ ρ b = some (ys.drop i) →
    (do
      for f in l do
        if f.name ≠ "_" then
          if !(← Op.equalIn (d + 1) f.type (← part f.type xs.toArray f.offset) (← part f.type ys.toArray f.offset)) then return false
      pure true : Sem Bool).run P w = .ok r w := by
  intro l
  induction l with
  | nil =>
    intro i a b r _ hb la lb _ _
    have : a = [] := List.length_eq_zero_iff.1 la
    subst this
    have : b = [] := List.length_eq_zero_iff.1 lb
    subst this
    cases hb
    simp
  | cons f l ih =>
    intro i a b r hf hb la lb ha hbb
    obtain ⟨hk, hn, ho, hl⟩ := intFields_cons hf
    cases a with
    | nil => simp at la
    | cons a0 a =>
      cases b with
      | nil => simp at lb
      | cons b0 b =>
        obtain ⟨x0, e1, e2⟩ := concs_get ha (i := 0) (a := a0) rfl
        obtain ⟨y0, f1, f2⟩ := concs_get hbb (i := 0) (a := b0) rfl
        rw [List.getElem?_drop, Nat.add_zero] at e1 f1
        have ha' : concs σ ρ a = some (xs.drop (i + 1)) := by have := concs_drop 1 ha; simpa [List.drop_drop] using this
        have hb' : concs σ ρ b = some (ys.drop (i + 1)) := by have := concs_drop 1 hbb; simpa [List.drop_drop] using this
        have p1 := part_int (P := P) hk e1 w
        have p2 := part_int (P := P) hk f1 w
        rw [← ho] at p1 p2
        rcases beqIs_cons hb with ⟨q1, q2⟩ | ⟨q1, rfl⟩
        · obtain ⟨k, n, m, rfl, rfl, e⟩ := beqI_eq q1 e2 f2
          have he := equalIn_int (P := P) (t := f.type) (k := k) (n := n) (m := m) d hk w
          rw [← e] at he
          have := ih (i + 1) a b r hl q2 (by simpa using la) (by simpa using lb) ha' hb'
          simp only [List.forIn_cons, Sem.run_bind] at this ⊢
          simp only [hn, ne_eq, not_false_eq_true, if_true, Sem.run_bind, p1, p2, he, Result.andThen_ok, Bool.not_true, Bool.false_eq_true, if_false, Sem.run_pure]
          exact this
        · obtain ⟨k, n, m, rfl, rfl, e⟩ := beqI_eq q1 e2 f2
          have he := equalIn_int (P := P) (t := f.type) (k := k) (n := n) (m := m) d hk w
          rw [← e] at he
          simp only [List.forIn_cons, Sem.run_bind]
          simp only [hn, ne_eq, not_false_eq_true, if_true, Sem.run_bind, p1, p2, he, Result.andThen_ok, Bool.not_false, Sem.run_pure]

theorem keyEq_equal (d : Nat) {t : TypeId} {a b : AV} {r : Bool} {x y : Value} (h : keyEq P t a b = some r) (hx : conc σ ρ a = some x) (hy : conc σ ρ b = some y) :
    (Op.equalIn (d + 2) t x y).run P w = .ok r w := by
  unfold keyEq at h
  split at h
  · rename_i k n k' m
    split at h
    · rename_i hi hk
      cases h
      simp only [conc, Option.some.injEq] at hx hy
      subst hx; subst hy
      have : k = k' := by simpa using hk
      subst this
      rw [ieq_eq]
      exact equalIn_int (d + 1) (intKey_und hi) w
    · cases h
  · rename_i n m
    split at h
    · rename_i hu
      cases h
      simp only [conc, Option.some.injEq] at hx hy
      subst hx; subst hy
      have : ((⟨n.toArray⟩ : ByteArray) == ⟨m.toArray⟩) = beqs n m := by
        rw [beqs_eq, bytes_beq]
      simp [Op.equalIn, run_und hu, this]
    · cases h
  · rename_i n m
    split at h
    · rename_i fs hu
      split at h
      · rename_i hc
        simp only [Bool.and_eq_true, Bool.not_eq_true'] at hc
        obtain ⟨⟨⟨c1, c2⟩, c3⟩, c4⟩ := hc
        obtain ⟨xs, ha, rfl⟩ := conc_agg hx
        obtain ⟨ys, hb, rfl⟩ := conc_agg hy
        have := struct_loop (w := w) d xs ys fs.toList 0 n m r c1 h (by simpa using Nat.eq_of_beq_eq_true c2) (by simpa using Nat.eq_of_beq_eq_true c3) (by simpa using ha) (by simpa using hb)
        rw [show d + 2 = (d + 1) + 1 from rfl]
        generalize d + 1 = dd at this ⊢
        simp only [Op.equalIn, Sem.run_bind, run_und hu, Result.andThen_ok, run_program, c4, Bool.false_eq_true, if_false]
        rw [← Array.forIn_toList]
        simpa only [Sem.run_bind] using this
      · cases h
    · cases h
  · cases h

theorem keyEq_bits (d : Nat) {t : TypeId} {a b : AV} {x y : Value} (h : keyEq P t a b = some true) (hx : conc σ ρ a = some x) (hy : conc σ ρ b = some y) :
    Instr.sameBits (d + 1) y x = true := by
  unfold keyEq at h
  split at h
  · rename_i k n k' m
    split at h
    · rename_i hi hk
      simp only [conc, Option.some.injEq] at hx hy
      subst hx; subst hy
      have : k = k' := by simpa using hk
      subst this
      rw [ieq_eq] at h
      simp at h
      simp [Instr.sameBits, h]
    · cases h
  · rename_i n m
    split at h
    · simp only [conc, Option.some.injEq] at hx hy
      subst hx; subst hy
      rw [beqs_eq] at h
      simp at h
      simp [Instr.sameBits, h, bytes_beq]
    · cases h
  · rename_i n m
    split at h
    · split at h
      · obtain ⟨xs, ha, rfl⟩ := conc_agg hx
        obtain ⟨ys, hb, rfl⟩ := conc_agg hy
        have : ∀ (n m : List AV) (xs ys : List Value), beqIs n m = some true → concs σ ρ n = some xs → concs σ ρ m = some ys → ys.length = xs.length ∧ (ys.zip xs).all (fun (x, y) => Instr.sameBits d x y) = true := by
          intro n
          induction n with
          | nil =>
            intro m xs ys hb ha hc
            cases m with
            | nil => cases ha; cases hc; simp
            | cons b m => cases hb
          | cons a n ih =>
            intro m xs ys hb ha hc
            cases m with
            | nil => cases hb
            | cons b m =>
              simp only [concs] at ha hc
              split at ha
              · rename_i x0 x1 hx0 hx1
                cases ha
                split at hc
                · rename_i y0 y1 hy0 hy1
                  cases hc
                  rcases beqIs_cons hb with ⟨q1, q2⟩ | ⟨_, q2⟩
                  · obtain ⟨k, i, j, rfl, rfl, e⟩ := beqI_eq q1 hx0 hy0
                    have e : i = j := by simpa using e.symm
                    obtain ⟨r1, r2⟩ := ih m x1 y1 q2 hx1 hy1
                    refine ⟨by simp [r1], ?_⟩
                    simp only [List.zip_cons_cons, List.all_cons, r2, Bool.and_true]
                    cases d <;> simp [Instr.sameBits, e]
                  · cases q2
                · cases hc
              · cases ha
        obtain ⟨r1, r2⟩ := this n m xs ys h ha hb
        simp [Instr.sameBits, r1, r2]
      · cases h
    · cases h
  · cases h

theorem check_loop (d : Nat) (b : Bool) (xs : List Value) : ∀ (l : List Field) (i : Nat), intFields P i l = true → i + l.length ≤ xs.length →
    (do
      for f in l do
        if f.name ≠ "_" then Instr.checkKey b (d + 1) f.type (← part f.type xs.toArray f.offset) : Sem Unit).run P w = .ok () w := by
  intro l
  induction l with
  | nil => intro i _ _; simp
  | cons f l ih =>
    intro i hf hl
    obtain ⟨hk, hn, ho, hl'⟩ := intFields_cons hf
    simp only [List.length_cons] at hl
    obtain ⟨v0, hv0⟩ : ∃ v0, xs[i]? = some v0 := ⟨_, List.getElem?_eq_getElem (show i < xs.length by omega)⟩
    have p1 := part_int (P := P) (xs := xs) hk hv0 w
    rw [← ho] at p1
    have hc : ∀ v, (Instr.checkKey b (d + 1) f.type v).run P w = .ok () w := fun v => by
      obtain ⟨k, hu⟩ := hk
      simp [Instr.checkKey, run_und hu]
    have := ih (i + 1) hl' (by omega)
    simp only [List.forIn_cons, Sem.run_bind] at this ⊢
    simp only [hn, ne_eq, not_false_eq_true, if_true, Sem.run_bind, p1, hc, Result.andThen_ok, Sem.run_pure]
    exact this
theorem checkKey_run (d : Nat) (e : Bool) {t : TypeId} {a : AV} {x : Value} (h : keyOk P t a = true) (hx : conc σ ρ a = some x) : (Instr.checkKey e (d + 2) t x).run P w = .ok () w := by
  unfold keyOk at h
  split at h
  · obtain ⟨k, hu⟩ := intKey_und h
    simp only [conc, Option.some.injEq] at hx
    subst hx
    simp [Instr.checkKey, run_und hu]
  · split at h
    · rename_i hu
      simp only [conc, Option.some.injEq] at hx
      subst hx
      simp [Instr.checkKey, run_und hu]
    · cases h
  · rename_i n
    split at h
    · rename_i fs hu
      simp only [Bool.and_eq_true] at h
      obtain ⟨xs, ha, rfl⟩ := conc_agg hx
      have hl := concs_length ha
      have h2 := Nat.eq_of_beq_eq_true h.2
      have := check_loop (P := P) (w := w) d e xs fs.toList 0 h.1 (by simp; omega)
      rw [show d + 2 = (d + 1) + 1 from rfl]
      generalize d + 1 = dd at this ⊢
      simp only [Instr.checkKey, Sem.run_bind, run_und hu, Result.andThen_ok]
      rw [← Array.forIn_toList]
      simpa only [Sem.run_bind] using this
    · cases h
  · cases h

theorem ents_get : ∀ {es : List (AV × AV × Nat)} {l : List MapEntry} {i : Nat} {e : AV × AV × Nat}, Ents σ ρ es l → es[i]? = some e →
    ∃ m, l[i]? = some m ∧ conc σ ρ e.1 = some m.key ∧ conc σ ρ e.2.1 = some m.val ∧ m.born = e.2.2
  | [], l, i, e, h, he => by simp at he
  | x :: es, [], i, e, h, he => by cases h
  | (k, v, b) :: es, m :: l, i, e, ⟨h1, h2, h3, h4⟩, he => by
    cases i with
    | zero => simp only [List.getElem?_cons_zero, Option.some.injEq] at he; subst he; exact ⟨m, rfl, h1, h2, h3⟩
    | succ i =>
      have := ents_get (i := i) h4 (by simpa using he)
      simpa using this
theorem ents_length : ∀ {es : List (AV × AV × Nat)} {l : List MapEntry}, Ents σ ρ es l → l.length = es.length
  | [], [], _ => rfl
  | [], _ :: _, h => h.elim
  | _ :: _, [], h => by cases h
  | (k, v, b) :: es, m :: l, ⟨_, _, _, h4⟩ => by simp [ents_length h4]
theorem ents_of : ∀ {es : List (AV × AV × Nat)} {l : List MapEntry}, l.length = es.length → (∀ (i : Nat) (e : AV × AV × Nat), es[i]? = some e → ∃ m, l[i]? = some m ∧ conc σ ρ e.1 = some m.key ∧ conc σ ρ e.2.1 = some m.val ∧ m.born = e.2.2) → Ents σ ρ es l
  | [], l, h, _ => by
    have : l = [] := List.length_eq_zero_iff.1 h
    subst this; trivial
  | e :: es, [], h, _ => by simp at h
  | (k, v, b) :: es, m :: l, h, g => by
    obtain ⟨m', a1, a2, a3, a4⟩ := g 0 (k, v, b) rfl
    simp only [List.getElem?_cons_zero, Option.some.injEq] at a1
    subst a1
    exact ⟨a2, a3, a4, ents_of (by simpa using h) (fun i e he => by
      have := g (i + 1) e (by simpa using he)
      simpa using this)⟩

def easyD : TypeDesc → Bool
  | .int _ | .string => true
  | _ => false
/-- The one way of the search that tells of likeness at once. -/
theorem findNow_run {t : TypeId} {k : AV} {x : Value} {D : TypeDesc} (hu : P.underlying t = some D) (hn : easyD D = true) (hx : conc σ ρ k = some x) :
    ∀ {es : List (AV × AV × Nat)} {l : List MapEntry} {i : Nat} {r : Option Nat}, Ents σ ρ es l → idxA P t k es i = some r →
      Instr.findNow D x l i = some (r.map fun j => (j, ((l[j - i]?).map (·.val)).getD undef)) ∧ (∀ j, r = some j → i ≤ j ∧ j < i + l.length)
  | [], l, i, r, h, e => by
    have : l = [] := List.length_eq_zero_iff.1 (ents_length h)
    subst this
    cases e
    exact ⟨rfl, fun j hj => by cases hj⟩
  | (k', v, b) :: es, [], i, r, h, e => by cases h
  | (k', v, b) :: es, m :: l, i, r, ⟨h1, h2, h3, h4⟩, e => by
    have now : ∀ q, keyEq P t k k' = some q → Instr.sameNow D x m.key = some q := fun q hq => by
      unfold keyEq at hq
      split at hq
      · rename_i kk n kk' mm
        split at hq
        · rename_i hi hk
          cases hq
          simp only [conc, Option.some.injEq] at hx h1
          have : kk = kk' := by simpa using hk
          subst this
          obtain ⟨k2, hu2⟩ := intKey_und hi
          rw [hu] at hu2; cases hu2
          rw [← hx, ← h1]
          simp [Instr.sameNow, ieq_eq]
        · cases hq
      · rename_i n mm
        split at hq
        · rename_i hu2
          cases hq
          simp only [conc, Option.some.injEq] at hx h1
          rw [hu] at hu2; cases hu2
          rw [← hx, ← h1]
          simp only [Instr.sameNow, Option.some.injEq]
          rw [beqs_eq, bytes_beq]
        · cases hq
      · split at hq
        · rename_i hu2
          rw [hu] at hu2; cases hu2
          simp [easyD] at hn
        · cases hq
      · cases hq
    unfold idxA at e
    split at e
    · rename_i hq
      cases e
      refine ⟨by simp [Instr.findNow, now _ hq], fun j hj => ?_⟩
      cases hj; simp
    · rename_i hq
      obtain ⟨q1, q2⟩ := findNow_run hu hn hx h4 e
      refine ⟨?_, fun j hj => by have := q2 j hj; simp; omega⟩
      simp only [Instr.findNow, now _ hq, q1]
      cases r with
      | none => rfl
      | some j =>
        have := q2 j rfl
        simp only [Option.map_some, Option.some.injEq, Prod.mk.injEq, true_and]
        rw [show j - i = (j - (i + 1)) + 1 by omega]; simp
    · cases e

theorem findAsking_run {t : TypeId} {k : AV} {x : Value} (hx : conc σ ρ k = some x) :
    ∀ {es : List (AV × AV × Nat)} {l : List MapEntry} {i : Nat} {r : Option Nat}, Ents σ ρ es l → idxA P t k es i = some r →
      (Instr.findAsking t x l i).run P w = .ok (r.map fun j => (j, ((l[j - i]?).map (·.val)).getD undef)) w ∧ (∀ j, r = some j → i ≤ j ∧ j < i + l.length)
  | [], l, i, r, h, e => by
    have : l = [] := List.length_eq_zero_iff.1 (ents_length h)
    subst this
    cases e
    exact ⟨rfl, fun j hj => by cases hj⟩
  | (k', v, b) :: es, [], i, r, h, e => by cases h
  | (k', v, b) :: es, m :: l, i, r, ⟨h1, h2, h3, h4⟩, e => by
    have ask : ∀ q, keyEq P t k k' = some q → (Op.equal t x m.key).run P w = .ok q w := fun q hq => keyEq_equal 9998 hq hx h1
    unfold idxA at e
    split at e
    · rename_i hq
      cases e
      refine ⟨by simp [Instr.findAsking, ask _ hq], fun j hj => ?_⟩
      cases hj; simp
    · rename_i hq
      obtain ⟨q1, q2⟩ := findAsking_run hx h4 e
      refine ⟨?_, fun j hj => by have := q2 j hj; simp; omega⟩
      simp only [Instr.findAsking, Sem.run_bind, ask _ hq, Result.andThen_ok, Bool.false_eq_true, if_false, q1]
      cases r with
      | none => rfl
      | some j =>
        have := q2 j rfl
        simp only [Option.map_some]
        rw [show j - i = (j - (i + 1)) + 1 by omega]; simp
    · cases e

theorem findKey_run {t : TypeId} {k : AV} {x : Value} (hx : conc σ ρ k = some x) (hk : keyOk P t k = true) {es : List (AV × AV × Nat)} {l : List MapEntry} {r : Option Nat} (h : Ents σ ρ es l) (e : idxA P t k es 0 = some r) :
    (Instr.findKey t x l).run P w = .ok (r.map fun j => (j, ((l[j]?).map (·.val)).getD undef)) w ∧ (∀ j, r = some j → j < l.length) := by
  have hu : ∃ D, P.underlying t = some D ∧ (easyD D = true ∨ ∃ fs, D = .struct fs) := by
    unfold keyOk at hk
    split at hk
    · obtain ⟨k', h'⟩ := intKey_und hk; exact ⟨_, h', .inl rfl⟩
    · split at hk
      · rename_i h'; exact ⟨_, h', .inl rfl⟩
      · cases hk
    · split at hk
      · rename_i fs h'; exact ⟨_, h', .inr ⟨fs, rfl⟩⟩
      · cases hk
    · cases hk
  obtain ⟨D, hD, hor⟩ := hu
  rcases hor with hn | ⟨fs, rfl⟩
  · obtain ⟨q1, q2⟩ := findNow_run (P := P) hD hn hx h e
    refine ⟨?_, fun j hj => by have := q2 j hj; omega⟩
    simp only [Instr.findKey, Sem.run_bind, run_und hD, Result.andThen_ok, q1]
    simp
  · obtain ⟨q1, q2⟩ := findAsking_run (P := P) (w := w) hx h e
    refine ⟨?_, fun j hj => by have := q2 j hj; omega⟩
    simp only [Instr.findKey, Sem.run_bind, run_und hD, Result.andThen_ok]
    have q1' : (Instr.findAsking t x l 0).run P w = .ok (r.map fun j => (j, ((l[j]?).map (·.val)).getD undef)) w := by simpa using q1
    cases l with
    | nil =>
      simp only [Instr.findNow]
      cases r with
      | none => rfl
      | some j => have := q2 j rfl; simp at this
    | cons m l =>
      have : Instr.findNow (.struct fs) x (m :: l) 0 = none := by
        simp only [Instr.findNow]
        have : Instr.sameNow (.struct fs) x m.key = none := rfl
        rw [this]
      rw [this]
      exact q1'
end
end Ev
end Go.Proofs.YtpppaheennkkpaaGreatDoor

/- What an operation that turns nothing comes to is what it comes to in the program. -/
namespace Go.Proofs.YtpppaheennkkpaaGreatDoor
namespace Ev

section
variable {σ : Nat → Value} {ρ : Place} {P : Program} {H : Heap} {w : World}

def FOK (σ : Nat → Value) (ρ : Place) (P : Program) (a : Act) (o : Oper) (w : World) : Out → Prop
  | .val v => ∃ v', (execOp a.eval o).run P w = .ok (.value v') w ∧ conc σ ρ v = some v'
  | .new k _ g => ∃ v' w' x N, (execOp a.eval o).run P w = .ok (.value v') w' ∧ w'.heap = w.heap.push x ∧ (w'.os = w.os ∧ w'.output = w.output ∧ w'.tape = w.tape) ∧
      ∀ id, ρ id = none → BR σ (ρ.with id ⟨w.heap.size, 0, N⟩) ⟨w.heap.size, 0, N⟩ (some x) k ∧ conc σ (ρ.with id ⟨w.heap.size, 0, N⟩) (g id) = some v'
theorem FOK_of {a : Act} {o : Oper} {s : Sem Value} {r : Out} (he : execOp a.eval o = (do pure (.value (← s)))) (h : OOK σ ρ P w s r) : FOK σ ρ P a o w r := by
  cases r with
  | val v =>
    obtain ⟨v', h1, h2⟩ := h
    exact ⟨v', by simp [he, h1], h2⟩
  | new k n g =>
    obtain ⟨v', w', x, N, h1, h2, h3, h4⟩ := h
    exact ⟨v', w', x, N, by simp [he, h1], h2, h3, h4⟩
theorem FOK_val {a : Act} {o : Oper} {s : Sem Value} {v : AV} (he : execOp a.eval o = (do pure (.value (← s)))) (h : Says σ ρ P w s v) : FOK σ ρ P a o w (.val v) := FOK_of he h

theorem evs_conc {f : Fr} {a : Act} {L : List Operand} (h : EV σ ρ f a L) : ∀ {l : List Operand} {vs : List AV}, (∀ x, x ∈ l → x ∈ L) → evs f l = some vs → concs σ ρ vs = some (l.map a.eval)
  | [], vs, _, e => by cases e; rfl
  | x :: l, vs, hm, e => by
    unfold evs at e
    split at e
    · rename_i u us hu hus
      cases e
      simp [concs, h.one (hm x (by simp)) hu, evs_conc h (fun y hy => hm y (by simp [hy])) hus]
    · cases e
theorem with_le {id : Nat} {p : Pl} (h : ρ id = none) : ρ.le (ρ.with id p) := Place.with_le h

/-- A row of cells made anew. -/
theorem makes_row {l : List AV} {vs : List Value} {t : TypeId} {s : Sem Value} {g : Nat → AV} {n : Nat} {v' : Value} {k : ABlk} (hl : concs σ ρ l = some vs)
    (hs : s.run P w = .ok v' (w.alloc (.cells vs.toArray t))) (hk : k = .cells (T.lay (dep l.length) (.leaf default) 0 l) l.length t)
    (hg : ∀ id, conc σ (ρ.with id ⟨w.heap.size, 0, vs.length⟩) (g id) = some v') : OOK σ ρ P w s (.new k n g) :=
  ⟨v', _, .cells vs.toArray t, vs.length, hs, rfl, ⟨rfl, rfl, rfl⟩, fun id hid => ⟨by rw [hk]; exact BR_fresh (concs_mono (with_le hid) _ _ hl) _ _, hg id⟩⟩

/-- Cells put into a row. -/
def setAtV (cs : List Value) (off : Nat) (vs : List Value) : List Value := cs.take off ++ vs ++ cs.drop (off + vs.length)
theorem zipIdx_fold : ∀ (vs cs : List Value) (off j : Nat), off + j + vs.length ≤ cs.length →
    ((vs.zipIdx j).foldl (fun (acc : Array Value) (x : Value × Nat) => acc.setIfInBounds (off + x.2) x.1) cs.toArray) = (setAtV cs (off + j) vs).toArray
  | [], cs, off, j, _ => by simp [setAtV]
  | v :: vs, cs, off, j, h => by
    simp only [List.length_cons] at h
    have hb : off + j < cs.length := by omega
    rw [List.zipIdx_cons, List.foldl_cons]
    have e : cs.toArray.setIfInBounds (off + j) v = (cs.set (off + j) v).toArray := by simp
    show List.foldl _ (cs.toArray.setIfInBounds (off + j) v) _ = _
    rw [e, zipIdx_fold vs (cs.set (off + j) v) off (j + 1) (by simp; omega)]
    congr 1
    unfold setAtV
    have e1 : (cs.set (off + j) v).take (off + (j + 1)) = cs.take (off + j) ++ [v] := by
      rw [List.take_set, ← Nat.add_assoc, List.take_succ_eq_append_getElem hb, List.set_append]
      simp [Nat.min_eq_left (Nat.le_of_lt hb)]
    rw [e1, List.drop_set_of_lt (by omega)]
    simp [Nat.add_assoc, Nat.add_comm, Nat.add_left_comm]
theorem setAt_conc {l vs : List AV} {x y : List Value} {off : Nat} (hl : concs σ ρ l = some x) (hv : concs σ ρ vs = some y) : concs σ ρ (setAt l off vs) = some (setAtV x off y) := by
  unfold setAt setAtV
  rw [concs_length hv]
  exact concs_append (concs_append (concs_take _ hl) hv) (concs_drop _ hl)

/-- Parts, with their places. -/
def PC (σ : Nat → Value) (ρ : Place) : List (Nat × AV) → List (Nat × Value) → Prop
  | [], [] => True
  | (i, a) :: l, (j, v) :: m => i = j ∧ conc σ ρ a = some v ∧ PC σ ρ l m
  | _, _ => False
theorem evParts_conc {f : Fr} {a : Act} {L : List Operand} (h : EV σ ρ f a L) : ∀ {l : List (Nat × Operand)} {vs : List (Nat × AV)}, (∀ x, x ∈ l → x.2 ∈ L) → evParts f l = some vs → PC σ ρ vs (l.map fun (i, x) => (i, a.eval x))
  | [], vs, _, e => by cases e; trivial
  | (i, x) :: l, vs, hm, e => by
    unfold evParts at e
    split at e
    · rename_i u us hu hus
      cases e
      exact ⟨rfl, h.one (hm (i, x) (by simp)) hu, evParts_conc h (fun y hy => hm y (by simp [hy])) hus⟩
    · cases e
theorem fillA_run (hs : ∀ i, (σ i).oneCell' = true) {place : Nat → Option (Nat × Nat)} : ∀ {ps : List (Nat × AV)} {qs : List (Nat × Value)} {cells l : List AV} {cv : List Value}, fillA place cells ps = some l → PC σ ρ ps qs → concs σ ρ cells = some cv →
    ∃ lv, Instr.fill place cv.toArray qs = some lv.toArray ∧ concs σ ρ l = some lv
  | [], [], cells, l, cv, h, _, hc => by cases h; exact ⟨cv, rfl, hc⟩
  | [], _ :: _, _, _, _, _, hp, _ => hp.elim
  | _ :: _, [], _, _, _, _, hp, _ => by cases hp
  | (i, a) :: ps, (j, v) :: qs, cells, l, cv, h, ⟨hij, ha, hp⟩, hc => by
    subst hij
    unfold fillA at h
    split at h
    · cases h
    · rename_i off size hpl
      split at h
      · rename_i h1 h2
        have h1 := Nat.eq_of_beq_eq_true h1
        have h2 := Nat.le_of_ble_eq_true h2
        have hv := concs_cells ha hs
        have lv := concs_length hv
        have lc := concs_length hc
        obtain ⟨r, r1, r2⟩ := fillA_run hs h hp (setAt_conc hc hv)
        refine ⟨r, ?_, r2⟩
        have hsz : v.cells.size = (cellsOf a).length := by rw [← lv]; simp
        have hne : ¬ ((v.cells.size ≠ size || decide (off + v.cells.size > cv.toArray.size)) = true) := by
          simp; omega
        have hf := zipIdx_fold v.cells.toList cv off 0 (by omega)
        rw [Nat.add_zero] at hf
        simp only [Instr.fill, hpl]
        rw [if_neg hne]
        have : (v.cells.zipIdx.foldl (fun (cs : Array Value) (x : Value × Nat) => cs.setIfInBounds (off + x.2) x.1) cv.toArray) = (setAtV cv off v.cells.toList).toArray := by
          rw [← hf, ← Array.foldl_toList, Array.toList_zipIdx]
        rw [← r1, ← this]
      · cases h

theorem reps_conc {z : List AV} {zv : List Value} (h : concs σ ρ z = some zv) : ∀ n, concs σ ρ (reps z n) = some (List.replicate n zv).flatten
  | 0 => rfl
  | n + 1 => by
    rw [reps, List.replicate_succ, List.flatten_cons]
    exact concs_append h (reps_conc h n)
theorem reps_length (z : List AV) : ∀ n, (reps z n).length = n * z.length
  | 0 => by simp [reps]
  | n + 1 => by rw [reps, List.length_append, reps_length z n, Nat.succ_mul, Nat.add_comm]
theorem range_reps (zv : List Value) (hz : 0 < zv.length) (n : Nat) : ((Array.range (n * zv.length)).map fun i => zv.toArray[i % zv.toArray.size]!) = (List.replicate n zv).flatten.toArray := by
  apply Array.ext_getElem?
  intro i
  have key : ∀ (n i : Nat), i < n * zv.length → (List.replicate n zv).flatten[i]? = zv[i % zv.length]? := by
    intro n
    induction n with
    | zero => intro i h; simp at h
    | succ n ih =>
      intro i h
      rw [List.replicate_succ, List.flatten_cons]
      rw [Nat.succ_mul] at h
      by_cases hi : i < zv.length
      · rw [List.getElem?_append_left hi, Nat.mod_eq_of_lt hi]
      · rw [List.getElem?_append_right (by omega), ih _ (by omega), Nat.mod_eq_sub_mod (Nat.le_of_not_lt hi)]
  by_cases hi : i < n * zv.length
  · have hm : i % zv.length < zv.length := Nat.mod_lt _ hz
    have k := key n i hi
    rw [List.getElem?_eq_getElem hm] at k
    simp [hi, hm]
    exact (List.getElem?_eq_some_iff.1 k).2.symm
  · rw [Array.getElem?_eq_none (by simpa using hi), Array.getElem?_eq_none]
    simp [List.length_flatten]
    simpa using hi
end
end Ev
end Go.Proofs.YtpppaheennkkpaaGreatDoor

/- What an operation that turns nothing comes to: maps, tests of kinds, lengths. -/
namespace Go.Proofs.YtpppaheennkkpaaGreatDoor
namespace Ev

section
variable {σ : Nat → Value} {ρ : Place} {P : Program} {H : Heap} {w : World}

theorem check_any (b : Bool) {t : TypeId} {k : AV} {k' : Value} (h : keyOk P t k = true) (hk : conc σ ρ k = some k') : (Instr.checkKey b 10000 t k').run P w = .ok () w :=
  checkKey_run 9998 b h hk
theorem map_obj (hr : HR σ ρ H w.heap) {id : Nat} {p : Pl} {es : List (AV × AV × Nat)} {clock : Nat} (hp : ρ id = some p) (hg : H.get id = some (.map es clock)) :
    ∃ l, w.heap[p.b]? = some (.map l.toArray clock) ∧ Ents σ ρ es l := by
  obtain ⟨q, hq, hb⟩ := hr.live id _ (hr.lt hp) hg
  rw [hp] at hq; cases hq
  exact hb
theorem getObj_map {b : Nat} {es : Array MapEntry} {clock : Nat} (h : w.heap[b]? = some (.map es clock)) : (getObj b).run P w = .ok (.map es clock) w := by
  simp [getObj, Sem.run, h]
theorem setObj_map {b : Nat} {es : Array MapEntry} {clock : Nat} (o : Obj) (h : w.heap[b]? = some (.map es clock)) : (setObj b o).run P w = .ok () { w with heap := w.heap.setIfInBounds b o } := by
  simp [setObj, Sem.run, h]

/-- The end of a look-up. -/
theorem look_end {es : List (AV × AV × Nat)} {l : List MapEntry} {kt et : TypeId} {k z v : AV} {k' zv : Value} {ok : Bool} (he : Ents σ ρ es l) (hko : keyOk P kt k = true) (hk : conc σ ρ k = some k')
    (hz1 : (zeroValue et).run P w = .ok zv w) (hz2 : conc σ ρ z = some zv)
    (h : (match idxA P kt k es 0 with
      | some (some i) => match es[i]? with
        | some e => some (if ok then AV.tup [e.2.1, .bool true] else e.2.1)
        | none => none
      | some none => some (if ok then AV.tup [z, .bool false] else z)
      | none => none) = some v) :
    ∃ (r : Option (Nat × Value)) (u : Value) (b : Bool), (Instr.findKey kt k' l).run P w = .ok r w ∧ ((match r with
      | some (_, v) => pure (v, true)
      | none => do pure (← zeroValue et, false) : Sem (Value × Bool))).run P w = .ok (u, b) w ∧ conc σ ρ v = some (if ok then .tuple #[u, .bool b] else u) := by
  split at h
  · rename_i i hi
    obtain ⟨q1, q2⟩ := findKey_run (P := P) (w := w) hk hko he hi
    split at h
    · rename_i e hei
      cases h
      obtain ⟨m, m1, m2, m3, m4⟩ := ents_get he hei
      refine ⟨_, m.val, true, q1, by simp [m1], ?_⟩
      cases ok
      · exact m3
      · simp [conc, concs, m3]
    · cases h
  · rename_i hi
    obtain ⟨q1, q2⟩ := findKey_run (P := P) (w := w) hk hko he hi
    cases h
    refine ⟨_, zv, false, q1, by simp [hz1], ?_⟩
    cases ok
    · exact hz2
    · simp [conc, concs, hz2]
  · cases h

theorem lookA_run (hr : HR σ ρ H w.heap) {t : TypeId} {m k v : AV} {ok : Bool} {m' k' : Value} (h : lookA P t m k ok H = some v) (hm : conc σ ρ m = some m') (hk : conc σ ρ k = some k') :
    Says σ ρ P w (Instr.lookup t m' k' ok) v := by
  unfold lookA at h
  split at h
  · rename_i kt et hu
    split at h
    · rename_i z hko hz
      obtain ⟨zv, hz1, hz2⟩ := run_zero (σ := σ) (ρ := ρ) hz w
      cases m with
      | nilm =>
        simp only [conc, Option.some.injEq] at hm
        subst hm
        obtain ⟨r, u, b, e1, e2, e3⟩ := look_end (es := []) (l := []) trivial hko hk hz1 hz2 h
        refine ⟨_, ?_, e3⟩
        simp only [Instr.lookup, Sem.run_bind, run_und hu, Result.andThen_ok, Sem.run_pure, check_any _ hko hk, e1]
        cases r with
        | none => simp only [Sem.run_bind, hz1, Result.andThen_ok, Sem.run_pure] at e2 ⊢; cases e2; rfl
        | some x => simp only [Sem.run_pure] at e2 ⊢; cases e2; rfl
      | map id =>
        obtain ⟨p, hp, rfl⟩ := conc_map hm
        simp only at h
        split at h
        · rename_i es hes
          split at hes
          · rename_i es' clock hg
            cases hes
            obtain ⟨l, o1, o2⟩ := map_obj hr hp hg
            obtain ⟨r, u, b, e1, e2, e3⟩ := look_end o2 hko hk hz1 hz2 h
            refine ⟨_, ?_, e3⟩
            simp only [Instr.lookup, Sem.run_bind, run_und hu, Result.andThen_ok, getObj_map o1, Sem.run_pure, check_any _ hko hk, e1]
            cases r with
            | none => simp only [Sem.run_bind, hz1, Result.andThen_ok, Sem.run_pure] at e2 ⊢; cases e2; rfl
            | some x => simp only [Sem.run_pure] at e2 ⊢; cases e2; rfl
          · cases hes
        · cases h
      | _ => simp at h
    · cases h
  · cases h

theorem assertA_run {x r : AV} {xt asserted : TypeId} {ok : Bool} {x' : Value} (h : assertA P x asserted ok = some r) (hx : conc σ ρ x = some x') :
    Says σ ρ P w (Instr.typeAssert x' xt asserted ok) r := by
  unfold assertA at h
  split at h
  · rename_i want hu
    split at h
    · split at h
      · rename_i z hz
        cases h
        obtain ⟨zv, hz1, hz2⟩ := run_zero (σ := σ) (ρ := ρ) hz w
        simp only [conc, Option.some.injEq] at hx
        subst hx
        exact ⟨.tuple #[zv, .bool false], by simp [Instr.typeAssert, run_und hu, hz1], by simp [conc, concs, hz2]⟩
      · cases h
    · rename_i t v
      obtain ⟨y, hy, rfl⟩ := conc_iface hx
      split at h
      · rename_i i hi
        split at h
        · rename_i hm
          cases h
          refine ⟨if ok then .tuple #[.iface t y, .bool true] else .iface t y, by simp [Instr.typeAssert, run_und hu, run_info hi, hm], ?_⟩
          cases ok
          · simp [conc, hy]
          · simp [conc, concs, hy]
        · rename_i mm hm
          split at h
          · rename_i z hz
            cases h
            obtain ⟨zv, hz1, hz2⟩ := run_zero (σ := σ) (ρ := ρ) hz w
            exact ⟨.tuple #[zv, .bool false], by simp [Instr.typeAssert, run_und hu, run_info hi, hm, hz1], by simp [conc, concs, hz2]⟩
          · cases h
      · cases h
    · cases h
  · rename_i D hne hu
    split at h
    · split at h
      · rename_i z hz
        cases h
        obtain ⟨zv, hz1, hz2⟩ := run_zero (σ := σ) (ρ := ρ) hz w
        simp only [conc, Option.some.injEq] at hx
        subst hx
        refine ⟨.tuple #[zv, .bool false], ?_, by simp [conc, concs, hz2]⟩
        cases D <;> first | (exact (hne _ rfl).elim) | simp [Instr.typeAssert, run_und hu, hz1]
      · cases h
    · rename_i t v
      obtain ⟨y, hy, rfl⟩ := conc_iface hx
      split at h
      · rename_i ht
        cases h
        have ht := Nat.eq_of_beq_eq_true ht
        refine ⟨if ok then .tuple #[y, .bool true] else y, ?_, ?_⟩
        · cases D <;> first | (exact (hne _ rfl).elim) | simp [Instr.typeAssert, run_und hu, ht]
        · cases ok
          · exact hy
          · simp [conc, concs, hy]
      · rename_i ht
        have ht : ¬ t = asserted := fun e => by subst e; simp at ht
        split at h
        · rename_i z hz
          cases h
          obtain ⟨zv, hz1, hz2⟩ := run_zero (σ := σ) (ρ := ρ) hz w
          refine ⟨.tuple #[zv, .bool false], ?_, by simp [conc, concs, hz2]⟩
          cases D <;> first | (exact (hne _ rfl).elim) | simp [Instr.typeAssert, run_und hu, ht, hz1]
        · cases h
    · cases h
  · cases h

theorem lenA_run (hr : HR σ ρ H w.heap) {t _u ty : TypeId} {ts : Array TypeId} {x v : AV} {x' : Value} (h : lenA P t x H = some v) (hx : conc σ ρ x = some x') (ht : ts[0]? = some t) :
    Says σ ρ P w (Builtin.len_ ts ty #[x']) v := by
  unfold lenA at h
  split at h
  · rename_i s hu
    cases h
    simp only [conc, Option.some.injEq] at hx
    subst hx
    have hs : (⟨s.toArray⟩ : ByteArray).size = s.length := by simp [ByteArray.size]
    exact ⟨goInt s.length, by simp [Builtin.len_, ht, run_und hu, hs], rfl⟩
  · rename_i n e hu
    cases h
    exact ⟨goInt n, by simp [Builtin.len_, ht, run_und hu], rfl⟩
  · rename_i e hu
    cases h
    simp only [conc, Option.some.injEq] at hx
    subst hx
    exact ⟨goInt 0, by simp [Builtin.len_, ht, run_und hu], rfl⟩
  · rename_i e id off n cap hu
    cases h
    obtain ⟨p, hp, rfl⟩ := conc_slice hx
    exact ⟨goInt n, by simp [Builtin.len_, ht, run_und hu], rfl⟩
  · rename_i e id off0 off n k hu
    cases h
    obtain ⟨p, hp, _, _, _, rfl⟩ := conc_osl hx
    exact ⟨goInt n, by simp [Builtin.len_, ht, run_und hu], rfl⟩
  · rename_i kt e hu
    cases h
    simp only [conc, Option.some.injEq] at hx
    subst hx
    exact ⟨goInt 0, by simp [Builtin.len_, ht, run_und hu], rfl⟩
  · rename_i kt e id hu
    split at h
    · rename_i es clock hg
      cases h
      obtain ⟨p, hp, rfl⟩ := conc_map hx
      obtain ⟨l, o1, o2⟩ := map_obj hr hp hg
      exact ⟨goInt l.length, by simp [Builtin.len_, ht, run_und hu, getObj_map o1], by rw [ents_length o2]; rfl⟩
    · cases h
  · cases h

theorem minA_run {mx : Bool} : ∀ {l : List AV} {v r : AV} {v' : Value} {vs : List Value}, minA mx v l = some r → conc σ ρ v = some v' → concs σ ρ l = some vs →
    Says σ ρ P w (vs.foldlM (if mx then Builtin.max2 else Builtin.min2) v') r
  | [], v, r, v', vs, h, hv, hl => by
    cases hl
    simp only [minA, Option.some.injEq] at h
    subst h
    exact ⟨v', by simp, hv⟩
  | a :: l, v, r, v', vs, h, hv, hl => by
    simp only [concs] at hl
    split at hl
    · rename_i y ys hy hys
      cases hl
      unfold minA at h
      split at h
      · cases ‹_ :: _ = []›
      · rename_i k x k' z l' heq
        cases heq
        simp only [conc, Option.some.injEq] at hv hy
        subst hv; subst hy
        have := minA_run (v' := .int k (if (if mx then ilt x z else ilt z x) then z else x)) h rfl hys
        obtain ⟨u, h1, h2⟩ := this
        refine ⟨u, ?_, h2⟩
        rw [← h1]
        cases mx
        · simp [List.foldlM_cons, Builtin.min2, ilt_eq]
        · simp [List.foldlM_cons, Builtin.max2, ilt_eq]
      · cases h
    · cases hl
end
end Ev
end Go.Proofs.YtpppaheennkkpaaGreatDoor

/- What an operation that turns nothing comes to: all of them. -/
namespace Go.Proofs.YtpppaheennkkpaaGreatDoor
namespace Ev

section
variable {σ : Nat → Value} {ρ : Place} {P : Program} {H : Heap} {w : World}

theorem cells_size {a : AV} {v : Value} (h : conc σ ρ a = some v) (hs : ∀ i, (σ i).oneCell' = true) : v.cells.size = (cellsOf a).length := by
  have := concs_length (concs_cells h hs); simpa using this
theorem treeOf_get {z : List AV} {n i : Nat} (hz : 0 < z.length) (hi : i < n * z.length) : (reps z n)[i]? = some ((treeOf z n).get i) := by
  unfold treeOf
  split
  · rename_i v
    have : ∀ n, (reps [v] n) = List.replicate n v := fun n => by
      induction n with
      | zero => rfl
      | succ n ih => rw [reps, ih]; rfl
    rw [this, List.getElem?_replicate]
    simp only [List.length_singleton, Nat.mul_one] at hi
    rw [if_pos hi]; rfl
  · have hl := reps_length z n
    have := T.get_lay_in (d := dep (n * z.length)) (reps z n) (.leaf default) 0 i (by have := lt_dep (n * z.length); omega) (by omega) (by omega)
    simpa using this

theorem fieldPlace_run {b o : Nat} {g : Field} {n : Nat} (h : sizeA P g.type = some (n + 1)) (w : World) : (fieldPlace ⟨b, o, none⟩ g).run P w = .ok ⟨b, o + g.offset, none⟩ w := by
  simp [fieldPlace, run_size h, add_none]
theorem places_list : ∀ (l : List Field), sized P l = true → (l.mapM (fun g : Field => (do pure (g.offset, ← sizeOf g.type) : Sem (Nat × Nat)))).run P w = .ok (l.map fun f => (f.offset, (sizeA P f.type).getD 0)) w
  | [], _ => by simp
  | g :: l, hl => by
    simp only [sized, List.all_cons, Bool.and_eq_true] at hl
    obtain ⟨s, hs'⟩ := Option.isSome_iff_exists.1 hl.1
    have ih := places_list l hl.2
    simp only [List.mapM_cons, Sem.run_bind, run_size hs', Result.andThen_ok, Sem.run_pure] at ih ⊢
    rw [ih]
    simp [hs']

theorem fop_run (hs : ∀ i, (σ i).oneCell' = true) (hr : HR σ ρ H w.heap) {f : Fr} {a : Act} {o : Oper} {r : Out} (hf : EV σ ρ f a o.op.operands.toList) (h : fop P f o H = some r) : FOK σ ρ P a o w r := by
  unfold fop at h
  split at h
  · -- move
    rename_i x ho
    split at h
    · rename_i v hv
      cases h
      exact ⟨a.eval x, by simp [execOp, ho], hf.one (by simp [ho, Op.operands]) hv⟩
    · cases h
  · rename_i x ho
    split at h
    · rename_i v hv
      cases h
      exact ⟨a.eval x, by simp [execOp, ho], hf.one (by simp [ho, Op.operands]) hv⟩
    · cases h
  · -- pick
    rename_i c x y ho
    split at h
    · rename_i hc
      have hc := hf.one (by simp [ho, Op.operands]) hc
      simp only [conc, Option.some.injEq] at hc
      split at h
      · rename_i v hv
        cases h
        exact ⟨a.eval x, by simp [execOp, ho, ← hc, asBool], hf.one (by simp [ho, Op.operands]) hv⟩
      · cases h
    · rename_i hc
      have hc := hf.one (by simp [ho, Op.operands]) hc
      simp only [conc, Option.some.injEq] at hc
      split at h
      · rename_i v hv
        cases h
        exact ⟨a.eval y, by simp [execOp, ho, ← hc, asBool], hf.one (by simp [ho, Op.operands]) hv⟩
      · cases h
    · cases h
  · -- alloc
    rename_i t ho
    split at h
    · rename_i z s hz hsz
      split at h
      · rename_i hl
        cases h
        have hl := Nat.eq_of_beq_eq_true hl
        obtain ⟨zv, hz1, hz2⟩ := run_zero (σ := σ) (ρ := ρ) hz w
        have hc := concs_cells hz2 hs
        refine FOK_of (s := Instr.alloc t true (.tuple #[])) (by simp [execOp, ho]) (makes_row (v' := .pointer (some ⟨w.heap.size, 0, none⟩)) (t := t) hc ?_ ?_ (fun id => ?_))
        · simp [Instr.alloc, hz1, newVar, newRow]
        · rw [hl]
        · simp [conc, Place.with_self]
      · cases h
    · cases h
  · -- box
    rename_i t x ho
    split at h
    · rename_i v hv
      cases h
      have hc := concs_cells (hf.one (by simp [ho, Op.operands]) hv) hs
      refine FOK_of (s := Instr.box t (a.eval x)) (by simp [execOp, ho]) (makes_row (v' := .pointer (some ⟨w.heap.size, 0, none⟩)) (t := t) hc ?_ rfl (fun id => ?_))
      · simp [Instr.box, newVar, newRow]
      · simp [conc, Place.with_self]
    · cases h
  · -- build
    rename_i t parts ho
    have hpc : ∀ {ps}, evParts f parts.toList = some ps → PC σ ρ ps ((parts.map fun (i, x) => (i, a.eval x)).toList) := fun hp => by
      simpa using evParts_conc hf (fun x hx => by simp only [ho, Op.operands, List.toList_toArray]; exact List.mem_map_of_mem hx) hp
    split at h
    · rename_i fields z ps hu hz hps
      split at h
      · rename_i hsd
        split at h
        · rename_i l hl
          cases h
          obtain ⟨zv, hz1, hz2⟩ := run_zero (σ := σ) (ρ := ρ) hz w
          obtain ⟨lv, e1, e2⟩ := fillA_run hs hl (hpc hps) (concs_cells hz2 hs)
          refine FOK_val (s := Instr.build t (parts.map fun (i, x) => (i, a.eval x))) (by simp [execOp, ho]) ⟨.agg lv.toArray, ?_, by simp [conc, e2]⟩
          have hM : (fields.mapM (fun g : Field => do pure (g.offset, ← sizeOf g.type)) : Sem (Array (Nat × Nat))).run P w = .ok ((fields.toList.map fun f => (f.offset, (sizeA P f.type).getD 0)).toArray) w := by
            rw [Array.mapM_eq_mapM_toList]
            simp only [Sem.run_map, places_list fields.toList hsd, Result.andThen_ok]
          simp only [Instr.build, Sem.run_bind, hz1, Result.andThen_ok, run_und hu, hM]
          have hp' : (fun i => (List.map (fun f : Field => (f.offset, (sizeA P f.type).getD 0)) fields.toList).toArray[i]?) = placeOf P fields := by
            funext i
            unfold placeOf
            cases hfi : fields[i]? with
            | none => simp [hfi]
            | some g =>
              have hm : g ∈ fields.toList := by
                have := Array.mem_of_getElem? hfi
                simpa using this
              obtain ⟨s, hs'⟩ := Option.isSome_iff_exists.1 (List.all_eq_true.1 hsd g hm)
              simp [hfi, hs']
          simp only [Array.toArray_toList] at e1
          rw [hp', e1]
          simp
        · cases h
      · cases h
    · rename_i n e z ps hu hz hps
      split at h
      · rename_i s hsz
        split at h
        · rename_i l hl
          cases h
          obtain ⟨zv, hz1, hz2⟩ := run_zero (σ := σ) (ρ := ρ) hz w
          obtain ⟨lv, e1, e2⟩ := fillA_run hs hl (hpc hps) (concs_cells hz2 hs)
          refine FOK_val (s := Instr.build t (parts.map fun (i, x) => (i, a.eval x))) (by simp [execOp, ho]) ⟨.agg lv.toArray, ?_, by simp [conc, e2]⟩
          simp only [Instr.build, Sem.run_bind, hz1, Result.andThen_ok, run_und hu, run_size hsz]
          simp only [Array.toArray_toList] at e1
          rw [e1]
          simp
        · cases h
      · cases h
    · cases h
  · -- buildSlice
    rename_i t len parts ho
    have hpc : ∀ {ps}, evParts f parts.toList = some ps → PC σ ρ ps ((parts.map fun (i, x) => (i, a.eval x)).toList) := fun hp => by
      simpa using evParts_conc hf (fun x hx => by simp only [ho, Op.operands, List.toList_toArray]; exact List.mem_map_of_mem hx) hp
    split at h
    · rename_i e ps hu hps
      split at h
      · rename_i s z hsz hz
        split at h
        · rename_i hc
          simp only [Bool.and_eq_true] at hc
          obtain ⟨⟨c1, c2⟩, c3⟩ := hc
          have c1 := bl c1
          have c2 := Nat.eq_of_beq_eq_true c2
          have c3 := Nat.le_of_ble_eq_true c3
          split at h
          · rename_i l hl
            cases h
            obtain ⟨zv, hz1, hz2⟩ := run_zero (σ := σ) (ρ := ρ) hz w
            have hzc := concs_cells hz2 hs
            have hzl := concs_length hzc
            obtain ⟨lv, e1, e2⟩ := fillA_run hs hl (hpc hps) (reps_conc hzc len)
            have hzs : zv.cells.toList.length = s := by omega
            have hrange : ((Array.range (len * s)).map fun i => zv.cells[i % zv.cells.size]!) = (List.replicate len zv.cells.toList).flatten.toArray := by
              have := range_reps zv.cells.toList (by omega) len
              rw [hzs] at this
              simpa using this
            refine FOK_of (s := Instr.buildSlice t len (parts.map fun (i, x) => (i, a.eval x))) (by simp [execOp, ho]) (makes_row (v' := .slice (some ⟨w.heap.size, 0, none⟩) len len) (t := e) e2 ?_ rfl (fun id => ?_))
            · have q1 : ¬ len * s > 2 ^ 24 := by omega
              simp only [Instr.buildSlice, Sem.run_bind, run_und hu, Result.andThen_ok, run_size hsz, if_neg q1]
              by_cases hls : len * s = 0
              · have hlen : len = 0 := by
                  rcases Nat.mul_eq_zero.1 hls with e | e
                  · exact e
                  · omega
                subst hlen
                simp only [Nat.zero_mul, if_true, Sem.run_bind, Sem.run_pure, Result.andThen_ok]
                have er : (Array.map (fun i => (#[] : Array Value)[i % (#[] : Array Value).size]!) (Array.range 0)) = (List.replicate 0 zv.cells.toList).flatten.toArray := by simp
                rw [er]
                rw [Array.toArray_toList] at e1
                rw [e1]
                simp [newRow]
              · simp only [if_neg hls, Sem.run_bind, hz1, Result.andThen_ok, Sem.run_pure]
                rw [hrange]
                rw [Array.toArray_toList] at e1
                rw [e1]
                simp [newRow]
            · simp [conc, Place.with_self]
          · cases h
        · cases h
      · cases h
    · cases h
  · -- load
    rename_i t x ho
    split at h
    · rename_i id off hx
      split at h
      · rename_i v hv
        cases h
        obtain ⟨p, hp, he⟩ := conc_ptr (hf.one (by simp [ho, Op.operands]) hx)
        obtain ⟨v', h1, h2⟩ := loadVar_run (P := P) hr hp hv
        exact FOK_val (s := Instr.loadAt t (a.eval x)) (by simp [execOp, ho]) ⟨v', by simp [Instr.loadAt, he, Instr.sureAddr, h1], h2⟩
      · cases h
    · cases h
  · -- nilCheck
    rename_i x ho
    split at h
    · rename_i id off hx
      cases h
      have hc := hf.one (by simp [ho, Op.operands]) hx
      obtain ⟨p, hp, he⟩ := conc_ptr hc
      exact ⟨a.eval x, by simp [execOp, ho, he], hc⟩
    · rename_i t v hx
      cases h
      have hc := hf.one (by simp [ho, Op.operands]) hx
      obtain ⟨p, hp, he⟩ := conc_iface hc
      exact ⟨a.eval x, by simp [execOp, ho, he], hc⟩
    · rename_i g u v hx
      cases h
      have hc := hf.one (by simp [ho, Op.operands]) hx
      obtain ⟨p, q, hp, hq, he⟩ := conc_fn hc
      exact ⟨a.eval x, by simp [execOp, ho, he], hc⟩
    · cases h
  · -- binOp
    rename_i op t x y yt ho
    split at h
    · rename_i u v hu hv
      split at h
      · rename_i r hr'
        cases h
        exact FOK_val (s := do eqGuard op t x y (a.eval x) (a.eval y); Go.binOp op t (a.eval x) (a.eval y)) (by simp [execOp, ho]) (abin_run hr' (hf.one (by simp [ho, Op.operands]) hu) (hf.one (by simp [ho, Op.operands]) hv))
      · cases h
    · cases h
  · -- unOp
    rename_i op t x ho
    split at h
    · rename_i u hu
      split at h
      · rename_i r hr'
        cases h
        exact FOK_val (s := Op.unary op (a.eval x)) (by simp [execOp, ho]) (aun_run hr' (hf.one (by simp [ho, Op.operands]) hu))
      · cases h
    · cases h
  · -- convert
    rename_i src dst x ho
    split at h
    · rename_i u hu
      exact FOK_of (s := Go.convert src dst (a.eval x)) (by simp [execOp, ho]) (convA_run hr h (hf.one (by simp [ho, Op.operands]) hu))
    · cases h
  · -- makeInterface
    rename_i t x ho
    split at h
    · cases h
    · rename_i D v hne hu hv
      cases h
      have hc := hf.one (by simp [ho, Op.operands]) hv
      refine FOK_val (s := Instr.makeInterface t (a.eval x)) (by simp [execOp, ho]) ⟨.iface t (a.eval x), ?_, by simp [conc, hc]⟩
      cases D <;> first | (exact (hne _ rfl).elim) | simp [Instr.makeInterface, run_und hu]
    · cases h
  · -- makeFunc
    rename_i fn first captured ho
    split at h
    · rename_i u v hu hv
      cases h
      refine FOK_val (s := Instr.makeFunc fn (first.map a.eval) (captured.map a.eval)) (by simp [execOp, ho]) ⟨_, rfl, ?_⟩
      have e1 : (List.map a.eval first.toList).toArray = first.map a.eval := by simp [← Array.toList_map]
      have e2 : (List.map a.eval captured.toList).toArray = captured.map a.eval := by simp [← Array.toList_map]
      simp [conc, evs_conc hf (fun y hy => by simp only [ho, Op.operands]; simpa using .inl (Array.mem_toList_iff.1 hy)) hu, evs_conc hf (fun y hy => by simp only [ho, Op.operands]; simpa using .inr (Array.mem_toList_iff.1 hy)) hv, e1, e2]
    · cases h
  · -- makeMap
    rename_i t ho
    cases h
    refine FOK_of (s := Instr.makeMap t (Option.map a.eval none)) (by simp [execOp, ho]) ⟨.map (some w.heap.size), w.alloc (.map #[] 0), .map #[] 0, 0, by simp [Instr.makeMap], rfl, ⟨rfl, rfl, rfl⟩, fun id hid => ⟨⟨[], rfl, trivial⟩, by simp [conc, Place.with_self]⟩⟩
  · -- makeMap with a size
    rename_i t rr ho
    split at h
    · rename_i kt et k n hu hv
      cases h
      have hc := hf.one (by simp [ho, Op.operands]) hv
      simp only [conc, Option.some.injEq] at hc
      refine FOK_of (s := Instr.makeMap t (Option.map a.eval (some rr))) (by simp [execOp, ho]) ⟨.map (some w.heap.size), w.alloc (.map #[] 0), .map #[] 0, 0, by simp [Instr.makeMap, run_und hu, ← hc, asInt, asIntOf], rfl, ⟨rfl, rfl, rfl⟩, fun id hid => ⟨⟨[], rfl, trivial⟩, by simp [conc, Place.with_self]⟩⟩
    · cases h
  · -- makeSlice
    rename_i t l c ho
    split at h
    · rename_i e k n k' m hu hl hc
      have hl := hf.one (by simp [ho, Op.operands]) hl
      have hc := hf.one (by simp [ho, Op.operands]) hc
      simp only [conc, Option.some.injEq] at hl hc
      split at h
      · rename_i s z by_ hsz hz hby
        split at h
        · rename_i hcond
          cases h
          simp only [Bool.and_eq_true] at hcond
          obtain ⟨⟨⟨⟨c1, c2⟩, c3⟩, c4⟩, c5⟩ := hcond
          have c1 := Nat.le_of_ble_eq_true c1
          have c2 := Nat.le_of_ble_eq_true c2
          have c3 := Nat.le_of_ble_eq_true c3
          have c4 := bl c4
          have c5 := Nat.eq_of_beq_eq_true c5
          obtain ⟨i, hi, hib⟩ : ∃ i, P.info? e = some i ∧ i.bytes = by_ := by
            unfold bytesA at hby
            split at hby
            · rename_i i hi; cases hby; exact ⟨i, hi, rfl⟩
            · cases hby
          obtain ⟨zv, hz1, hz2⟩ := run_zero (σ := σ) (ρ := ρ) hz w
          have hzc := concs_cells hz2 hs
          have hzl := concs_length hzc
          have hzs : zv.cells.toList.length = s := by omega
          have hcells := reps_conc hzc m
          have hlen := concs_length hcells
          rw [reps_length, c5] at hlen
          have hrange : ((Array.range (m * s)).map fun i => zv.cells[i % zv.cells.size]!) = (List.replicate m zv.cells.toList).flatten.toArray := by
            have := range_reps zv.cells.toList (by omega) m
            rw [hzs] at this
            simpa using this
          have wr : ∀ q : Nat, q ≤ 1000000 → IntKind.i64.wrap (Int.ofNat q) = (q : Int) := fun q hq => by
            have := fwrap_eq .i64 (Int.ofNat q)
            rw [← this]
            unfold fwrap
            have hb : Nat.ble q 9223372036854775807 = true := Nat.ble_eq_true_of_le (by omega)
            simp [hb]
          refine FOK_of (s := Instr.makeSlice t (a.eval l) (a.eval c)) (by simp [execOp, ho]) ?_
          refine ⟨.slice (some ⟨w.heap.size, 0, none⟩) n m, w.alloc (.cells (List.replicate m zv.cells.toList).flatten.toArray e), .cells (List.replicate m zv.cells.toList).flatten.toArray e, m * s, ?_, rfl, ⟨rfl, rfl, rfl⟩, fun id hid => ⟨?_, by simp [conc, Place.with_self]⟩⟩
          · simp only [Instr.makeSlice, Sem.run_bind, run_und hu, Result.andThen_ok, ← hl, ← hc, asInt, asIntOf, Sem.run_pure, run_info hi, hib, wr n (by omega), wr m c2]
            have q1 : ¬ ((decide ((m : Int) < 0) || decide ((by_ : Int) * (m : Int) > 2 ^ 48)) || decide ((n : Int) < 0) || decide ((n : Int) > (m : Int))) = true := by
              have : (by_ : Int) * (m : Int) = ((by_ * m : Nat) : Int) := by simp
              simp only [this, Bool.or_eq_true, decide_eq_true_eq]
              omega
            rw [if_neg q1]
            simp only [Sem.run_bind, run_askRoom, Result.andThen_ok, run_size hsz, Int.toNat_natCast]
            by_cases hms : m * s = 0
            · simp only [hms, if_true, Sem.run_pure, Result.andThen_ok, newRow, Sem.run_bind, run_newObj]
              have hm0 : m = 0 := by
                rcases Nat.mul_eq_zero.1 hms with e | e
                · exact e
                · omega
              subst hm0
              have hr0 : Array.range 0 = #[] := rfl
              simp [hr0]
            · simp only [if_neg hms, Sem.run_bind, hz1, Result.andThen_ok, Sem.run_pure, newRow, run_newObj]
              rw [hrange]
              simp
          · refine ⟨_, (0, 0), rfl, .inl rfl, by simp only [List.size_toArray, Nat.zero_add]; exact hlen, Nat.le_refl _, fun j hj => ?_⟩
            have hg := treeOf_get (z := cellsOf z) (n := m) (i := j) (by omega) (by rw [c5]; exact hj)
            obtain ⟨v, e1, e2⟩ := concs_get (concs_mono (with_le hid) _ _ hcells) hg
            exact ⟨v, by simpa using e1, e2⟩
        · cases h
      · cases h
    · cases h
  · -- slice
    rename_i t x lo hi mx ho
    split at h
    · rename_i v l hh hv hl hhi
      split at h
      · rename_i m hm
        split at h
        · rename_i rr hrr
          cases h
          exact FOK_val (s := Instr.sliceAt t (a.eval x) (lo.map a.eval) (hi.map a.eval) (mx.map a.eval)) (by simp [execOp, ho])
            (sliceA_run hr hrr (hf.one (by simp [ho, Op.operands]) hv) (evO_conc hf (fun y hy => by simp [ho, Op.operands, hy]) hl) (evO_conc hf (fun y hy => by simp [ho, Op.operands, hy]) hhi) (evO_conc hf (fun y hy => by simp [ho, Op.operands, hy]) hm))
        · cases h
      · cases h
    · cases h
  · -- fieldAddr
    rename_i t x i ho
    split at h
    · rename_i fields id off hu hx
      split at h
      · rename_i g hg
        split at h
        · rename_i n hn
          cases h
          obtain ⟨p, hp, he⟩ := conc_ptr (hf.one (by simp [ho, Op.operands]) hx)
          refine FOK_val (s := Instr.fieldAt t (a.eval x) i) (by simp [execOp, ho]) ⟨.pointer (some ⟨p.b, p.o + (off + g.offset), none⟩), ?_, by simp [conc, hp]⟩
          simp [Instr.fieldAt, run_und hu, hg, he, Instr.sureAddr, fieldPlace_run hn, Nat.add_assoc]
        · cases h
      · cases h
    · cases h
  · -- field
    rename_i t x i ho
    split at h
    · rename_i fields l hu hx
      split at h
      · rename_i g hg
        split at h
        · rename_i v hv
          cases h
          obtain ⟨xs, hxs, he⟩ := conc_agg (hf.one (by simp [ho, Op.operands]) hx)
          obtain ⟨v', h1, h2⟩ := part_run (P := P) hxs hv w
          exact FOK_val (s := Instr.field t (a.eval x) i) (by simp [execOp, ho]) ⟨v', by simp [Instr.field, run_und hu, hg, he, asAgg, h1], h2⟩
        · cases h
      · cases h
    · cases h
  · -- indexAddr
    rename_i t x ix ho
    split at h
    · rename_i n e id off k i hu hx hi
      split at h
      · rename_i s hsz hlt
        cases h
        have hlt := bl hlt
        obtain ⟨p, hp, he⟩ := conc_ptr (hf.one (by simp [ho, Op.operands]) hx)
        have hi := hf.one (by simp [ho, Op.operands]) hi
        simp only [conc, Option.some.injEq] at hi
        have q : (0 : Int) ≤ (i : Int) ∧ (i : Int) < (n : Int) := by omega
        refine FOK_val (s := Instr.indexAt t (a.eval x) (a.eval ix)) (by simp [execOp, ho]) ⟨.pointer (some ⟨p.b, p.o + (off + i * s), none⟩), ?_, by simp [conc, hp]⟩
        simp [Instr.indexAt, run_und hu, ← hi, asIntOf, he, Instr.sureAddr, q, run_size hsz, add_none, Nat.add_assoc]
        intro hh; omega
      · cases h
    · rename_i e v k i hu hx hi
      split at h
      · rename_i s id off n hsz hsl
        split at h
        · rename_i hlt
          cases h
          have hlt := bl hlt
          have hi := hf.one (by simp [ho, Op.operands]) hi
          simp only [conc, Option.some.injEq] at hi
          rcases sliceOf_conc hsl (hf.one (by simp [ho, Op.operands]) hx) with ⟨e1, _⟩ | ⟨id', off', p, aa, cap, e1, hp, he, ha⟩
          · cases e1
          · cases e1
            have ha := ha (by omega)
            subst ha
            have q : (0 : Int) ≤ (i : Int) ∧ (i : Int) < (n : Int) := by omega
            refine FOK_val (s := Instr.indexAt t (a.eval x) (a.eval ix)) (by simp [execOp, ho]) ⟨.pointer (some ⟨p.b, p.o + (off + i * s), none⟩), ?_, by simp [conc, hp]⟩
            simp [Instr.indexAt, run_und hu, ← hi, asIntOf, he, q, run_size hsz, add_none, Nat.add_assoc]
            intro hh; omega
        · cases h
      · cases h
    · cases h
  · -- index
    rename_i t x ix ho
    split at h
    · rename_i n e l k i hu hx hi
      split at h
      · rename_i s hsz hlt
        split at h
        · rename_i v hv
          cases h
          have hlt := bl hlt
          obtain ⟨xs, hxs, he⟩ := conc_agg (hf.one (by simp [ho, Op.operands]) hx)
          have hi := hf.one (by simp [ho, Op.operands]) hi
          simp only [conc, Option.some.injEq] at hi
          obtain ⟨v', h1, h2⟩ := part_run (P := P) hxs hv w
          have q : (0 : Int) ≤ (i : Int) ∧ (i : Int) < (n : Int) := by omega
          exact FOK_val (s := Instr.index t (a.eval x) (a.eval ix)) (by simp [execOp, ho]) ⟨v', by simp [Instr.index, run_und hu, ← hi, asIntOf, he, q, run_size hsz, h1]; intro hh; omega, h2⟩
        · cases h
      · cases h
    · rename_i s k i hu hx hi
      split at h
      · rename_i b hb
        cases h
        have hx := hf.one (by simp [ho, Op.operands]) hx
        have hi := hf.one (by simp [ho, Op.operands]) hi
        simp only [conc, Option.some.injEq] at hx hi
        refine FOK_val (s := Instr.index t (a.eval x) (a.eval ix)) (by simp [execOp, ho]) ⟨.int .u8 b.toNat, ?_, rfl⟩
        obtain ⟨hlt, hbb⟩ := List.getElem?_eq_some_iff.1 hb
        have hsz : (⟨s.toArray⟩ : ByteArray).size = s.length := by simp [ByteArray.size]
        have hget : (⟨s.toArray⟩ : ByteArray)[i]? = some b := by
          rw [ByteArray.getElem?_lt' _ _ (by rw [hsz]; exact hlt)]
          congr 1
        simp [Instr.index, run_und hu, ← hi, ← hx, asIntOf, hget]
      · cases h
    · cases h
  · -- lookup
    rename_i t x ix ok ho
    split at h
    · rename_i m k hm hk
      split at h
      · rename_i v hv
        cases h
        exact FOK_val (s := Instr.lookup t (a.eval x) (a.eval ix) ok) (by simp [execOp, ho]) (lookA_run hr hv (hf.one (by simp [ho, Op.operands]) hm) (hf.one (by simp [ho, Op.operands]) hk))
      · cases h
    · cases h
  · -- a text gone through
    rename_i t x ho
    split at h
    · rename_i s hu hv
      cases h
      have hc := hf.one (by simp [ho, Op.operands]) hv
      simp only [conc, Option.some.injEq] at hc
      refine FOK_of (s := Instr.range t (a.eval x)) (by simp [execOp, ho]) ⟨.pointer (some ⟨w.heap.size, 0, none⟩), w.alloc (.stringIter ⟨s.toArray⟩ 0), .stringIter ⟨s.toArray⟩ 0, 1, by simp [Instr.range, run_und hu, ← hc], rfl, ⟨rfl, rfl, rfl⟩, fun id hid => ⟨⟨rfl, rfl⟩, by simp [conc, Place.with_self]⟩⟩
    · cases h
  · -- typeAssert
    rename_i x xt asserted ok ho
    split at h
    · rename_i v hv
      split at h
      · rename_i rr hrr
        cases h
        exact FOK_val (s := Instr.typeAssert (a.eval x) xt asserted ok) (by simp [execOp, ho]) (assertA_run hrr (hf.one (by simp [ho, Op.operands]) hv))
      · cases h
    · cases h
  · -- extract
    rename_i x i ho
    split at h
    · rename_i l hl
      split at h
      · rename_i v hv
        cases h
        obtain ⟨xs, hxs, he⟩ := conc_tup (hf.one (by simp [ho, Op.operands]) hl)
        obtain ⟨v', h1, h2⟩ := concs_get hxs hv
        exact FOK_val (s := Instr.extract (a.eval x) i) (by simp [execOp, ho]) ⟨v', by simp [Instr.extract, he, h1], h2⟩
      · cases h
    · cases h
  · -- len
    rename_i args argTypes ho
    split at h
    · rename_i x t ts hargs hts
      split at h
      · rename_i v hv
        split at h
        · rename_i rr hrr
          cases h
          have ha : args = #[x] := by rw [← Array.toArray_toList (xs := args), hargs]
          have ht : argTypes[0]? = some t := by
            have : argTypes = (t :: ts).toArray := by rw [← hts]
            rw [this]; rfl
          refine FOK_val (s := Builtin.len_ argTypes o.type #[a.eval x]) ?_ (lenA_run (_u := t) hr hrr (hf.one (by simp [ho, Op.operands, Call.operands, hargs]) hv) ht)
          simp [execOp, ho, resolve, ha, invoke, builtin]
        · cases h
      · cases h
    · cases h
  · -- min
    rename_i args argTypes ho
    split at h
    · rename_i v l hv
      split at h
      · rename_i rr hrr
        cases h
        have hc := evs_conc hf (fun y hy => by simpa [ho, Op.operands, Call.operands] using hy) hv
        simp only [concs] at hc
        split at hc
        · rename_i x xs hx hxs
          have heq := Option.some.inj hc
          have hm := minA_run (P := P) (w := w) hrr hx hxs
          have ha : (args.map a.eval).toList = x :: xs := by simp [← heq]
          refine FOK_val (s := Builtin.min_ argTypes o.type (args.map a.eval)) (by simp [execOp, ho, resolve, invoke, builtin]) ?_
          obtain ⟨v', h1, h2⟩ := hm
          exact ⟨v', by simp only [Builtin.min_, ha]; simpa using h1, h2⟩
        · cases hc
      · cases h
    · cases h
  · -- max
    rename_i args argTypes ho
    split at h
    · rename_i v l hv
      split at h
      · rename_i rr hrr
        cases h
        have hc := evs_conc hf (fun y hy => by simpa [ho, Op.operands, Call.operands] using hy) hv
        simp only [concs] at hc
        split at hc
        · rename_i x xs hx hxs
          have heq := Option.some.inj hc
          have hm := minA_run (P := P) (w := w) hrr hx hxs
          have ha : (args.map a.eval).toList = x :: xs := by simp [← heq]
          refine FOK_val (s := Builtin.max_ argTypes o.type (args.map a.eval)) (by simp [execOp, ho, resolve, invoke, builtin]) ?_
          obtain ⟨v', h1, h2⟩ := hm
          exact ⟨v', by simp only [Builtin.max_, ha]; simpa using h1, h2⟩
        · cases hc
      · cases h
    · cases h
  · cases h
end
end Ev
end Go.Proofs.YtpppaheennkkpaaGreatDoor

/- append, copy, clear, delete; a map written. -/
namespace Go.Proofs.YtpppaheennkkpaaGreatDoor
namespace Ev

section
variable {σ : Nat → Value} {ρ : Place} {P : Program} {H H' : Heap} {w : World}

/-- What an operation leaves. -/
def Leaves (σ : Nat → Value) (ρ : Place) (P : Program) (H H' : Heap) (w : World) (s : Sem Value) (v : AV) : Prop :=
  ∃ ρ' v' w', s.run P w = .ok v' w' ∧ HR σ ρ' H' w'.heap ∧ Step ρ H w ρ' H' w' ∧ conc σ ρ' v = some v'
theorem Leaves.still (hr : HR σ ρ H w.heap) {s : Sem Value} {v : AV} {v' : Value} (h : s.run P w = .ok v' w) (hv : conc σ ρ v = some v') : Leaves σ ρ P H H w s v :=
  ⟨ρ, v', w, h, hr, .refl, hv⟩

theorem zero_mul_cells (a : Addr) (size : Nat) : (loadCells a (0 * size)).run P w = .ok #[] w := by simp [loadCells, loadCellsFrom]
theorem srcA_run (hr : HR σ ρ H w.heap) {size n : Nat} {x : AV} {xs : List AV} {x' : Value} (h : srcA H size x = some (xs, n)) (hx : conc σ ρ x = some x') :
    (Builtin.lenOf x').run P w = .ok n w ∧ ∃ cv, concs σ ρ xs = some cv ∧ (Builtin.firstCells size n x').run P w = .ok cv.toArray w := by
  unfold srcA at h
  split at h
  · rename_i s
    cases h
    simp only [conc, Option.some.injEq] at hx
    subst hx
    have hsz : (⟨s.toArray⟩ : ByteArray).size = s.length := by simp [ByteArray.size]
    refine ⟨by simp [Builtin.lenOf, hsz], _, bytesOf_conc s, ?_⟩
    simp [Builtin.firstCells, ByteArray.extract_mk]
  · split at h
    · rename_i n' hsl
      cases h
      rcases sliceOf_conc hsl hx with ⟨_, rfl, rfl⟩ | ⟨id, off, p, a, cap, e1, _⟩
      · exact ⟨by simp [Builtin.lenOf], [], rfl, by simp [Builtin.firstCells]⟩
      · cases e1
    · rename_i y hsl
      cases h
      rcases sliceOf_conc hsl hx with ⟨e1, _⟩ | ⟨id, off, p, a, cap, e1, hp, rfl, ha⟩
      · cases e1
      · exact ⟨by simp [Builtin.lenOf], [], rfl, by simp only [Builtin.firstCells, zero_mul_cells]⟩
    · rename_i id off n' hne hsl
      split at h
      · rename_i l hl
        cases h
        rcases sliceOf_conc hsl hx with ⟨e1, _⟩ | ⟨id', off', p, a, cap, e1, hp, rfl, ha⟩
        · cases e1
        · cases e1
          have ha := ha (Nat.pos_of_ne_zero hne)
          subst ha
          obtain ⟨vs, c1, c2, c3⟩ := loads_run (P := P) hr hp hl
          exact ⟨by simp [Builtin.lenOf], vs, c1, by simpa [Builtin.firstCells] using c3⟩
      · cases h
    · cases h

theorem srcA_zero {size : Nat} {x : AV} {xs : List AV} (h : srcA H size x = some (xs, 0)) : xs = [] := by
  unfold srcA at h
  split at h
  · rename_i s
    simp only [Option.some.injEq, Prod.mk.injEq] at h
    have : s = [] := List.length_eq_zero_iff.1 h.2
    subst this; exact h.1.symm
  · split at h
    · cases h; rfl
    · cases h; rfl
    · rename_i hne _
      split at h
      · cases h; exact (hne rfl).elim
      · cases h
    · cases h

/-- A fresh block, known from its head on. -/
theorem BR_open {l : List AV} {vs : List Value} (h : concs σ ρ l = some vs) (c : Array Value) (rest : Array Value) (hc : c = vs.toArray ++ rest) (b : Nat) (t : TypeId) :
    BR σ ρ ⟨b, 0, c.size⟩ (some (.cells c t)) (.cells (T.lay (dep l.length) (.leaf default) 0 l) l.length t) := by
  have hl := concs_length h
  refine ⟨c, (0, 0), rfl, .inl rfl, by simp, by rw [hc]; simp; omega, fun i hi => ?_⟩
  have := T.get_lay_in (d := dep l.length) l (.leaf default) 0 i (by have := lt_dep l.length; omega) (by omega) (by omega)
  obtain ⟨v, e1, e2⟩ := concs_get h this
  refine ⟨v, ?_, e2⟩
  rw [hc]
  simp only [Nat.zero_add, Nat.sub_zero] at e1 ⊢
  rw [Array.getElem?_append_left (by simp; omega)]
  simpa using e1

/-- A slice that grew into a block of its own. -/
theorem grown (hr : HR σ ρ H w.heap) {l : List AV} {vs : List Value} (hl : concs σ ρ l = some vs) {e : TypeId} {H' : Heap} (h : newCells H l e = some H') {need size cap : Nat} {rest : Array Value} {w1 : World}
    (hsz : vs.length = need * size) (hs0 : 0 < size) (hcap : need ≤ cap) (hrest : vs.length + rest.size = cap * size) (h1 : w1.heap = w.heap.push (.cells (vs.toArray ++ rest) e)) (h2 : w1.os = w.os ∧ w1.output = w.output ∧ w1.tape = w.tape) :
    ∃ ρ', HR σ ρ' H' w1.heap ∧ Step ρ H w ρ' H' w1 ∧ conc σ ρ' (.osl H.next 0 0 need size) = some (.slice (some ⟨w.heap.size, 0, none⟩) need cap) := by
  unfold newCells at h
  split at h
  · rename_i hn
    cases h
    have hn := bl hn
    have hN : (vs.toArray ++ rest).size = cap * size := by simp; exact hrest
    have hne := hr.fresh H.next (Nat.le_refl _)
    have hb := BR_open (σ := σ) (ρ := ρ.with H.next ⟨w.heap.size, 0, (vs.toArray ++ rest).size⟩) (concs_mono (Place.with_le hne) _ _ hl) (vs.toArray ++ rest) rest rfl w.heap.size e
    refine ⟨ρ.with H.next ⟨w.heap.size, 0, (vs.toArray ++ rest).size⟩, ?_, Step.new hr hn rfl rfl h1 h2, ?_⟩
    · rw [h1]; exact HR.new hr hn rfl hb
    · simp only [conc, Place.with_self]
      have : need * size ≤ cap * size := Nat.mul_le_mul_right _ hcap
      rw [if_pos ⟨hs0, by rw [hN]; omega, by rw [hN]; simp⟩, hN]
      simp [hs0]
  · cases h

theorem zeroCells_size (z : Array Value) (n : Nat) : (Builtin.zeroCells z n).size = n * z.size := by simp [Builtin.zeroCells]

/-- Is the second argument a slice, or a text? -/
def plainArg (P : Program) (u : TypeId) : Prop := (∃ e, P.underlying u = some (.slice e)) ∨ P.underlying u = some .string
theorem bind_ok {α β : Type} {x : Sem α} {f : α → Sem β} {a : α} {w1 : World} (h : x.run P w = .ok a w1) : (x >>= f).run P w = (f a).run P w1 := by
  rw [Sem.run_bind, h]; rfl

theorem append_head {ty t u e : TypeId} {size n : Nat} {base : Option Addr} {sLen sCap : Nat} {x' : Value} (hu : P.underlying t = some (.slice e)) (hsz : sizeA P e = some size)
    (ht2 : plainArg P u) (hn : (Builtin.lenOf x').run P w = .ok n w) :
    (Builtin.append_ #[t, u] ty #[.slice base sLen sCap, x']).run P w = ((if sLen + n ≤ sCap then do
        let new ← Builtin.firstCells size n x'
        if let some a := base then storeCells (a.add (sLen * size)) new.toList
        pure (.slice base (sLen + n) sCap)
      else do
        if ((sLen + n : Nat) : Int) > IntKind.i64.max ∧ (false = true ∨ (← typeInfo e).bytes = 0) then runtimePanic (.error "growslice: len out of range")
        if Builtin.nextslicecap (sLen + n) sCap * (← typeInfo e).bytes > 2 ^ 48 then (if false = true then runtimePanic (.error "growslice: len out of range") else do
          if !(← Builtin.mayShare size sLen n base x') then mark .noRoom
          unsupported (.resourceLimit "append: a slice or a string whose bytes no memory bears"))
        let newCap ← choose (.appendCap (sLen + n) sCap e)
        askRoom (newCap * (← typeInfo e).bytes)
        let old ← Builtin.firstCells size sLen (.slice base sLen sCap)
        let new ← Builtin.firstCells size n x'
        let rest := Builtin.zeroCells (← zeroValue e).cells (newCap - (sLen + n))
        pure (.slice (some (← newRow e (old ++ new ++ rest))) (sLen + n) newCap) : Sem Value)).run P w := by
  unfold Builtin.append_
  simp only [show (#[t, u] : Array TypeId)[0]? = some t from rfl, show (#[t, u] : Array TypeId)[1]? = some u from rfl, show (#[Value.slice base sLen sCap, x'] : Array Value)[0]? = some (Value.slice base sLen sCap) from rfl,
    show (#[Value.slice base sLen sCap, x'] : Array Value)[1]? = some x' from rfl]
  rw [bind_ok (run_und hu w)]
  dsimp only
  rw [bind_ok (run_size hsz w)]
  rcases ht2 with ⟨e2, h2⟩ | h2
  · rw [bind_ok (run_und h2 w)]
    dsimp only
    rw [pure_bind, if_neg (by simp), bind_ok hn]
    rfl
  · rw [bind_ok (run_und h2 w)]
    dsimp only
    rw [pure_bind, if_neg (by simp), bind_ok hn]
    rfl

/-- The program's append, where there is room. -/
theorem append_room {ty t u e : TypeId} {size sLen n sCap : Nat} {base : Option Addr} {x' : Value} {cv : List Value} {w1 : World} (hu : P.underlying t = some (.slice e)) (hsz : sizeA P e = some size)
    (ht2 : plainArg P u) (hn : (Builtin.lenOf x').run P w = .ok n w) (hc : (Builtin.firstCells size n x').run P w = .ok cv.toArray w) (hroom : sLen + n ≤ sCap)
    (hst : ∀ a, base = some a → (storeCells (a.add (sLen * size)) cv).run P w = .ok () w1) (hnone : base = none → w1 = w) :
    (Builtin.append_ #[t, u] ty #[.slice base sLen sCap, x']).run P w = .ok (.slice base (sLen + n) sCap) w1 := by
  rw [append_head hu hsz ht2 hn, if_pos hroom, bind_ok hc]
  cases base with
  | none => rw [hnone rfl]; rfl
  | some a =>
    show (storeCells (a.add (sLen * size)) cv >>= _).run P w = _
    rw [bind_ok (hst a rfl)]; rfl

theorem bytesA_info {t : TypeId} {s : Nat} (h : bytesA P t = some s) : ∃ i, P.info? t = some i ∧ i.bytes = s := by
  unfold bytesA at h
  split at h
  · rename_i i hi; cases h; exact ⟨i, hi, rfl⟩
  · cases h

/-- The program's append, where there is none. -/
theorem append_grow {ty t u e : TypeId} {size by_ sLen n sCap : Nat} {base : Option Addr} {x' zv : Value} {ov cv : List Value} (hu : P.underlying t = some (.slice e)) (hsz : sizeA P e = some size) (hby : bytesA P e = some by_)
    (hz : ∀ w, (zeroValue e).run P w = .ok zv w) (ht2 : plainArg P u) (hn : (Builtin.lenOf x').run P w = .ok n w) (hc : (Builtin.firstCells size n x').run P w.drew = .ok cv.toArray w.drew)
    (ho : (Builtin.firstCells size sLen (.slice base sLen sCap)).run P w.drew = .ok ov.toArray w.drew) (hroom : sCap < sLen + n) (hb : (sLen + n) * by_ ≤ 1000000000) (hl : sLen + n ≤ 1000000) :
    ∃ cap, sLen + n ≤ cap ∧ (Builtin.append_ #[t, u] ty #[.slice base sLen sCap, x']).run P w =
      .ok (.slice (some ⟨w.heap.size, 0, none⟩) (sLen + n) cap) (w.drew.alloc (.cells ((ov ++ cv).toArray ++ Builtin.zeroCells zv.cells (cap - (sLen + n))) e)) := by
  obtain ⟨i, hi, hib⟩ := bytesA_info hby
  refine ⟨grownCap w (sLen + n) sCap e, by simp [grownCap, Question.cut], ?_⟩
  have hfit : Builtin.nextslicecap (sLen + n) sCap * i.bytes ≤ 281474976710656 := growslice_fits hroom (by rw [hib]; omega)
  have h48 : ¬ (Builtin.nextslicecap (sLen + n) sCap * i.bytes > 2 ^ 48) := by omega
  have h63 : ¬ (((sLen + n : Nat) : Int) > IntKind.i64.max ∧ (false = true ∨ i.bytes = 0)) := by
    simp only [IntKind.max, IntKind.signed, IntKind.bits]
    simp
    omega
  have hro : ¬ (sLen + n ≤ sCap) := by omega
  have hty : ∀ w, (typeInfo e).run P w = .ok i w := fun w => run_info hi w
  have hch : (choose (.appendCap (sLen + n) sCap e)).run P w = .ok (grownCap w (sLen + n) sCap e) w.drew := by
    simp [Question.forced, grownCap]
  rw [append_head hu hsz ht2 hn, if_neg hro, bind_ok (hty w), if_neg h63]
  rw [bind_ok (hty w), if_neg h48]
  rw [bind_ok hch, bind_ok (hty _), bind_ok (run_askRoom _ _ _), bind_ok ho, bind_ok hc, bind_ok (hz _)]
  simp [newRow]
  rfl

theorem cells_oneCell (hs : ∀ i, (σ i).oneCell' = true) {l : List AV} {vs : List Value} (hl : concs σ ρ l = some vs) (hp : l.all AV.plain = true) : ∀ v ∈ vs, v.oneCell' = true := fun v hv => by
  obtain ⟨i, hi⟩ := List.mem_iff_getElem?.1 hv
  have hlen := concs_length hl
  have hil : i < l.length := by
    have := (List.getElem?_eq_some_iff.1 hi).1; omega
  obtain ⟨v', e1, e2⟩ := concs_get hl (List.getElem?_eq_getElem hil)
  rw [hi] at e1; cases e1
  exact plain_one e2 hs (List.all_eq_true.1 hp _ (List.getElem_mem hil))

theorem growT_get {off m old all : Nat} {t : T AV} {xs : List AV} (h : off = 0 → m = old) (hall : old + xs.length = all) : ∀ i, i < all →
    (t.list off old ++ xs)[i]? = some ((growT off m old all t xs).get i) := fun i hi => by
  have hll : (t.list off old).length = old := t.list_length _ _
  cases off with
  | zero =>
    have hm := h rfl
    subst hm
    have hlt := lt_dep (m + xs.length)
    show _ = some ((T.lay (dep (m + xs.length)) t m xs).get i)
    by_cases him : i < m
    · rw [List.getElem?_append_left (by omega), T.get_lay_out xs t m i (by omega) (by omega) (by omega), t.list_get _ _ _ (by omega), Nat.zero_add]
    · rw [List.getElem?_append_right (by omega), hll, ← T.get_lay_in (d := dep (m + xs.length)) xs t m i (by omega) (by omega) (by omega)]
  | succ off =>
    have hlt := lt_dep all
    have := T.get_lay_in (d := dep all) (t.list (off + 1) old ++ xs) (.leaf default) 0 i (by rw [List.length_append, hll]; omega) (by omega) (by rw [List.length_append, hll]; omega)
    show _ = some ((T.lay (dep all) (.leaf default) 0 (t.list (off + 1) old ++ xs)).get i)
    simpa using this

/-- A slice that goes on in its own block, or in a new one. -/
theorem appendA_run (hs : ∀ i, (σ i).oneCell' = true) (hr : HR σ ρ H w.heap) {t u ty : TypeId} {s x v : AV} {s' x' : Value} (h : appendA P t u s x H = some (v, H')) (hx1 : conc σ ρ s = some s') (hx2 : conc σ ρ x = some x') :
    Leaves σ ρ P H H' w (Builtin.append_ #[t, u] ty #[s', x']) v := by
  unfold appendA at h
  split at h
  · rename_i e hu
    split at h
    · rename_i k by_ z hsz hby hz
      have hzw : ∃ zv, (∀ w, (zeroValue e).run P w = .ok zv w) ∧ conc σ ρ z = some zv := by
        obtain ⟨zv, h1, h2⟩ := run_zero (P := P) (σ := σ) (ρ := ρ) hz w
        refine ⟨zv, fun w2 => ?_, h2⟩
        obtain ⟨zv', h1', h2'⟩ := run_zero (P := P) (σ := σ) (ρ := ρ) hz w2
        rw [h2] at h2'; cases h2'; exact h1'
      obtain ⟨zv, hz1, hz2⟩ := hzw
      have hzc := cells_size hz2 hs
      dsimp only at h
      split at h
      · rename_i xs n hsrc hnum
        rw [Bool.or_eq_false_iff] at hnum
        obtain ⟨hnum, hzl⟩ := hnum
        have hzl : (cellsOf z).length = k + 1 := by
          have : Nat.beq (cellsOf z).length (k + 1) = true := by simpa using hzl
          exact Nat.eq_of_beq_eq_true this
        have hpa : plainArg P u := by
          split at hnum
          · rename_i e2 h2; exact .inl ⟨e2, h2⟩
          · rename_i h2; exact .inr h2
          · cases hnum
        obtain ⟨hn, cv, hcv, hfc⟩ := srcA_run (P := P) hr hsrc hx2
        have hfcd : (Builtin.firstCells (k + 1) n x').run P w.drew = .ok cv.toArray w.drew := by
          have hr' : HR σ ρ H w.drew.heap := hr
          obtain ⟨_, cv', hcv', hfc'⟩ := srcA_run (P := P) (w := w.drew) hr' hsrc hx2
          rw [hcv] at hcv'; cases hcv'; exact hfc'
        have hcl := concs_length hcv
        -- growing into a new block
        have grow : ∀ (H1 : Heap) (base : Option Addr) (sLen sCap : Nat) (old : List AV) (ov : List Value), HR σ ρ H1 w.heap → Step ρ H w ρ H1 w → H1.next = H.next → concs σ ρ old = some ov → old.length = sLen * (k + 1) →
            (Builtin.firstCells (k + 1) sLen (.slice base sLen sCap)).run P w.drew = .ok ov.toArray w.drew → sCap < sLen + n → (sLen + n) * by_ ≤ 1000000000 → sLen + n ≤ 1000000 → xs.length = n * (k + 1) →
            newCells H1 (old ++ xs) e = some H' → v = .osl H.next 0 0 (sLen + n) (k + 1) → Leaves σ ρ P H H' w (Builtin.append_ #[t, u] ty #[.slice base sLen sCap, x']) v := by
          intro H1 base sLen sCap old ov hr1 hst1 hnx hov hol hfo hroom hb1 hb2 hxl hnew hv
          obtain ⟨cap, hc1, hc2⟩ := append_grow (ty := ty) hu hsz hby hz1 hpa hn hfcd hfo hroom hb1 hb2
          have hovl := concs_length hov
          have hall := concs_append hov hcv
          have hzs : (Builtin.zeroCells zv.cells (cap - (sLen + n))).size = (cap - (sLen + n)) * (k + 1) := by
            rw [zeroCells_size, hzc, hzl]
          have e1 : (ov ++ cv).length = (sLen + n) * (k + 1) := by
            rw [List.length_append, Nat.add_mul]; omega
          obtain ⟨ρ', g1, g2, g3⟩ := grown (w1 := w.drew.alloc (.cells ((ov ++ cv).toArray ++ Builtin.zeroCells zv.cells (cap - (sLen + n))) e)) hr1 hall hnew (size := k + 1) (need := sLen + n) (cap := cap) e1 (by omega) hc1
            (by rw [e1, hzs, ← Nat.add_mul]; congr 1; omega) rfl ⟨rfl, rfl, rfl⟩
          rw [hnx] at g3
          exact ⟨ρ', _, _, hc2, g1, hst1.trans g2, by rw [hv]; exact g3⟩
        split at h
        · -- nil
          simp only [conc, Option.some.injEq] at hx1
          subst hx1
          split at h
          · cases h
            refine Leaves.still hr (append_room (ty := ty) (cv := cv) (w1 := w) hu hsz hpa hn hfc (by omega) (fun a ha => by cases ha) (fun _ => rfl)) ?_
            rfl
          · rename_i hn0
            split at h
            · rename_i H1 hc1 hnew
              cases h
              simp only [Bool.and_eq_true] at hc1
              obtain ⟨⟨c1, c2⟩, c3⟩ := hc1
              have c1 := Nat.le_of_ble_eq_true c1
              have c2 := Nat.le_of_ble_eq_true c2
              have c3 := Nat.eq_of_beq_eq_true c3
              have hn0 : 0 < n := Nat.pos_of_ne_zero hn0
              exact grow H none 0 0 [] [] hr .refl rfl rfl (by simp) (by simp [Builtin.firstCells]) (by omega) (by simpa using c1) (by simpa using c2) c3 (by simpa using hnew) (by simp)
            · cases h
        · -- a slice whose room is known
          rename_i id off len cap
          obtain ⟨p, hp, rfl⟩ := conc_slice hx1
          split at h
          · split at h
            · rename_i hle
              cases h
              have hle := Nat.le_of_ble_eq_true hle
              have hx0 := srcA_zero hsrc
              subst hx0
              cases hcv
              exact Leaves.still hr (v' := .slice (some ⟨p.b, p.o + off, none⟩) (len + 0) cap) (append_room (ty := ty) (cv := []) (w1 := w) hu hsz hpa hn hfc (by omega) (fun a ha => rfl) (fun ha => by cases ha)) (by simp [conc, hp])
            · cases h
          · rename_i hn0
            have hn0 : 0 < n := Nat.pos_of_ne_zero hn0
            split at h
            · rename_i hle
              have hle := Nat.le_of_ble_eq_true hle
              split at h
              · rename_i H1 hst
                cases h
                obtain ⟨s1, s2, s3⟩ := stores_run (P := P) hs hr hp hst hcv
                refine ⟨ρ, .slice (some ⟨p.b, p.o + off, none⟩) (len + n) cap, _, append_room (ty := ty) hu hsz hpa hn hfc hle (fun a ha => ?_) (fun ha => by cases ha), s2, s3, by simp [conc, hp]⟩
                cases ha
                rw [add_none, Nat.add_assoc]; exact s1
              · cases h
            · rename_i hle
              have hle : cap < len + n := by
                rcases Nat.lt_or_ge cap (len + n) with g | g
                · exact g
                · rw [Nat.ble_eq_true_of_le g] at hle; cases hle
              split at h
              · rename_i old hold
                split at h
                · rename_i H1 hc1 hnew
                  cases h
                  simp only [Bool.and_eq_true] at hc1
                  obtain ⟨⟨c1, c2⟩, c3⟩ := hc1
                  have c1 := Nat.le_of_ble_eq_true c1
                  have c2 := Nat.le_of_ble_eq_true c2
                  have c3 := Nat.eq_of_beq_eq_true c3
                  rw [List.length_append, Nat.add_mul] at c3
                  have ho : ∃ ov, concs σ ρ old = some ov ∧ old.length = len * (k + 1) ∧ (Builtin.firstCells (k + 1) len (.slice (some ⟨p.b, p.o + off, none⟩) len cap)).run P w.drew = .ok ov.toArray w.drew := by
                    split at hold
                    · cases hold
                      exact ⟨[], rfl, by simp, by simp only [Builtin.firstCells, zero_mul_cells]⟩
                    · have hr' : HR σ ρ H w.drew.heap := hr
                      obtain ⟨vs, q1, q2, q3⟩ := loads_run (P := P) (w := w.drew) hr' hp hold
                      exact ⟨vs, q1, by have := concs_length q1; omega, by simpa [Builtin.firstCells] using q3⟩
                  obtain ⟨ov, q1, q2, q3⟩ := ho
                  exact grow H _ len cap old ov hr .refl rfl q1 q2 q3 hle c1 c2 (by omega) hnew rfl
                · cases h
              · cases h
        · -- a slice that has room we do not know of
          rename_i id off0 off len k'
          obtain ⟨p, hp, hk, hl, hd, rfl⟩ := conc_osl hx1
          split at h
          · cases h
            have hx0 := srcA_zero hsrc
            subst hx0
            cases hcv
            refine Leaves.still hr (v' := .slice (some ⟨p.b, p.o + (if off = p.n then off0 else off), none⟩) (len + 0) ((p.n - off) / k')) (append_room (ty := ty) (cv := []) (w1 := w) hu hsz hpa hn hfc ?_ (fun a ha => rfl) (fun ha => by cases ha)) ?_
            · exact (Nat.le_div_iff_mul_le hk).2 (by simp; omega)
            · simp only [conc, hp]
              rw [if_pos ⟨hk, hl, hd⟩]; rfl
          · rename_i hn0
            have hn0 : 0 < n := Nat.pos_of_ne_zero hn0
            split at h
            · rename_i t' m ty' hg hkk
              have hkk := Nat.eq_of_beq_eq_true hkk
              subst hkk
              obtain ⟨q, hq, hb⟩ := hr.live id _ (hr.lt hp) hg
              rw [hp] at hq; cases hq
              obtain ⟨c, fz, b1, b2, b3, b4, b5⟩ := hb
              have hnk : 1 * (k + 1) ≤ n * (k + 1) := Nat.mul_le_mul_right _ hn0
              have hadd : (len + n) * (k + 1) = len * (k + 1) + n * (k + 1) := Nat.add_mul _ _ _
              split at h
              · rename_i hle
                have hle := Nat.le_of_ble_eq_true hle
                split at h
                · rename_i H1 hst
                  cases h
                  obtain ⟨s1, s2, s3⟩ := stores_run (P := P) hs hr hp hst hcv
                  have hne : ¬ off = p.n := by omega
                  refine ⟨ρ, .slice (some ⟨p.b, p.o + (if off = p.n then off0 else off), none⟩) (len + n) ((p.n - off) / (k + 1)), _, append_room (ty := ty) hu hsz hpa hn hfc ((Nat.le_div_iff_mul_le hk).2 (by omega)) (fun a ha => ?_) (fun ha => by cases ha), s2, s3, ?_⟩
                  · cases ha
                    rw [if_neg hne, add_none, Nat.add_assoc]; exact s1
                  · simp only [conc, hp]
                    rw [if_pos ⟨hk, by omega, hd⟩]
                · cases h
              · split at h
                · rename_i hc1
                  cases h
                  simp only [Bool.and_eq_true] at hc1
                  obtain ⟨⟨⟨⟨⟨⟨c1, c2⟩, c3⟩, c4⟩, c5⟩, c6⟩, c7⟩ := hc1
                  have c1 := Nat.eq_of_beq_eq_true c1
                  have c2 := Nat.le_of_ble_eq_true c2
                  have c3 := Nat.le_of_ble_eq_true c3
                  have c4 := Nat.eq_of_beq_eq_true c4
                  have c6 := bl c6
                  have c7 := Nat.eq_of_beq_eq_true c7
                  subst c7
                  -- the cells that the slice has
                  have hload : H.loads id off (len * (k + 1)) = some (t'.list off (len * (k + 1))) := by
                    unfold Heap.loads
                    rw [hg]
                    simp only [Nat.ble_eq_true_of_le (show off + len * (k + 1) ≤ m by omega)]
                  have hr' : HR σ ρ H w.drew.heap := hr
                  obtain ⟨vs, q1, q2, q3⟩ := loads_run (P := P) (w := w.drew) hr' hp hload
                  have hvl := concs_length q1
                  have hll : (t'.list off (len * (k + 1))).length = len * (k + 1) := t'.list_length _ _
                  have hfo : (Builtin.firstCells (k + 1) len (.slice (some ⟨p.b, p.o + (if off = p.n then off0 else off), none⟩) len ((p.n - off) / (k + 1)))).run P w.drew = .ok vs.toArray w.drew := by
                    simp only [Builtin.firstCells]
                    by_cases hl0 : len = 0
                    · subst hl0
                      have : vs = [] := List.length_eq_zero_iff.1 (by rw [hvl, hll]; simp)
                      subst this
                      rw [zero_mul_cells]
                    · have : 1 * (k + 1) ≤ len * (k + 1) := Nat.mul_le_mul_right _ (by omega)
                      rw [if_neg (by omega)]
                      exact q3
                  -- the tree of the cells, either way
                  have htree := growT_get (off := off) (m := m) (old := len * (k + 1)) (all := (len + n) * (k + 1)) (t := t') (xs := xs) (fun h0 => by omega) (by omega)
                  generalize growT off m (len * (k + 1)) ((len + n) * (k + 1)) t' xs = tree at htree ⊢
                  have hall := concs_append q1 hcv
                  by_cases hroom : len + n ≤ (p.n - off) / (k + 1)
                  · -- there was room
                    have hroom' : (len + n) * (k + 1) ≤ p.n - off := (Nat.le_div_iff_mul_le hk).1 hroom
                    have hne : ¬ off = p.n := by omega
                    obtain ⟨c', a1, a2, a3⟩ := setCells_block p.b cv (p.o + off + len * (k + 1)) w c ty' fz b1 (by omega)
                    have hrun : (storeCells ⟨p.b, p.o + off + len * (k + 1), none⟩ cv).run P w = .ok () (w.setCells p.b (p.o + off + len * (k + 1)) cv) := by
                      have := run_storeCells_cells (P := P) p.b (p.o + off + len * (k + 1)) cv 0 w (fun j hj => ?_) (fun j hj => not_frozen b1 b2 (by omega)) (cells_oneCell hs hcv c5)
                      · simpa using this
                      · have : p.o + off + len * (k + 1) + 0 + j < c.size := by omega
                        simp only [World.cell?, b1, Option.isSome_none, Bool.false_eq_true, if_false]
                        rw [Array.getElem?_eq_getElem this]; rfl
                    have hfresh := hr.fresh H.next (Nat.le_refl _)
                    have hB : BR σ (ρ.with H.next ⟨p.b, p.o + off, p.n - off⟩) ⟨p.b, p.o + off, p.n - off⟩ (w.setCells p.b (p.o + off + len * (k + 1)) cv).heap[p.b]? (.cells tree ((len + n) * (k + 1)) ty') := by
                      refine ⟨c', fz, a1, by rw [a2]; exact b2, by rw [a2, b3]; show p.o + p.n = p.o + off + (p.n - off); omega, hroom', fun i hi => ?_⟩
                      have ht := htree i hi
                      have hall' := concs_mono (Place.with_le (p := ⟨p.b, p.o + off, p.n - off⟩) hfresh) _ _ hall
                      obtain ⟨v', e1, e2⟩ := concs_get hall' ht
                      refine ⟨v', ?_, e2⟩
                      show c'[p.o + off + i]? = some v'
                      rw [a3]
                      by_cases hi1 : i < len * (k + 1)
                      · rw [if_neg (by omega)]
                        rw [List.getElem?_append_left (by omega)] at e1
                        obtain ⟨v2, f1, f2⟩ := b5 (off + i) (by omega)
                        rw [show p.o + off + i = p.o + (off + i) by omega, f1]
                        have hx := concs_get q1 (i := i) (t'.list_get _ _ _ hi1)
                        obtain ⟨v3, f3, f4⟩ := hx
                        rw [e1] at f3; cases f3
                        rw [f4] at f2; cases f2; rfl
                      · rw [if_pos (by omega)]
                        rw [List.getElem?_append_right (by omega)] at e1
                        rw [show p.o + off + i - (p.o + off + len * (k + 1)) = i - vs.length by omega]
                        exact e1
                    refine ⟨ρ.with H.next ⟨p.b, p.o + off, p.n - off⟩, .slice (some ⟨p.b, p.o + (if off = p.n then off0 else off), none⟩) (len + n) ((p.n - off) / (k + 1)), w.setCells p.b (p.o + off + len * (k + 1)) cv,
                      append_room (ty := ty) hu hsz hpa hn hfc hroom (fun a ha => ?_) (fun ha => by cases ha),
                      hr.rename c6 hp hg rfl (setCells_size _ _ _ _) (fun d hd => setCells_other _ _ _ _ d hd) hB,
                      Step.rename hr c6 hp hg rfl (setCells_size _ _ _ _) (fun d hd => setCells_other _ _ _ _ d hd) (setCells_rest _ _ _ _), ?_⟩
                    · cases ha
                      rw [if_neg hne, add_none]; exact hrun
                    · simp only [conc, Place.with_self]
                      rw [if_pos ⟨hk, by omega, by rw [Nat.sub_zero]; exact hd⟩, if_neg hne, if_neg (by omega), Nat.sub_zero, Nat.add_zero]
                  · -- there was none
                    have hidlt := hr.lt hp
                    have hr1 := hr.forget hidlt
                    have hst1 : Step ρ H w ρ (H.drop id) w := Step.forget hr hidlt
                    obtain ⟨cap, g1, g2⟩ := append_grow (ty := ty) hu hsz hby hz1 hpa hn hfcd hfo (by omega) c2 c3
                    have hzs : (Builtin.zeroCells zv.cells (cap - (len + n))).size = (cap - (len + n)) * (k + 1) := by
                      rw [zeroCells_size, hzc, hzl]
                    have hvs : (vs ++ cv).length = (len + n) * (k + 1) := by rw [List.length_append, hadd]; omega
                    generalize hrest : Builtin.zeroCells zv.cells (cap - (len + n)) = rest at *
                    have hN : ((vs ++ cv).toArray ++ rest).size = cap * (k + 1) := by
                      simp only [Array.size_append, List.size_toArray, hvs, hzs]
                      rw [← Nat.add_mul]; congr 1; omega
                    have hfresh := hr.fresh H.next (Nat.le_refl _)
                    have hB : BR σ (ρ.with H.next ⟨w.heap.size, 0, cap * (k + 1)⟩) ⟨w.heap.size, 0, cap * (k + 1)⟩ (some (.cells ((vs ++ cv).toArray ++ rest) ty')) (.cells tree ((len + n) * (k + 1)) ty') := by
                      refine ⟨_, (0, 0), rfl, .inl rfl, by rw [hN]; show cap * (k + 1) = 0 + cap * (k + 1); rw [Nat.zero_add], Nat.mul_le_mul_right _ g1, fun i hi => ?_⟩
                      have hall' := concs_mono (Place.with_le (p := ⟨w.heap.size, 0, cap * (k + 1)⟩) hfresh) _ _ hall
                      obtain ⟨v', e1, e2⟩ := concs_get hall' (htree i hi)
                      refine ⟨v', ?_, e2⟩
                      show ((vs ++ cv).toArray ++ rest)[0 + i]? = some v'
                      rw [Nat.zero_add, Array.getElem?_append_left (by simp only [List.size_toArray]; omega)]
                      simpa using e1
                    have hle : (len + n) * (k + 1) ≤ cap * (k + 1) := Nat.mul_le_mul_right _ g1
                    refine ⟨ρ.with H.next ⟨w.heap.size, 0, cap * (k + 1)⟩, _, _, g2, HR.new hr1 c6 rfl hB, hst1.trans (Step.new hr1 c6 rfl rfl rfl ⟨rfl, rfl, rfl⟩), ?_⟩
                    simp only [conc, Place.with_self]
                    rw [if_pos ⟨hk, by omega, by simp⟩]
                    simp
                · cases h
            · cases h
        · cases h
      · cases h
    · cases h
  · cases h
end
end Ev
end Go.Proofs.YtpppaheennkkpaaGreatDoor

/- copy, clear, delete, a map written, a store; calls. -/
namespace Go.Proofs.YtpppaheennkkpaaGreatDoor
namespace Ev

section
variable {σ : Nat → Value} {ρ : Place} {P : Program} {H H' : Heap} {w : World}

theorem stores_tree (hs : ∀ i, (σ i).oneCell' = true) (hr : HR σ ρ H w.heap) {id off m : Nat} {t t2 : T AV} {ty : TypeId} {l : List AV} {p : Pl} {vs : List Value} (hp : ρ id = some p) (hk : H.get id = some (.cells t m ty))
    (hn : off + l.length ≤ m) (hpl : l.all AV.plain = true) (hl : concs σ ρ l = some vs) (hin : ∀ i, off ≤ i → i < off + l.length → l[i - off]? = some (t2.get i)) (hout : ∀ i, i < m → ¬ (off ≤ i ∧ i < off + l.length) → t2.get i = t.get i) :
    (storeCells ⟨p.b, p.o + off, none⟩ vs).run P w = .ok () (w.setCells p.b (p.o + off) vs) ∧
      HR σ ρ (H.put id (.cells t2 m ty)) (w.setCells p.b (p.o + off) vs).heap ∧ Step ρ H w ρ (H.put id (.cells t2 m ty)) (w.setCells p.b (p.o + off) vs) := by
  have hlen := concs_length hl
  obtain ⟨q, hq, hb⟩ := hr.live id _ (hr.lt hp) hk
  rw [hp] at hq; cases hq
  obtain ⟨c, fz, h1, h2, h3, h4, h5⟩ := hb
  obtain ⟨c', a1, a2, a3⟩ := setCells_block p.b vs (p.o + off) w c ty fz h1 (by omega)
  have hB : BR σ ρ p (w.setCells p.b (p.o + off) vs).heap[p.b]? (.cells t2 m ty) := by
    refine ⟨c', fz, a1, by rw [a2]; exact h2, by rw [a2]; exact h3, h4, fun i hi => ?_⟩
    rw [a3]
    by_cases hr : off ≤ i ∧ i < off + l.length
    · rw [if_pos (by omega)]
      obtain ⟨v, e1, e2⟩ := concs_get hl (hin i hr.1 hr.2)
      exact ⟨v, by rw [show p.o + i - (p.o + off) = i - off by omega]; exact e1, e2⟩
    · rw [if_neg (by omega), hout i hi hr]
      exact h5 i hi
  refine ⟨?_, hr.turn hp hk (setCells_size _ _ _ _) (fun d hd => setCells_other _ _ _ _ d hd) hB,
    .turn hr hp hk (setCells_size _ _ _ _) (fun d hd => setCells_other _ _ _ _ d hd) (setCells_rest _ _ _ _) (fun c ty f h => setCells_cells _ _ _ _ c ty f h)⟩
  have := run_storeCells_cells (P := P) p.b (p.o + off) vs 0 w (fun j hj => ?_) (fun j hj => ?_) (cells_oneCell hs hl hpl)
  · simpa using this
  · have : p.o + off + 0 + j < c.size := by omega
    simp only [World.cell?, h1, Option.isSome_none, Bool.false_eq_true, if_false]
    rw [Array.getElem?_eq_getElem this]; rfl
  · exact not_frozen h1 h2 (by omega)

theorem store_nil (a : Addr) : (storeCells a []).run P w = .ok () w := rfl

theorem copyA_run (hs : ∀ i, (σ i).oneCell' = true) (hr : HR σ ρ H w.heap) {t ty : TypeId} {ts : Array TypeId} {d x v : AV} {d' x' : Value} (ht : ts[0]? = some t) (h : copyA P t d x H = some (v, H')) (hd : conc σ ρ d = some d') (hx : conc σ ρ x = some x') :
    Leaves σ ρ P H H' w (Builtin.copy_ ts ty #[d', x']) v := by
  unfold copyA at h
  split at h
  · rename_i e hu
    split at h
    · rename_i size base dlen hsz hdl
      have hdst : ∃ b' cap, d' = .slice b' dlen cap ∧ ((base = none ∧ dlen = 0 ∧ b' = none) ∨ ∃ id off p a, base = some (id, off) ∧ ρ id = some p ∧ b' = some a ∧ (0 < dlen → a = ⟨p.b, p.o + off, none⟩)) := by
        rcases sliceOf_conc hdl hd with ⟨e1, e2, rfl⟩ | ⟨id, off, p, a, cap, e1, hp, rfl, ha⟩
        · exact ⟨none, 0, by rw [e2], .inl ⟨e1, e2, rfl⟩⟩
        · exact ⟨some a, cap, rfl, .inr ⟨id, off, p, a, e1, hp, rfl, ha⟩⟩
      obtain ⟨b', cap, rfl, hbase⟩ := hdst
      dsimp only at h
      split at h
      · rename_i sl hsl
        have hlen : (Builtin.lenOf x').run P w = .ok sl w := by
          split at hsl
          · rename_i s
            cases hsl
            simp only [conc, Option.some.injEq] at hx
            subst hx
            simp [Builtin.lenOf, ByteArray.size]
          · split at hsl
            · rename_i b n hq
              cases hsl
              rcases sliceOf_conc hq hx with ⟨_, rfl, rfl⟩ | ⟨id, off, p, a, cap, e1, hp, rfl, ha⟩ <;> simp [Builtin.lenOf]
            · cases hsl
        have hmin : Nat.min sl dlen = min sl dlen := rfl
        split at h
        · rename_i hm0
          cases h
          have hcells : (Builtin.firstCells size 0 x').run P w = .ok #[] w := by
            split at hsl
            · rename_i s
              simp only [conc, Option.some.injEq] at hx
              subst hx
              simp [Builtin.firstCells]
            · split at hsl
              · rename_i b n hq
                rcases sliceOf_conc hq hx with ⟨_, rfl, rfl⟩ | ⟨id, off, p, a, cap, e1, hp, rfl, ha⟩
                · simp [Builtin.firstCells]
                · simp only [Builtin.firstCells, zero_mul_cells]
              · cases hsl
          refine Leaves.still hr (v' := goInt 0) ?_ rfl
          unfold Builtin.copy_
          simp only [ht, show (#[Value.slice b' dlen cap, x'] : Array Value)[0]? = some (Value.slice b' dlen cap) from rfl, show (#[Value.slice b' dlen cap, x'] : Array Value)[1]? = some x' from rfl]
          rw [bind_ok (run_und hu w)]
          dsimp only
          rw [bind_ok hlen]
          rw [bind_ok (run_size hsz w), hmin, hm0, bind_ok hcells]
          cases b' with
          | none => rfl
          | some a => rfl
        · rename_i n hm0
          split at h
          · rename_i id off l hcells
            split at h
            · rename_i H1 hst
              cases h
              rcases hbase with ⟨e1, _⟩ | ⟨id', off', p, a, e1, hp, rfl, ha⟩
              · cases e1
              · cases e1
                have hpos : 0 < min sl dlen := Nat.pos_of_ne_zero hm0
                have ha := ha (by omega)
                subst ha
                have hfc : ∃ cv, concs σ ρ l = some cv ∧ (Builtin.firstCells size (min sl dlen) x').run P w = .ok cv.toArray w := by
                  split at hcells
                  · rename_i s
                    split at hcells
                    · rename_i hs1
                      cases hcells
                      simp only [conc, Option.some.injEq] at hx
                      subst hx
                      refine ⟨_, bytesOf_conc _, ?_⟩
                      simp [Builtin.firstCells, ByteArray.extract_mk]
                    · cases hcells
                  · split at hcells
                    · rename_i id2 off2 n2 hq
                      rcases sliceOf_conc hq hx with ⟨e1, _⟩ | ⟨id3, off3, p3, a3, cap3, e1, hp3, rfl, ha3⟩
                      · cases e1
                      · cases e1
                        obtain ⟨vs, q1, q2, q3⟩ := loads_run (P := P) hr hp3 hcells
                        have hn2 : n2 = sl := by
                          split at hsl
                          · cases hq
                          · rw [hq] at hsl; cases hsl; rfl
                        have := ha3 (by omega)
                        subst this
                        exact ⟨vs, q1, by simpa [Builtin.firstCells] using q3⟩
                    · cases hcells
                obtain ⟨cv, c1, c2⟩ := hfc
                obtain ⟨s1, s2, s3⟩ := stores_run (P := P) hs hr hp hst c1
                refine ⟨ρ, .int .i64 (Int.ofNat (min sl dlen)), _, ?_, s2, s3, rfl⟩
                unfold Builtin.copy_
                simp only [ht, show (#[Value.slice (some ⟨p.b, p.o + off, none⟩) dlen cap, x'] : Array Value)[0]? = some (Value.slice (some ⟨p.b, p.o + off, none⟩) dlen cap) from rfl, show (#[Value.slice (some ⟨p.b, p.o + off, none⟩) dlen cap, x'] : Array Value)[1]? = some x' from rfl]
                rw [bind_ok (run_und hu w)]
                dsimp only
                rw [bind_ok hlen]
                rw [bind_ok (run_size hsz w), hmin, bind_ok c2]
                dsimp only
                rw [bind_ok s1]
                rfl
            · cases h
          · cases h
      · cases h
    · cases h
  · cases h
end
end Ev
end Go.Proofs.YtpppaheennkkpaaGreatDoor

/- clear, delete, a map written, a store; calls. -/
namespace Go.Proofs.YtpppaheennkkpaaGreatDoor
namespace Ev

section
variable {σ : Nat → Value} {ρ : Place} {P : Program} {H H' : Heap} {w : World}

theorem all_reps {z : List AV} (h : z.all AV.plain = true) : ∀ n, (reps z n).all AV.plain = true
  | 0 => rfl
  | n + 1 => by rw [reps, List.all_append, h, all_reps h n]; rfl
theorem zeroCells_eq {zv : List Value} (h : 0 < zv.length) (n : Nat) : (Builtin.zeroCells zv.toArray n).toList = (List.replicate n zv).flatten := by
  have := range_reps zv h n
  unfold Builtin.zeroCells
  simp only [List.size_toArray] at this ⊢
  rw [this]

/-- An object that is no row is turned. -/
theorem turn_obj (hr : HR σ ρ H w.heap) {id : Nat} {p : Pl} {k0 k : ABlk} {o o' : Obj} (hp : ρ id = some p) (hg : H.get id = some k0) (ho : w.heap[p.b]? = some o) (hb : BR σ ρ p (some o') k) (hcl : ∀ (c : Array Value) (ty : TypeId) (f : Nat × Nat), o = .cells c ty f → ∃ c', o' = .cells c' ty f) :
    HR σ ρ (H.put id k) (w.heap.setIfInBounds p.b o') ∧ Step ρ H w ρ (H.put id k) { w with heap := w.heap.setIfInBounds p.b o' } := by
  have hlt : p.b < w.heap.size := by
    rcases Nat.lt_or_ge p.b w.heap.size with h | h
    · exact h
    · rw [Array.getElem?_eq_none h] at ho; cases ho
  have h1 : (w.heap.setIfInBounds p.b o')[p.b]? = some o' := by simp [hlt]
  have h2 : ∀ c, c ≠ p.b → (w.heap.setIfInBounds p.b o')[c]? = w.heap[c]? := fun c hc => Array.getElem?_setIfInBounds_ne (fun e => hc e.symm)
  exact ⟨hr.turn hp hg (by simp) h2 (by rw [h1]; exact hb), .turn hr hp hg (by simp) h2 ⟨rfl, rfl, rfl⟩ (fun c ty f h => by
    rw [ho] at h; cases h
    obtain ⟨c', h⟩ := hcl c ty f rfl
    exact ⟨c', by rw [← h]; exact h1⟩)⟩

theorem clearT_get {z : List AV} {off m n size : Nat} {t : T AV} (hz : z.length = size) (_h0 : 0 < size) (hm : off + n * size ≤ m) :
    (∀ i, off ≤ i → i < off + (reps z n).length → (reps z n)[i - off]? = some ((clearT z off m n size t).get i)) ∧
    (∀ i, i < m → ¬ (off ≤ i ∧ i < off + (reps z n).length) → (clearT z off m n size t).get i = t.get i) := by
  have hrl := reps_length z n
  have hlt := lt_dep m
  have gen : (∀ i, off ≤ i → i < off + (reps z n).length → (reps z n)[i - off]? = some ((T.lay (dep m) t off (reps z n)).get i)) ∧
    (∀ i, i < m → ¬ (off ≤ i ∧ i < off + (reps z n).length) → (T.lay (dep m) t off (reps z n)).get i = t.get i) :=
    ⟨fun i h1 h2 => T.get_lay_in (d := dep m) _ _ _ _ (by rw [hrl, hz]; omega) h1 h2, fun i hi hno => T.get_lay_out _ _ _ _ (by rw [hrl, hz]; omega) (by omega) hno⟩
  unfold clearT
  split
  · rename_i v hb
    have hb := Nat.eq_of_beq_eq_true hb
    refine ⟨fun i h1 h2 => ?_, fun i hi hno => ?_⟩
    · have := treeOf_get (z := [v]) (n := n) (i := i) (by simp) (by rw [hrl] at h2; omega)
      rw [Nat.sub_zero, this]
      rfl
    · rw [hrl, hz] at hno; exact absurd ⟨by omega, by omega⟩ hno
  · exact gen

theorem clearA_run (hs : ∀ i, (σ i).oneCell' = true) (hr : HR σ ρ H w.heap) {t ty : TypeId} {ts : Array TypeId} {x : AV} {x' : Value} (ht : ts[0]? = some t) (h : clearA P t x H = some H') (hx : conc σ ρ x = some x') :
    Leaves σ ρ P H H' w (Builtin.clear_ ts ty #[x']) undefA := by
  have hu0 : conc σ ρ undefA = some (.tuple #[]) := rfl
  unfold clearA at h
  split at h
  · rename_i e hu
    split at h
    · rename_i n hsl
      cases h
      rcases sliceOf_conc hsl hx with ⟨_, rfl, rfl⟩ | ⟨id, off, p, a, cap, e1, _⟩
      · exact Leaves.still hr (by simp [Builtin.clear_, ht, run_und hu]) hu0
      · cases e1
    · rename_i y hsl
      cases h
      rcases sliceOf_conc hsl hx with ⟨e1, _⟩ | ⟨id, off, p, a, cap, e1, hp, rfl, ha⟩
      · cases e1
      · exact Leaves.still hr (by simp [Builtin.clear_, ht, run_und hu]) hu0
    · rename_i id off n hn0 hsl
      split at h
      · rename_i z size t' m ty' hz hsz hg
        split at h
        · rename_i hc
          simp only [Bool.and_eq_true] at hc
          obtain ⟨⟨⟨c1, c2⟩, c3⟩, c4⟩ := hc
          have c4 := bl c4
          have c1 := Nat.eq_of_beq_eq_true c1
          have c3 := Nat.le_of_ble_eq_true c3
          rcases sliceOf_conc hsl hx with ⟨e1, _⟩ | ⟨id', off', p, a, cap, e1, hp, rfl, ha⟩
          · cases e1
          · cases e1
            have hpos : 0 < n := Nat.pos_of_ne_zero hn0
            have ha := ha hpos
            subst ha
            obtain ⟨zv, hz1, hz2⟩ := run_zero (P := P) (σ := σ) (ρ := ρ) hz w
            have hzc := concs_cells hz2 hs
            have hzl := concs_length hzc
            have hrc := reps_conc hzc n
            have hrl := reps_length (cellsOf z) n
            · have hzp : 0 < zv.cells.toList.length := by omega
              have hzz := zeroCells_eq hzp n
              rw [Array.toArray_toList] at hzz
              have fin : ∀ t2 : T AV, (∀ i, off ≤ i → i < off + (reps (cellsOf z) n).length → (reps (cellsOf z) n)[i - off]? = some (t2.get i)) → (∀ i, i < m → ¬ (off ≤ i ∧ i < off + (reps (cellsOf z) n).length) → t2.get i = t'.get i) →
                  H' = H.put id (.cells t2 m ty') → Leaves σ ρ P H H' w (Builtin.clear_ ts ty #[.slice (some ⟨p.b, p.o + off, none⟩) n cap]) undefA := by
                intro t2 hin hout hH
                subst hH
                obtain ⟨s1, s2, s3⟩ := stores_tree (P := P) hs hr hp hg (by rw [hrl, c1]; exact c3) (all_reps c2 n) hrc hin hout
                refine ⟨ρ, .tuple #[], _, ?_, s2, s3, hu0⟩
                have hne : ∀ k, n = k → k ≠ 0 := fun k hk h0 => hn0 (hk.trans h0)
                unfold Builtin.clear_
                simp only [ht, show (#[Value.slice (some ⟨p.b, p.o + off, none⟩) n cap] : Array Value)[0]? = some (Value.slice (some ⟨p.b, p.o + off, none⟩) n cap) from rfl]
                rw [bind_ok (run_und hu w)]
                obtain ⟨n', rfl⟩ : ∃ n', n = n' + 1 := ⟨n - 1, by omega⟩
                show (zeroValue e >>= _).run P w = _
                rw [bind_ok hz1]
                show (storeCells _ (Builtin.zeroCells zv.cells (n' + 1)).toList >>= _).run P w = _
                rw [hzz, bind_ok s1]
                rfl
              cases h
              obtain ⟨i1, i2⟩ := clearT_get (t := t') (off := off) (m := m) (n := n) (size := size) c1 c4 c3
              exact fin _ i1 i2 rfl
        · cases h
      · cases h
    · cases h
  · rename_i kt et hu
    cases h
    simp only [conc, Option.some.injEq] at hx
    subst hx
    exact Leaves.still hr (by simp [Builtin.clear_, ht, run_und hu]) hu0
  · rename_i kt et id hu
    split at h
    · rename_i es clock hg
      cases h
      obtain ⟨p, hp, rfl⟩ := conc_map hx
      obtain ⟨l, o1, o2⟩ := map_obj hr hp hg
      obtain ⟨s1, s2⟩ := turn_obj (k := .map [] clock) (o' := .map #[] clock) hr hp hg o1 ⟨[], rfl, trivial⟩ (fun _ _ _ h => by cases h)
      exact ⟨ρ, .tuple #[], _, by simp [Builtin.clear_, ht, run_und hu, getObj_map o1, setObj_map _ o1], s1, s2, hu0⟩
    · cases h
  · cases h

theorem idxA_key {t : TypeId} {k : AV} : ∀ {es : List (AV × AV × Nat)} {i j : Nat}, idxA P t k es i = some (some j) → i ≤ j ∧ ∃ e, es[j - i]? = some e ∧ keyEq P t k e.1 = some true
  | [], i, j, h => by cases h
  | e :: es, i, j, h => by
    unfold idxA at h
    split at h
    · rename_i hq
      cases h
      exact ⟨Nat.le_refl _, e, by simp, hq⟩
    · obtain ⟨h1, e', h2, h3⟩ := idxA_key h
      refine ⟨by omega, e', ?_, h3⟩
      rw [show j - i = (j - (i + 1)) + 1 by omega]; simpa using h2
    · cases h

theorem mapSet_run (hr : HR σ ρ H w.heap) {t : TypeId} {m k v : AV} {m' k' v' : Value} (h : mapSet P t m k v H = some H') (hm : conc σ ρ m = some m') (hk : conc σ ρ k = some k') (hv : conc σ ρ v = some v') :
    ∃ w', (Instr.mapUpdate t m' k' v').run P w = .ok () w' ∧ HR σ ρ H' w'.heap ∧ Step ρ H w ρ H' w' := by
  unfold mapSet at h
  split at h
  · rename_i kt et id hu
    obtain ⟨p, hp, rfl⟩ := conc_map hm
    split at h
    · rename_i es clock hg hko
      obtain ⟨l, o1, o2⟩ := map_obj hr hp hg
      split at h
      · rename_i i hi
        obtain ⟨q1, q2⟩ := findKey_run (P := P) (w := w) hk hko o2 hi
        split at h
        · rename_i e he
          cases h
          obtain ⟨me, m1, m2, m3, m4⟩ := ents_get o2 he
          have hkeq : keyEq P kt k e.1 = some true := by
            obtain ⟨_, e', h2, h3⟩ := idxA_key hi
            rw [Nat.sub_zero, he] at h2; cases h2; exact h3
          have hbits := keyEq_bits 9999 hkeq hk m2
          have hstay : (Instr.keyThatStays me.key k').run P w = .ok k' w := by simp [Instr.keyThatStays, hbits]
          have hb : BR σ ρ p (some (.map (l.toArray.modify i fun e => { e with key := k', val := v' }) clock)) (.map (es.set i (k, v, e.2.2)) clock) := by
            have hil : i < l.length := q2 i rfl
            have hilE : i < es.length := by rw [← ents_length o2]; exact hil
            refine ⟨l.modify i fun e => { e with key := k', val := v' }, by simp, ents_of (by simp [ents_length o2]) (fun j e' he' => ?_)⟩
            rw [List.getElem?_set] at he'
            rw [List.getElem?_modify]
            split at he'
            · rename_i hij
              subst hij
              cases he'
              exact ⟨{ me with key := k', val := v' }, by simp [m1], hk, hv, m4⟩
            · rename_i hij
              obtain ⟨m2', r1, r2, r3, r4⟩ := ents_get o2 he'
              exact ⟨m2', by simp [r1, hij], r2, r3, r4⟩
          obtain ⟨s1, s2⟩ := turn_obj hr hp hg o1 hb (fun _ _ _ h => by cases h)
          refine ⟨_, ?_, s1, s2⟩
          simp only [Instr.mapUpdate, Sem.run_bind, run_und hu, Result.andThen_ok, getObj_map o1, check_any _ hko hk, q1, Option.map_some, List.getElem?_toArray, m1, Option.getD_some, hstay, setObj_map _ o1]
        · cases h
      · rename_i hi
        obtain ⟨q1, q2⟩ := findKey_run (P := P) (w := w) hk hko o2 hi
        cases h
        have hb : BR σ ρ p (some (.map (l.toArray.push { key := k', val := v', born := clock }) (clock + 1))) (.map (es ++ [(k, v, clock)]) (clock + 1)) := by
          refine ⟨l ++ [{ key := k', val := v', born := clock }], by simp, ents_of (by simp [ents_length o2]) (fun i e he => ?_)⟩
          by_cases hil : i < es.length
          · rw [List.getElem?_append_left hil] at he
            rw [List.getElem?_append_left (by rw [ents_length o2]; exact hil)]
            exact ents_get o2 he
          · rw [List.getElem?_append_right (by omega)] at he
            rw [List.getElem?_append_right (by rw [ents_length o2]; omega), ents_length o2]
            cases hx : i - es.length with
            | zero =>
              rw [hx] at he
              simp only [List.getElem?_cons_zero, Option.some.injEq] at he
              subst he
              exact ⟨_, rfl, hk, hv, rfl⟩
            | succ j => rw [hx] at he; simp at he
        obtain ⟨s1, s2⟩ := turn_obj hr hp hg o1 hb (fun _ _ _ h => by cases h)
        refine ⟨_, ?_, s1, s2⟩
        simp only [Instr.mapUpdate, Sem.run_bind, run_und hu, Result.andThen_ok, getObj_map o1, check_any _ hko hk, q1, Option.map_none, setObj_map _ o1]
      · cases h
    · cases h
  · cases h

theorem mapDel_run (hr : HR σ ρ H w.heap) {t ty : TypeId} {ts : Array TypeId} {m k : AV} {m' k' : Value} (ht : ts[0]? = some t) (h : mapDel P t m k H = some H') (hm : conc σ ρ m = some m') (hk : conc σ ρ k = some k') :
    Leaves σ ρ P H H' w (Builtin.delete_ ts ty #[m', k']) undefA := by
  have hu0 : conc σ ρ undefA = some (.tuple #[]) := rfl
  unfold mapDel at h
  split at h
  · rename_i kt et hu
    split at h
    · rename_i hko
      cases h
      simp only [conc, Option.some.injEq] at hm
      subst hm
      exact Leaves.still hr (by simp [Builtin.delete_, ht, run_und hu, check_any _ hko hk]) hu0
    · cases h
  · rename_i kt et id hu
    obtain ⟨p, hp, rfl⟩ := conc_map hm
    split at h
    · rename_i es clock hg hko
      obtain ⟨l, o1, o2⟩ := map_obj hr hp hg
      split at h
      · rename_i i hi
        obtain ⟨q1, q2⟩ := findKey_run (P := P) (w := w) hk hko o2 hi
        cases h
        have hb : BR σ ρ p (some (.map (l.toArray.eraseIdxIfInBounds i) clock)) (.map (es.eraseIdx i) clock) := by
          have hil := q2 i rfl
          refine ⟨l.eraseIdx i, by simp [Array.eraseIdxIfInBounds, hil], ents_of ?_ (fun j e he => ?_)⟩
          · rw [List.length_eraseIdx, List.length_eraseIdx, ents_length o2]
          · rw [List.getElem?_eraseIdx] at he ⊢
            split at he
            · rename_i hji; rw [if_pos hji]; exact ents_get o2 he
            · rename_i hji; rw [if_neg hji]; exact ents_get o2 he
        obtain ⟨s1, s2⟩ := turn_obj hr hp hg o1 hb (fun _ _ _ h => by cases h)
        exact ⟨ρ, .tuple #[], _, by simp [Builtin.delete_, ht, run_und hu, check_any _ hko hk, getObj_map o1, q1, setObj_map _ o1], s1, s2, hu0⟩
      · rename_i hi
        obtain ⟨q1, q2⟩ := findKey_run (P := P) (w := w) hk hko o2 hi
        cases h
        obtain ⟨s1, s2⟩ := turn_obj hr hp hg o1 (k := .map es clock) (o' := .map l.toArray clock) ⟨l, rfl, o2⟩ (fun _ _ _ h => by cases h)
        exact ⟨ρ, .tuple #[], _, by simp [Builtin.delete_, ht, run_und hu, check_any _ hko hk, getObj_map o1, q1, setObj_map _ o1], s1, s2, hu0⟩
      · cases h
    · cases h
  · cases h

/-- A row is marked. -/
theorem mark_row (hr : HR σ ρ H w.heap) (hn : H.next < 65536) {id : Nat} {p : Pl} {t : T AV} {m : Nat} {ty : TypeId} (hp : ρ id = some p) (hg : H.get id = some (.cells t m ty)) :
    ∃ w', (∀ o, (markStringish ⟨p.b, o, none⟩).run P w = .ok () w') ∧ HR σ (ρ.with H.next p) ((H.drop id).add (.cells t m ty)) w'.heap ∧ Step ρ H w (ρ.with H.next p) ((H.drop id).add (.cells t m ty)) w' := by
  obtain ⟨q, hq, c, fz, h1, h2, h3, h4, h5⟩ := hr.live id _ (hr.lt hp) hg
  rw [hp] at hq; cases hq
  have hlt := hr.bound _ _ hp
  have hle := Place.with_le (p := p) (hr.fresh _ (Nat.le_refl _))
  have hsz : (w.freeze ⟨p.b, c.size, none⟩ 1).heap.size = w.heap.size := by simp [World.freeze]
  have hot : ∀ d, d ≠ p.b → (w.freeze ⟨p.b, c.size, none⟩ 1).heap[d]? = w.heap[d]? := fun d hd => by
    simp only [World.freeze, Nat.one_ne_zero, if_false, Array.getElem?_modify, if_neg (fun e : p.b = d => hd e.symm)]
  obtain ⟨lo, hi⟩ := fz
  have hat : ∃ fz' : Nat × Nat, (w.freeze ⟨p.b, c.size, none⟩ 1).heap[p.b]? = some (.cells c ty fz') ∧ (fz' = (0, 0) ∨ c.size ≤ fz'.1) := by
    refine ⟨if (lo == hi) = true then (c.size, c.size + 1) else (min lo c.size, max hi (c.size + 1)), ?_, .inr ?_⟩
    · simp only [World.freeze, Nat.one_ne_zero, if_false, Array.getElem?_modify, if_true, h1, Option.map_some]
    · rcases h2 with h2 | h2
      · cases h2; simp
      · have h2 : c.size ≤ lo := h2
        split
        · exact Nat.le_refl _
        · show c.size ≤ min lo c.size; omega
  obtain ⟨fz', ha, hf⟩ := hat
  refine ⟨w.freeze ⟨p.b, c.size, none⟩ 1, fun o => ?_, hr.rename hn hp hg rfl hsz hot ?_, Step.rename hr hn hp hg rfl hsz hot ⟨rfl, rfl, rfl⟩⟩
  · simp [markStringish, run_shape, World.shape?, h1]
  · rw [ha]
    exact BR.mono (k := .cells t m ty) hle ⟨c, fz', rfl, hf, h3, h4, h5⟩
theorem markA_run (hr : HR σ ρ H w.heap) {src dst : TypeId} {x v : AV} {x' : Value} (h : markA P src dst x H = some (v, H')) (hx : conc σ ρ x = some x') : Leaves σ ρ P H H' w (Go.convert src dst x') v := by
  unfold markA at h
  split at h
  · rename_i e0 e hs hd
    split at h
    · rename_i he hc
      rw [Bool.and_eq_true] at hc
      have hsd := Nat.eq_of_beq_eq_true hc.1
      have hn : H.next < 65536 := by simpa using hc.2
      subst hsd
      rw [hs] at hd; cases hd
      have run : ∀ (a : Addr) (l cp : Nat) (w' : World), (markStringish a).run P w = .ok () w' → (Go.convert src src (.slice (some a) l cp)).run P w = .ok (.slice (some a) l cp) w' := fun a l cp w' hm => by
        simp [Go.convert, run_und hs, run_und he, hm]
      split at h
      · rename_i id off len cap
        split at h
        · rename_i t m ty hg
          cases h
          obtain ⟨p, hp, rfl⟩ := conc_slice hx
          obtain ⟨w', h1, h2, h3⟩ := mark_row (P := P) hr hn hp hg
          exact ⟨_, _, w', run _ _ _ _ (h1 _), h2, h3, by simp [conc, Place.with_self]⟩
        · cases h
      · rename_i id off0 off len k
        split at h
        · rename_i t m ty hg
          cases h
          obtain ⟨p, hp, c1, c2, c3, rfl⟩ := conc_osl hx
          obtain ⟨w', h1, h2, h3⟩ := mark_row (P := P) hr hn hp hg
          exact ⟨_, _, w', run _ _ _ _ (h1 _), h2, h3, by simp [conc, Place.with_self, c1, c2, c3]⟩
        · cases h
      · cases h
    · cases h
  · cases h

/-- A byte of a text that is gone through. -/
theorem decode_low {s : List UInt8} {i : Nat} {b : UInt8} (hb : s[i]? = some b) (h : b.toNat < 128) : Utf8.decode ⟨s.toArray⟩ i = (b.toNat, 1) := by
  have hi := (List.getElem?_eq_some_iff.1 hb).1
  have e : (⟨s.toArray⟩ : ByteArray).get! (i + 0) = b := by
    show s.toArray[i]! = b
    simp [hb]
  unfold Utf8.decode
  simp only [e]
  rw [if_pos h]
theorem getObj_iter {b : Nat} {s : ByteArray} {i : Nat} (h : w.heap[b]? = some (.stringIter s i)) : (getObj b).run P w = .ok (.stringIter s i) w := by simp [getObj, Sem.run, h]
theorem setObj_iter {b : Nat} {s : ByteArray} {i : Nat} (o : Obj) (h : w.heap[b]? = some (.stringIter s i)) : (setObj b o).run P w = .ok () { w with heap := w.heap.setIfInBounds b o } := by simp [setObj, Sem.run, h]
theorem nextA_run (hr : HR σ ρ H w.heap) {id : Nat} {x' : Value} {v : AV} (ty : TypeId) (h : nextA id H = some (v, H')) (hx : conc σ ρ (.ptr id 0) = some x') : Leaves σ ρ P H H' w (Instr.next x' true ty) v := by
  unfold nextA at h
  split at h
  · rename_i s i hg
    obtain ⟨p, hp, rfl⟩ := conc_ptr hx
    obtain ⟨q, hq, h0, ho⟩ := hr.live id _ (hr.lt hp) hg
    rw [hp] at hq; cases hq
    have e0 : p.o + 0 = 0 := by omega
    rw [e0]
    split at h
    · rename_i b hb
      split at h
      · rename_i hlt
        cases h
        have hlt : b.toNat < 128 := by simpa using hlt
        have hi : i < s.length := (List.getElem?_eq_some_iff.1 hb).1
        have hi' : i < (⟨s.toArray⟩ : ByteArray).size := by simpa [ByteArray.size] using hi
        obtain ⟨s1, s2⟩ := turn_obj hr hp hg ho (o' := .stringIter ⟨s.toArray⟩ (i + 1)) (k := .iter s (i + 1)) ⟨h0, rfl⟩ (fun _ _ _ h => by cases h)
        refine ⟨ρ, .tuple #[.bool true, goInt i, .int .i32 (b.toNat : Int)], _, ?_, s1, s2, by simp [conc, concs, goInt]⟩
        simp only [Instr.next, Sem.run_bind, getObj_iter ho, Result.andThen_ok, if_pos hi', decode_low hb hlt, setObj_iter _ ho, Sem.run_pure]
      · cases h
    · rename_i hb
      cases h
      have hi' : ¬ i < (⟨s.toArray⟩ : ByteArray).size := by
        have := List.getElem?_eq_none_iff.1 hb
        simp only [ByteArray.size, List.size_toArray]; omega
      refine Leaves.still hr (v' := .tuple #[.bool false]) ?_ (by simp [conc, concs])
      simp only [Instr.next, Sem.run_bind, getObj_iter ho, Result.andThen_ok, if_neg hi', Sem.run_pure]
  · cases h
end
end Ev
end Go.Proofs.YtpppaheennkkpaaGreatDoor

/- Operations that turn memory; calls; rows of operations. -/
namespace Go.Proofs.YtpppaheennkkpaaGreatDoor
namespace Ev

section
variable {σ : Nat → Value} {ρ : Place} {P : Program} {G : Nat → Option Nat} {H H' : Heap} {w : World}

def GOK (G : Nat → Option Nat) (ρ : Place) : Prop := ∀ g id, G g = some id → ∃ n, ρ id = some ⟨g, 0, n⟩
theorem GOK.mono {ρ' : Place} (h : GOK G ρ) (e : ρ.le ρ') : GOK G ρ' := fun g id hg => let ⟨n, hn⟩ := h g id hg; ⟨n, e _ _ hn⟩

/-- May the function be entered? -/
def Enters (P : Program) (g : FuncId) : Prop := ∃ fn, P.funcs[g]? = some fn ∧ fn.body.isNone = false ∧ (fn.name == "runtime.NumGoroutine") = false
/-- The call comes to what the run says. -/
def CallOK (σ : Nat → Value) (P : Program) (G : Nat → Option Nat) (g : FuncId) (args : List AV) (H : Heap) (r : AV) (H' : Heap) : Prop :=
  (Enters P g ∧ ∀ (ρ : Place) (w : World) (argv : List Value), HR σ ρ H w.heap → GOK G ρ → concs σ ρ args = some argv →
    Calls P g argv.toArray w fun e w' => ∃ ρ' v', e = .returned v' ∧ conc σ ρ' r = some v' ∧ HR σ ρ' H' w'.heap ∧ Step ρ H w ρ' H' w') ∨
  (∀ (ρ : Place) (w : World) (argv : List Value), HR σ ρ H w.heap → GOK G ρ → concs σ ρ args = some argv →
    ∃ ρ' v' w', (callFunc g argv.toArray).run P w = .ok (.value v') w' ∧ conc σ ρ' r = some v' ∧ HR σ ρ' H' w'.heap ∧ Step ρ H w ρ' H' w')
def CallsOK (σ : Nat → Value) (P : Program) (G : Nat → Option Nat) (call : FuncId → List AV → Heap → Option (AV × Heap)) : Prop :=
  ∀ g args H r H', call g args H = some (r, H') → CallOK σ P G g args H r H'

theorem callFunc_run {g : FuncId} (h : Enters P g) (args : Array Value) (w : World) : (callFunc g args).run P w = .ok (.enter g args) w := by
  obtain ⟨fn, h1, h2, h3⟩ := h
  have h2' : ¬ fn.body.isNone = true := by rw [h2]; simp
  have h3' : ¬ (fn.name == "runtime.NumGoroutine") = true := by rw [h3]; simp
  unfold callFunc
  rw [bind_ok (run_program P w)]
  simp only [h1]
  rw [if_neg h3', if_neg h2']
  rfl

theorem methodA_run {t : TypeId} {v : AV} {name : String} {g : FuncId} {recv : AV} {v' : Value} (h : methodA P t v name = some (g, recv)) (hv : conc σ ρ v = some v') (n : Nat) (w : World) :
    ∃ r', (method (n + 1) t v' name).run P w = .ok (g, r') w ∧ conc σ ρ recv = some r' := by
  unfold methodA at h
  split at h
  · rename_i i hi
    split at h
    · rename_i m hm
      split at h
      · rename_i g' e hp hf hu
        cases h
        refine ⟨v', ?_, hv⟩
        have hp' : m.path.toList = [] := hp
        simp [method, run_info hi, hm, hp', follow, hf, receiverAt, run_und hu, Place.get]
      · cases h
      · rename_i g' D hne hp hf hu
        cases h
        refine ⟨v', ?_, hv⟩
        have hp' : m.path.toList = [] := hp
        cases D <;> first | (exact (hne _ rfl).elim) | simp [method, run_info hi, hm, hp', follow, hf, receiverAt, run_und hu, Place.get]
      · cases h
    · cases h
  · cases h

theorem wp_of_leaves {o : Oper} {a : Act} {s : Sem Value} {v : AV} {next : Act → World → Prop} {Q : Exit → Act → World → Prop} (he : execOp a.eval o = (do pure (.value (← s)))) (h : Leaves σ ρ P H H' w s v)
    (hk : ∀ ρ' v' w', HR σ ρ' H' w'.heap → Step ρ H w ρ' H' w' → conc σ ρ' v = some v' → next (a.put o.dst v') w') : o.wp P a w next Q := by
  obtain ⟨ρ', v', w', h1, h2, h3, h4⟩ := h
  unfold Oper.wp
  rw [he, bind_ok h1]
  exact hk ρ' v' w' h2 h3 h4

theorem wp_of_call {o : Oper} {a : Act} {next : Act → World → Prop} {Q : Exit → Act → World → Prop} {g : FuncId} {args : List AV} {argv : List Value} {r : AV} (he : (execOp a.eval o).run P w = (callFunc g argv.toArray).run P w)
    (h : CallOK σ P G g args H r H') (hr : HR σ ρ H w.heap) (hG : GOK G ρ) (ha : concs σ ρ args = some argv)
    (hk : ∀ ρ' v' w', HR σ ρ' H' w'.heap → Step ρ H w ρ' H' w' → conc σ ρ' r = some v' → next (a.put o.dst v') w') : o.wp P a w next Q := by
  unfold Oper.wp
  rw [he]
  rcases h with ⟨hent, h⟩ | h
  · rw [callFunc_run hent]
    refine (h ρ w argv hr hG ha).mono ?_
    rintro e w' ⟨ρ', v', rfl, h1, h2, h3⟩
    exact hk ρ' v' w' h2 h3 h1
  · obtain ⟨ρ', v', w', h0, h1, h2, h3⟩ := h ρ w argv hr hG ha
    rw [h0]
    exact hk ρ' v' w' h2 h3 h1

theorem aop_wp (hs : ∀ i, (σ i).oneCell' = true) {call : FuncId → List AV → Heap → Option (AV × Heap)} (hcall : CallsOK σ P G call) (hr : HR σ ρ H w.heap) {f : Fr} {a : Act} {o : Oper} {v : AV} (hf : EV σ ρ f a o.op.operands.toList) (hgok : GOK G ρ)
    (h : aop P call f o H = some (v, H')) {next : Act → World → Prop} {Q : Exit → Act → World → Prop}
    (hk : ∀ ρ' v' w', HR σ ρ' H' w'.heap → Step ρ H w ρ' H' w' → conc σ ρ' v = some v' → next (a.put o.dst v') w') : o.wp P a w next Q := by
  unfold aop at h
  split at h
  · -- store
    rename_i t x y ho
    split at h
    · rename_i id off u hx hy
      split at h
      · rename_i s hsz
        split at h
        · rename_i H1 hl hst
          cases h
          have hl := Nat.eq_of_beq_eq_true hl
          obtain ⟨p, hp, he⟩ := conc_ptr (hf.one (by simp [ho, Op.operands]) hx)
          have hy := hf.one (by simp [ho, Op.operands]) hy
          have hc := concs_cells hy hs
          obtain ⟨s1, s2, s3⟩ := stores_run (P := P) hs hr hp hst hc
          have hrun : (execOp a.eval o).run P w = .ok .skip (w.setCells p.b (p.o + off) (a.eval y).cells.toList) := by
            have hsize : ¬ (a.eval y).cells.size ≠ s := by
              have := cells_size hy hs; simp; omega
            simp only [execOp, ho, Instr.storeAt, he, Instr.sureAddr, Sem.run_bind, Sem.run_pure, Result.andThen_ok, storeVar, run_size hsz, if_neg hsize, s1]
          unfold Oper.wp
          rw [hrun]
          exact hk ρ undef _ s2 s3 rfl
        · cases h
      · cases h
    · cases h
  · -- mapUpdate
    rename_i t m k x ho
    split at h
    · rename_i m' k' x' hm hkk hx
      split at h
      · rename_i H1 hst
        cases h
        obtain ⟨w', s1, s2, s3⟩ := mapSet_run (P := P) hr hst (hf.one (by simp [ho, Op.operands]) hm) (hf.one (by simp [ho, Op.operands]) hkk) (hf.one (by simp [ho, Op.operands]) hx)
        have hrun : (execOp a.eval o).run P w = .ok .skip w' := by simp [execOp, ho, s1]
        unfold Oper.wp
        rw [hrun]
        exact hk ρ undef _ s2 s3 rfl
      · cases h
    · cases h
  · -- append
    rename_i args argTypes ho
    split at h
    · rename_i s x t u hargs hts
      split at h
      · rename_i s' x' hs' hx'
        have ha : args = #[s, x] := by rw [← Array.toArray_toList (xs := args), hargs]
        have ht : argTypes = #[t, u] := by rw [← Array.toArray_toList (xs := argTypes), hts]
        refine wp_of_leaves (s := Builtin.append_ #[t, u] o.type #[a.eval s, a.eval x]) ?_ (appendA_run hs hr h (hf.one (by simp [ho, Op.operands, Call.operands, hargs]) hs') (hf.one (by simp [ho, Op.operands, Call.operands, hargs]) hx')) hk
        simp [execOp, ho, resolve, ha, ht, invoke, builtin]
      · cases h
    · cases h
  · -- copy
    rename_i args argTypes ho
    split at h
    · rename_i d x t ts hargs hts
      split at h
      · rename_i d' x' hd' hx'
        have ha : args = #[d, x] := by rw [← Array.toArray_toList (xs := args), hargs]
        have ht : argTypes[0]? = some t := by
          have : argTypes = (t :: ts).toArray := by rw [← hts]
          rw [this]; rfl
        refine wp_of_leaves (s := Builtin.copy_ argTypes o.type #[a.eval d, a.eval x]) ?_ (copyA_run hs hr ht h (hf.one (by simp [ho, Op.operands, Call.operands, hargs]) hd') (hf.one (by simp [ho, Op.operands, Call.operands, hargs]) hx')) hk
        simp [execOp, ho, resolve, ha, invoke, builtin]
      · cases h
    · cases h
  · -- clear
    rename_i args argTypes ho
    split at h
    · rename_i x t ts hargs hts
      split at h
      · rename_i x' hx'
        split at h
        · rename_i H1 hst
          cases h
          have ha : args = #[x] := by rw [← Array.toArray_toList (xs := args), hargs]
          have ht : argTypes[0]? = some t := by
            have : argTypes = (t :: ts).toArray := by rw [← hts]
            rw [this]; rfl
          refine wp_of_leaves (s := Builtin.clear_ argTypes o.type #[a.eval x]) ?_ (clearA_run hs hr ht hst (hf.one (by simp [ho, Op.operands, Call.operands, hargs]) hx')) hk
          simp [execOp, ho, resolve, ha, invoke, builtin]
        · cases h
      · cases h
    · cases h
  · -- delete
    rename_i args argTypes ho
    split at h
    · rename_i m k t ts hargs hts
      split at h
      · rename_i m' k' hm' hk'
        split at h
        · rename_i H1 hst
          cases h
          have ha : args = #[m, k] := by rw [← Array.toArray_toList (xs := args), hargs]
          have ht : argTypes[0]? = some t := by
            have : argTypes = (t :: ts).toArray := by rw [← hts]
            rw [this]; rfl
          refine wp_of_leaves (s := Builtin.delete_ argTypes o.type #[a.eval m, a.eval k]) ?_ (mapDel_run hr ht hst (hf.one (by simp [ho, Op.operands, Call.operands, hargs]) hm') (hf.one (by simp [ho, Op.operands, Call.operands, hargs]) hk')) hk
          simp [execOp, ho, resolve, ha, invoke, builtin]
        · cases h
      · cases h
    · cases h
  · -- a call of a value
    rename_i x args argTypes ho
    split at h
    · rename_i g first captured l hx hl
      obtain ⟨p, q, hp, hq, he⟩ := conc_fn (hf.one (by simp [ho, Op.operands, Call.operands]) hx)
      have hal := evs_conc hf (fun y hy => by simp only [ho, Op.operands, Call.operands]; simpa using .inr (Array.mem_toList_iff.1 hy)) hl
      have hc := hcall _ _ _ _ _ h
      refine wp_of_call (argv := p ++ (args.toList.map a.eval ++ q)) ?_ hc hr hgok (concs_append hp (concs_append hal hq)) hk
      have h1 : (execOp a.eval o) = (do let d ← resolve a.eval { callee := .value x, args, argTypes } o.type; invoke d.target d.args) := by simp [execOp, ho]
      rw [h1]
      have h2 : (resolve a.eval { callee := .value x, args, argTypes } o.type).run P w = .ok { target := .fn (.func g) q.toArray, args := p.toArray ++ args.map a.eval } w := by
        simp [resolve, he, Deferred.ofValue]
      rw [bind_ok h2]
      show (callFunc g _).run P w = _
      congr 2
      apply Array.ext'
      simp
    · cases h
  · -- a call of a method
    rename_i r name args argTypes ho
    split at h
    · rename_i t u l hx hl
      split at h
      · rename_i g recv hm
        obtain ⟨y, hy, he⟩ := conc_iface (hf.one (by simp [ho, Op.operands, Call.operands]) hx)
        have hal := evs_conc hf (fun y hy => by simp only [ho, Op.operands, Call.operands]; simpa using .inr (Array.mem_toList_iff.1 hy)) hl
        have hc := hcall _ _ _ _ _ h
        have hd : ∃ n, P.types.size + Made.depth = n + 1 := ⟨P.types.size + Made.depth - 1, by unfold Made.depth; omega⟩
        obtain ⟨n, hn⟩ := hd
        obtain ⟨r', m1, m2⟩ := methodA_run hm hy n w
        refine wp_of_call (args := recv :: l) (argv := r' :: args.toList.map a.eval) ?_ hc hr hgok (by simp [concs, m2, hal]) hk
        have h1 : (execOp a.eval o) = (do let d ← resolve a.eval { callee := .invoke r name, args, argTypes } o.type; invoke d.target d.args) := by simp [execOp, ho]
        rw [h1]
        have h2 : (resolve a.eval { callee := .invoke r name, args, argTypes } o.type).run P w = .ok { target := .fn (.method name) #[], args := #[a.eval r] ++ args.map a.eval } w := by
          simp [resolve]
        rw [bind_ok h2]
        have h3 : invoke (.fn (.method name) #[]) (#[a.eval r] ++ args.map a.eval) = callMethod (.iface t y) name (args.map a.eval) := by
          have e0 : (#[a.eval r] ++ args.map a.eval)[0]? = some (a.eval r) := by
            rw [Array.getElem?_append_left (by simp)]; rfl
          have e1 : (#[a.eval r] ++ args.map a.eval).extract 1 (#[a.eval r] ++ args.map a.eval).size = args.map a.eval := by
            apply Array.ext'
            simp
            exact List.take_of_length_le (by simp)
          unfold invoke
          simp only [e0, e1]
          rw [he]
        show (invoke (.fn (.method name) #[]) (#[a.eval r] ++ args.map a.eval)).run P w = _
        rw [h3]
        unfold callMethod
        dsimp only
        rw [bind_ok (run_program P w), hn, bind_ok m1]
        dsimp only
        congr 2
        apply Array.ext'
        simp
      · cases h
    · cases h
  · -- a row marked
    rename_i src dst x ho
    split at h
    · rename_i u hu
      exact wp_of_leaves (s := Go.convert src dst (a.eval x)) (by simp [execOp, ho]) (markA_run hr h (hf.one (by simp [ho, Op.operands]) hu)) hk
    · cases h
  · -- the next byte of a text
    rename_i x isS ho
    split at h
    · rename_i id hu
      exact wp_of_leaves (s := Instr.next (a.eval x) true o.type) (by simp [execOp, ho]) (nextA_run hr o.type h (hf.one (by simp [ho, Op.operands]) hu)) hk
    · cases h
  · cases h

theorem wantA_ok {f : Fr} {a : Act} {ops : Array Oper} {o : Oper} {b : Bool} (hf : FR σ ρ f a.tmps) (h : wantA f ops o = some b) : Region.wanted o (yielded ops a.tmps) = b := by
  unfold wantA at h
  unfold Region.wanted
  split at h
  · rename_i hg
    cases h
    simp [hg]
  · rename_i j want hg
    simp only [hg]
    split at h
    · rename_i g hj
      split at h
      · rename_i d hd
        have hy : ∀ x, a.tmps[d]? = some x → yielded ops a.tmps j = match x with
            | .bool b => some b
            | _ => none := fun x hx => by
          unfold yielded
          simp only [hj, hd, hx, Option.bind_some]
          cases x <;> rfl
        have hget : ∀ v, f.get d = some v → ∃ x, a.tmps[d]? = some x ∧ conc σ ρ v = some x := fun v hv => by
          unfold Fr.get at hv
          split at hv
          · rename_i hlt
            cases hv
            exact hf.2.2.1 d (bl hlt)
          · cases hv
        split at h
        · rename_i b' hb'
          cases h
          obtain ⟨x, h1, h2⟩ := hget _ hb'
          simp only [conc, Option.some.injEq] at h2
          subst h2
          rw [hy _ h1]
          simp
        · rename_i l hl
          cases h
          obtain ⟨x, h1, h2⟩ := hget _ hl
          obtain ⟨y, _, rfl⟩ := conc_tup h2
          rw [hy _ h1]
          simp
        · cases h
      · cases h
    · cases h

/-- An operation that turns nothing, as the walk meets it. -/
theorem wp_val {a : Act} {o : Oper} {v : AV} (h : FOK σ ρ P a o w (.val v)) {next : Act → World → Prop} {Q : Exit → Act → World → Prop} (hk : ∀ v', conc σ ρ v = some v' → next (a.put o.dst v') w) : o.wp P a w next Q := by
  obtain ⟨v', h1, h2⟩ := h
  unfold Oper.wp
  rw [h1]
  exact hk v' h2
theorem wp_new {a : Act} {o : Oper} {k : ABlk} {n : Nat} {g : Nat → AV} (hr : HR σ ρ H w.heap) (hn : H.next < 65536) (h : FOK σ ρ P a o w (.new k n g)) {next : Act → World → Prop} {Q : Exit → Act → World → Prop}
    (hk : ∀ ρ' v' w', HR σ ρ' (H.add k) w'.heap → Step ρ H w ρ' (H.add k) w' → conc σ ρ' (g H.next) = some v' → next (a.put o.dst v') w') : o.wp P a w next Q := by
  obtain ⟨v', w', x, N, h1, h2, h3, h4⟩ := h
  obtain ⟨hb, hv⟩ := h4 H.next (hr.fresh _ (Nat.le_refl _))
  unfold Oper.wp
  rw [h1]
  refine hk _ v' w' ?_ (Step.new hr hn rfl rfl h2 h3) hv
  rw [h2]
  exact HR.new hr hn rfl hb

/-- Operations one behind the other. -/
theorem seqA_wp (hs : ∀ i, (σ i).oneCell' = true) {call : FuncId → List AV → Heap → Option (AV × Heap)} (hcall : CallsOK σ P G call) {ops : Array Oper} {rest : List Nat} {Q : Exit → Act → World → Prop} {f' : Fr} {H' : Heap} :
    ∀ (l : List Oper) (k : Nat) (f : Fr) (H : Heap) (ρ : Place) (a : Act) (w : World), (∀ i o, l[i]? = some o → ops[k + i]? = some o) → HR σ ρ H w.heap → FR σ ρ f a.tmps → f.g = G → seqA P call ops l f H = some (f', H') →
      (∀ ρ' a' w', HR σ ρ' H' w'.heap → Step ρ H w ρ' H' w' → FR σ ρ' f' a'.tmps → f'.g = G → a'.defers = a.defers → wpOps P ops Q rest a' w') → wpOps P ops Q (List.range' k l.length ++ rest) a w
  | [], k, f, H, ρ, a, w, hl, hr, hf, hG, h, hQ => by
    cases h
    exact hQ ρ a w hr .refl hf hG rfl
  | o :: l, k, f, H, ρ, a, w, hl, hr, hf, hG, h, hQ => by
    have ho : ops[k]? = some o := hl 0 o rfl
    have hl' : ∀ i o, l[i]? = some o → ops[k + 1 + i]? = some o := fun i o h => by
      have := hl (i + 1) o (by simpa using h)
      rw [show k + 1 + i = k + (i + 1) by omega]; exact this
    rw [List.length_cons, List.range'_succ]
    show wpOps P ops Q (k :: (List.range' (k + 1) l.length ++ rest)) a w
    rw [wpOps_cons]
    unfold wpOp
    simp only [ho]
    have putg : ∀ {f f2 : Fr} {dst : Option Nat} {v : AV}, f.put dst v = some f2 → f2.g = f.g := fun {f f2 dst v} e => by
      unfold Fr.put at e
      split at e
      · cases e; rfl
      · split at e
        · cases e; rfl
        · cases e
    have putd : ∀ (a : Act) (dst : Option Tmp) (v : Value), (a.put dst v).defers = a.defers := fun a dst v => by cases dst <;> rfl
    unfold seqA at h
    split at h
    · rename_i hw
      rw [if_pos (wantA_ok hf hw)]
      refine .inl ?_
      split at h
      · split at h
        · rename_i v hv
          rw [force_eq] at h
          split at h
          · rename_i f2 hp
            refine wp_val (fop_run hs hr (hf.ev _) hv) (fun v' hv' => ?_)
            exact seqA_wp hs hcall l (k + 1) f2 H ρ _ w hl' hr (hf.put hp hv') ((putg hp).trans hG) h (fun ρ' a' w' h1 h2 h3 h4 h5 => hQ ρ' a' w' h1 h2 h3 h4 (h5.trans (putd _ _ _)))
          · cases h
        · rename_i kk n g hv
          split at h
          · rename_i f2 hn hp
            refine wp_new hr (bl hn) (fop_run hs hr (hf.ev _) hv) (fun ρ1 v' w1 h1 h2 h3 => ?_)
            exact seqA_wp hs hcall l (k + 1) f2 (H.add kk) ρ1 _ w1 hl' h1 ((hf.mono h2.ext).put hp h3) ((putg hp).trans hG) h (fun ρ' a' w' g1 g2 g3 g4 g5 => hQ ρ' a' w' g1 (h2.trans g2) g3 g4 (g5.trans (putd _ _ _)))
          · cases h
        · cases h
      · split at h
        · rename_i v H1 hv
          rw [force_eq] at h
          split at h
          · rename_i f2 hp
            refine aop_wp hs hcall hr (hf.ev _) (fun g id hg => hf.2.2.2 g id (hG ▸ hg)) hv (fun ρ1 v' w1 h1 h2 h3 => ?_)
            exact seqA_wp hs hcall l (k + 1) f2 H1 ρ1 _ w1 hl' h1 ((hf.mono h2.ext).put hp h3) ((putg hp).trans hG) h (fun ρ' a' w' g1 g2 g3 g4 g5 => hQ ρ' a' w' g1 (h2.trans g2) g3 g4 (g5.trans (putd _ _ _)))
          · cases h
        · cases h
    · rename_i hw
      rw [if_neg (by rw [wantA_ok hf hw]; simp)]
      split at h
      · rename_i f2 hp
        exact seqA_wp hs hcall l (k + 1) f2 H ρ _ w hl' hr (hf.put hp rfl) ((putg hp).trans hG) h (fun ρ' a' w' h1 h2 h3 h4 h5 => hQ ρ' a' w' h1 h2 h3 h4 (h5.trans (putd _ _ _)))
      · cases h
    · cases h
end
end Ev
end Go.Proofs.YtpppaheennkkpaaGreatDoor
