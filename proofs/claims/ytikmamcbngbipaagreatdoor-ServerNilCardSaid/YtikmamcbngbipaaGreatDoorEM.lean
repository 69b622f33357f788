/- What an operation that turns nothing comes to: maps, tests of kinds, lengths. -/
import Derived.Test.YtikmamcbngbipaaGreatDoorEL
namespace Go.Proofs.YtikmamcbngbipaaGreatDoor
namespace Ev

section
variable {σ : Nat → Value} {ρ : Place} {P : Program} {H : Heap} {w : World}

theorem check_any (b : Bool) {t : TypeId} {k : AV} {k' : Value} (h : keyOk P t k = true) (hk : conc σ ρ k = some k') : (Instr.checkKey b 10000 t k').run P w = .ok () w :=
  checkKey_run 9998 b h hk
theorem map_obj (hr : HR σ ρ H w.heap) {id : Nat} {p : Pl} {es : List (AV × AV × Nat)} {clock : Nat} (hp : ρ id = some p) (hg : H.get id = some (.map es clock)) :
    ∃ l, w.heap[p.b]? = some (.map l.toArray clock) ∧ Ents σ ρ es l := by
  obtain ⟨q, hq, hb⟩ := hr.live id _ (hr.lt hp) hg
  rw [hp] at hq; cases hq
  exact hb
theorem getObj_map {b : Nat} {es : Array MapEntry} {clock : Nat} (h : w.heap[b]? = some (.map es clock)) : (getObj b).run P w = .ok (.map es clock) w := by
  simp [getObj, Sem.run, h]
theorem setObj_map {b : Nat} {es : Array MapEntry} {clock : Nat} (o : Obj) (h : w.heap[b]? = some (.map es clock)) : (setObj b o).run P w = .ok () { w with heap := w.heap.setIfInBounds b o } := by
  simp [setObj, Sem.run, h]

/-- The end of a look-up. -/
theorem look_end {es : List (AV × AV × Nat)} {l : List MapEntry} {kt et : TypeId} {k z v : AV} {k' zv : Value} {ok : Bool} (he : Ents σ ρ es l) (hko : keyOk P kt k = true) (hk : conc σ ρ k = some k')
    (hz1 : (zeroValue et).run P w = .ok zv w) (hz2 : conc σ ρ z = some zv)
    (h : (match idxA P kt k es 0 with
      | some (some i) => match es[i]? with
        | some e => some (if ok then AV.tup [e.2.1, .bool true] else e.2.1)
        | none => none
      | some none => some (if ok then AV.tup [z, .bool false] else z)
      | none => none) = some v) :
    ∃ (r : Option (Nat × Value)) (u : Value) (b : Bool), (Instr.findKey kt k' l).run P w = .ok r w ∧ ((match r with
      | some (_, v) => pure (v, true)
      | none => do pure (← zeroValue et, false) : Sem (Value × Bool))).run P w = .ok (u, b) w ∧ conc σ ρ v = some (if ok then .tuple #[u, .bool b] else u) := by
  split at h
  · rename_i i hi
    obtain ⟨q1, q2⟩ := findKey_run (P := P) (w := w) hk hko he hi
    split at h
    · rename_i e hei
      cases h
      obtain ⟨m, m1, m2, m3, m4⟩ := ents_get he hei
      refine ⟨_, m.val, true, q1, by simp [m1], ?_⟩
      cases ok
      · exact m3
      · simp [conc, concs, m3]
    · cases h
  · rename_i hi
    obtain ⟨q1, q2⟩ := findKey_run (P := P) (w := w) hk hko he hi
    cases h
    refine ⟨_, zv, false, q1, by simp [hz1], ?_⟩
    cases ok
    · exact hz2
    · simp [conc, concs, hz2]
  · cases h

theorem lookA_run (hr : HR σ ρ H w.heap) {t : TypeId} {m k v : AV} {ok : Bool} {m' k' : Value} (h : lookA P t m k ok H = some v) (hm : conc σ ρ m = some m') (hk : conc σ ρ k = some k') :
    Says σ ρ P w (Instr.lookup t m' k' ok) v := by
  unfold lookA at h
  split at h
  · rename_i kt et hu
    split at h
    · rename_i z hko hz
      obtain ⟨zv, hz1, hz2⟩ := run_zero (σ := σ) (ρ := ρ) hz w
      cases m with
      | nilm =>
        simp only [conc, Option.some.injEq] at hm
        subst hm
        obtain ⟨r, u, b, e1, e2, e3⟩ := look_end (es := []) (l := []) trivial hko hk hz1 hz2 h
        refine ⟨_, ?_, e3⟩
        simp only [Instr.lookup, Sem.run_bind, run_und hu, Result.andThen_ok, Sem.run_pure, check_any _ hko hk, e1]
        cases r with
        | none => simp only [Sem.run_bind, hz1, Result.andThen_ok, Sem.run_pure] at e2 ⊢; cases e2; rfl
        | some x => simp only [Sem.run_pure] at e2 ⊢; cases e2; rfl
      | map id =>
        obtain ⟨p, hp, rfl⟩ := conc_map hm
        simp only at h
        split at h
        · rename_i es hes
          split at hes
          · rename_i es' clock hg
            cases hes
            obtain ⟨l, o1, o2⟩ := map_obj hr hp hg
            obtain ⟨r, u, b, e1, e2, e3⟩ := look_end o2 hko hk hz1 hz2 h
            refine ⟨_, ?_, e3⟩
            simp only [Instr.lookup, Sem.run_bind, run_und hu, Result.andThen_ok, getObj_map o1, Sem.run_pure, check_any _ hko hk, e1]
            cases r with
            | none => simp only [Sem.run_bind, hz1, Result.andThen_ok, Sem.run_pure] at e2 ⊢; cases e2; rfl
            | some x => simp only [Sem.run_pure] at e2 ⊢; cases e2; rfl
          · cases hes
        · cases h
      | _ => simp at h
    · cases h
  · cases h

theorem assertA_run {x r : AV} {xt asserted : TypeId} {ok : Bool} {x' : Value} (h : assertA P x asserted ok = some r) (hx : conc σ ρ x = some x') :
    Says σ ρ P w (Instr.typeAssert x' xt asserted ok) r := by
  unfold assertA at h
  split at h
  · rename_i want hu
    split at h
    · split at h
      · rename_i z hz
        cases h
        obtain ⟨zv, hz1, hz2⟩ := run_zero (σ := σ) (ρ := ρ) hz w
        simp only [conc, Option.some.injEq] at hx
        subst hx
        exact ⟨.tuple #[zv, .bool false], by simp [Instr.typeAssert, run_und hu, hz1], by simp [conc, concs, hz2]⟩
      · cases h
    · rename_i t v
      obtain ⟨y, hy, rfl⟩ := conc_iface hx
      split at h
      · rename_i i hi
        split at h
        · rename_i hm
          cases h
          refine ⟨if ok then .tuple #[.iface t y, .bool true] else .iface t y, by simp [Instr.typeAssert, run_und hu, run_info hi, hm], ?_⟩
          cases ok
          · simp [conc, hy]
          · simp [conc, concs, hy]
        · rename_i mm hm
          split at h
          · rename_i z hz
            cases h
            obtain ⟨zv, hz1, hz2⟩ := run_zero (σ := σ) (ρ := ρ) hz w
            exact ⟨.tuple #[zv, .bool false], by simp [Instr.typeAssert, run_und hu, run_info hi, hm, hz1], by simp [conc, concs, hz2]⟩
          · cases h
      · cases h
    · cases h
  · rename_i D hne hu
    split at h
    · split at h
      · rename_i z hz
        cases h
        obtain ⟨zv, hz1, hz2⟩ := run_zero (σ := σ) (ρ := ρ) hz w
        simp only [conc, Option.some.injEq] at hx
        subst hx
        refine ⟨.tuple #[zv, .bool false], ?_, by simp [conc, concs, hz2]⟩
        cases D <;> first | (exact (hne _ rfl).elim) | simp [Instr.typeAssert, run_und hu, hz1]
      · cases h
    · rename_i t v
      obtain ⟨y, hy, rfl⟩ := conc_iface hx
      split at h
      · rename_i ht
        cases h
        have ht := Nat.eq_of_beq_eq_true ht
        refine ⟨if ok then .tuple #[y, .bool true] else y, ?_, ?_⟩
        · cases D <;> first | (exact (hne _ rfl).elim) | simp [Instr.typeAssert, run_und hu, ht]
        · cases ok
          · exact hy
          · simp [conc, concs, hy]
      · rename_i ht
        have ht : ¬ t = asserted := fun e => by subst e; simp at ht
        split at h
        · rename_i z hz
          cases h
          obtain ⟨zv, hz1, hz2⟩ := run_zero (σ := σ) (ρ := ρ) hz w
          refine ⟨.tuple #[zv, .bool false], ?_, by simp [conc, concs, hz2]⟩
          cases D <;> first | (exact (hne _ rfl).elim) | simp [Instr.typeAssert, run_und hu, ht, hz1]
        · cases h
    · cases h
  · cases h

theorem lenA_run (hr : HR σ ρ H w.heap) {t _u ty : TypeId} {ts : Array TypeId} {x v : AV} {x' : Value} (h : lenA P t x H = some v) (hx : conc σ ρ x = some x') (ht : ts[0]? = some t) :
    Says σ ρ P w (Builtin.len_ ts ty #[x']) v := by
  unfold lenA at h
  split at h
  · rename_i s hu
    cases h
    simp only [conc, Option.some.injEq] at hx
    subst hx
    have hs : (⟨s.toArray⟩ : ByteArray).size = s.length := by simp [ByteArray.size]
    exact ⟨goInt s.length, by simp [Builtin.len_, ht, run_und hu, hs], rfl⟩
  · rename_i n e hu
    cases h
    exact ⟨goInt n, by simp [Builtin.len_, ht, run_und hu], rfl⟩
  · rename_i e hu
    cases h
    simp only [conc, Option.some.injEq] at hx
    subst hx
    exact ⟨goInt 0, by simp [Builtin.len_, ht, run_und hu], rfl⟩
  · rename_i e id off n cap hu
    cases h
    obtain ⟨p, hp, rfl⟩ := conc_slice hx
    exact ⟨goInt n, by simp [Builtin.len_, ht, run_und hu], rfl⟩
  · rename_i e id off0 off n k hu
    cases h
    obtain ⟨p, hp, _, _, _, rfl⟩ := conc_osl hx
    exact ⟨goInt n, by simp [Builtin.len_, ht, run_und hu], rfl⟩
  · rename_i kt e hu
    cases h
    simp only [conc, Option.some.injEq] at hx
    subst hx
    exact ⟨goInt 0, by simp [Builtin.len_, ht, run_und hu], rfl⟩
  · rename_i kt e id hu
    split at h
    · rename_i es clock hg
      cases h
      obtain ⟨p, hp, rfl⟩ := conc_map hx
      obtain ⟨l, o1, o2⟩ := map_obj hr hp hg
      exact ⟨goInt l.length, by simp [Builtin.len_, ht, run_und hu, getObj_map o1], by rw [ents_length o2]; rfl⟩
    · cases h
  · cases h

theorem minA_run {mx : Bool} : ∀ {l : List AV} {v r : AV} {v' : Value} {vs : List Value}, minA mx v l = some r → conc σ ρ v = some v' → concs σ ρ l = some vs →
    Says σ ρ P w (vs.foldlM (if mx then Builtin.max2 else Builtin.min2) v') r
  | [], v, r, v', vs, h, hv, hl => by
    cases hl
    simp only [minA, Option.some.injEq] at h
    subst h
    exact ⟨v', by simp, hv⟩
  | a :: l, v, r, v', vs, h, hv, hl => by
    simp only [concs] at hl
    split at hl
    · rename_i y ys hy hys
      cases hl
      unfold minA at h
      split at h
      · cases ‹_ :: _ = []›
      · rename_i k x k' z l' heq
        cases heq
        simp only [conc, Option.some.injEq] at hv hy
        subst hv; subst hy
        have := minA_run (v' := .int k (if (if mx then ilt x z else ilt z x) then z else x)) h rfl hys
        obtain ⟨u, h1, h2⟩ := this
        refine ⟨u, ?_, h2⟩
        rw [← h1]
        cases mx
        · simp [List.foldlM_cons, Builtin.min2, ilt_eq]
        · simp [List.foldlM_cons, Builtin.max2, ilt_eq]
      · cases h
    · cases hl
end
end Ev
end Go.Proofs.YtikmamcbngbipaaGreatDoor
