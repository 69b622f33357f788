/- A statement whose order Go leaves open: small laws. -/
import Derived.Test.YtikmamcbngbipaaGreatDoorEV
namespace Go.Proofs.YtikmamcbngbipaaGreatDoor
namespace Ev

section
variable {σ : Nat → Value} {ρ : Place} {P : Program} {G : Nat → Option Nat} {call : FuncId → List AV → Heap → Option (AV × Heap)} {ops : Array Oper} {bm : T Nat} {n0 : Nat} {rs : List Rec} {fin : Fr × Heap × Nat × Nat}

/-- The first act that was not done. -/
def stI (rs : List Rec) (S : Nat → Bool) : Nat → Nat → Nat
  | i, 0 => i
  | i, n + 1 => match isActR rs i && !S i with
    | true => i
    | false => stI rs S (i + 1) n
theorem stI_spec (S : Nat → Bool) : ∀ (n i : Nat), i ≤ stI rs S i n ∧ stI rs S i n ≤ i + n ∧ (∀ a, i ≤ a → a < stI rs S i n → isActR rs a = true → S a = true) ∧ (stI rs S i n < i + n → isActR rs (stI rs S i n) = true ∧ S (stI rs S i n) = false)
  | 0, i => ⟨Nat.le_refl _, Nat.le_refl _, fun a h1 h2 => by have h2' : a < i := h2; omega, fun h => by have h' : i < i + 0 := h; omega⟩
  | n + 1, i => by
    unfold stI
    cases hc : (isActR rs i && !S i) with
    | true =>
      simp only []
      rw [Bool.and_eq_true, Bool.not_eq_true'] at hc
      exact ⟨Nat.le_refl _, by omega, fun a h1 h2 => by omega, fun _ => hc⟩
    | false =>
      simp only []
      obtain ⟨h1, h2, h3, h4⟩ := stI_spec S n (i + 1)
      refine ⟨by omega, by omega, fun a g1 g2 g3 => ?_, fun h => h4 (by omega)⟩
      by_cases ha : a = i
      · subst ha
        rw [g3] at hc
        simpa using hc
      · exact h3 a (by omega) g2 g3
theorem stI_congr {S S' : Nat → Bool} (h : ∀ a, isActR rs a = true → S a = S' a) : ∀ (n i : Nat), stI rs S i n = stI rs S' i n
  | 0, i => rfl
  | n + 1, i => by
    unfold stI
    have : (isActR rs i && !S i) = (isActR rs i && !S' i) := by
      cases ha : isActR rs i
      · rfl
      · rw [h i ha]
    rw [this, stI_congr h n (i + 1)]

theorem viewP_congr {p q : Nat → Bool} : ∀ (l : List Rec) (C : Heap) (i : Nat), (∀ j r id k, l[j]? = some r → r.kd = .mk id k → p (i + j) = q (i + j)) → viewP p C l i = viewP q C l i
  | [], C, i, _ => rfl
  | r :: l, C, i, h => by
    have ih : ∀ C', viewP p C' l (i + 1) = viewP q C' l (i + 1) := fun C' => viewP_congr l C' (i + 1) (fun j r' id k hj hk => by
      have := h (j + 1) r' id k (by simpa using hj) hk
      rw [show i + 1 + j = i + (j + 1) by omega]; exact this)
    unfold viewP
    cases hk : r.kd with
    | mk id k =>
      have := h 0 r id k rfl hk
      rw [Nat.add_zero] at this
      simp only [this, ih]
    | _ => simp only [ih]

theorem Step.congr {ρ0 : Place} {H0 X Y : Heap} {w0 w : World} (h : Step ρ0 H0 w0 ρ X w) (hX : X.next ≤ 65536) (hn : Y.next = X.next) (hg : ∀ i, i < 65536 → Y.get i = X.get i) : Step ρ0 H0 w0 ρ Y w :=
  ⟨h.ext, h.size, h.keep, fun i k p hi e hp hb => h.back i k p (hn ▸ hi) (by rw [← hg i (by omega)]; exact e) hp hb, h.rest, hn ▸ h.more, h.same, fun i hi e => by rw [hg i (by have := h.more; omega)]; exact h.dead i hi e, fun i k p c ty f hi e hp hb => h.cells i k p c ty f hi (by rw [← hg i (by have := h.more; omega)]; exact e) hp hb⟩

/-- What does not hang on memory. -/
theorem fop_indep {f : Fr} {o : Oper} (h : hdep o.op = false) (H1 H2 : Heap) : fop P f o H1 = fop P f o H2 := by
  unfold fop
  cases hop : o.op with
  | load _ _ => rw [hop] at h; cases h
  | lookup _ _ _ _ => rw [hop] at h; cases h
  | convert _ _ _ => rw [hop] at h; cases h
  | slice _ _ _ _ _ => rw [hop] at h; cases h
  | call c => rw [hop] at h; cases h
  | makeMap t r => cases r <;> rfl
  | _ => rfl
theorem convA_new {src dst : TypeId} {x : AV} {H1 : Heap} {k : ABlk} {n : Nat} {v : Nat → AV} (h : convA P src dst x H1 = some (.new k n v)) (H2 : Heap) : convA P src dst x H2 = some (.new k n v) := by
  unfold convA at h ⊢
  split at h
  · cases h
  · cases h
  · split at h
    · cases h
    · split at h
      · cases h
      · split at h
        · split at h <;> cases h
        · cases h
    · cases h
  · exact h
  · cases h
theorem fop_new {f : Fr} {o : Oper} {H1 : Heap} {k : ABlk} {n : Nat} {v : Nat → AV} (h : fop P f o H1 = some (.new k n v)) (H2 : Heap) : fop P f o H2 = some (.new k n v) := by
  by_cases hd : hdep o.op = false
  · rw [fop_indep hd H2 H1]; exact h
  · cases hop : o.op with
    | load t x =>
      unfold fop at h; rw [hop] at h; simp only at h
      split at h
      · split at h <;> cases h
      · cases h
    | lookup t x ix ok =>
      unfold fop at h; rw [hop] at h; simp only at h
      split at h
      · split at h <;> cases h
      · cases h
    | slice t x lo hi mx =>
      unfold fop at h; rw [hop] at h; simp only at h
      split at h
      · split at h
        · split at h <;> cases h
        · cases h
      · cases h
    | convert s d x =>
      unfold fop at h ⊢; rw [hop] at h ⊢; simp only at h ⊢
      split at h
      · exact convA_new h H2
      · cases h
    | call c =>
      unfold fop at h; rw [hop] at h
      split at h <;> first | (cases ‹Op.call _ = _›; done) | skip
      all_goals first
        | (cases h; done)
        | (split at h
           · split at h
             · split at h <;> cases h
             · cases h
           · cases h)
        | (split at h
           · split at h <;> cases h
           · cases h)
    | _ => rw [hop] at hd; exact absurd rfl hd

mutual
theorem abeq_eq : ∀ (a b : AV), abeq a b = true → a = b
  | .bool a, b, h => by cases b <;> simp [abeq] at h; rw [h]
  | .int k a, b, h => by cases b <;> simp [abeq, ieq_eq] at h; rw [h.1, h.2]
  | .str a, b, h => by cases b <;> simp [abeq, beqs_eq] at h; rw [h]
  | .ptr a c, b, h => by cases b <;> simp [abeq] at h; rw [h.1, h.2]
  | .nilp, b, h => by cases b <;> simp [abeq] at h; rfl
  | .slice a c d e, b, h => by cases b <;> simp [abeq] at h; obtain ⟨⟨⟨h1, h2⟩, h3⟩, h4⟩ := h; rw [h1, h2, h3, h4]
  | .osl a c d e g, b, h => by cases b <;> simp [abeq] at h; obtain ⟨⟨⟨⟨h1, h2⟩, h3⟩, h4⟩, h5⟩ := h; rw [h1, h2, h3, h4, h5]
  | .nils, b, h => by cases b <;> simp [abeq] at h; rfl
  | .map a, b, h => by cases b <;> simp [abeq] at h; rw [h]
  | .nilm, b, h => by cases b <;> simp [abeq] at h; rfl
  | .fn f a c, b, h => by
    cases f with
    | func f =>
      cases b with
      | fn g x y =>
        cases g with
        | func g =>
          simp [abeq] at h
          obtain ⟨⟨h1, h2⟩, h3⟩ := h
          rw [h1, abeqs_eq a x h2, abeqs_eq c y h3]
        | _ => simp [abeq] at h
      | _ => simp [abeq] at h
    | _ => cases b <;> simp [abeq] at h
  | .nilf, b, h => by cases b <;> simp [abeq] at h; rfl
  | .iface t v, b, h => by
    cases b <;> simp [abeq] at h
    rename_i u x
    rw [h.1, abeq_eq v x h.2]
  | .nili, b, h => by cases b <;> simp [abeq] at h; rfl
  | .agg a, b, h => by
    cases b <;> simp [abeq] at h
    rename_i x
    rw [abeqs_eq a x h]
  | .tup a, b, h => by
    cases b <;> simp [abeq] at h
    rename_i x
    rw [abeqs_eq a x h]
  | .sym i, b, h => by cases b <;> simp [abeq] at h; rw [h]
theorem abeqs_eq : ∀ (a b : List AV), abeqs a b = true → a = b
  | [], b, h => by cases b <;> simp [abeqs] at h; rfl
  | x :: l, b, h => by
    cases b with
    | nil => simp [abeqs] at h
    | cons y m =>
      simp [abeqs] at h
      rw [abeq_eq x y h.1, abeqs_eq l m h.2]
end

theorem fltAt_spec {o : Oper} {r : Rec} {i mask At : Nat} : ∀ {ss : List Stage}, fltAt P o r i mask At rs ss = true → ∀ s, s ∈ ss → Nat.land (Nat.land mask At) s.A = Nat.land mask At → Nat.testBit s.M i = false →
    fop P r.f o (view mask s.M s.C rs 0) = some (.val r.v)
  | [], _, s, hs, _, _ => by cases hs
  | s0 :: l, h, s, hs, h1, h2 => by
    unfold fltAt at h
    rcases List.mem_cons.1 hs with e | hs'
    · subst e
      split at h
      · split at h
        · rename_i v hv
          rw [Bool.and_eq_true] at h
          rw [hv, abeq_eq v r.v h.1]
        · cases h
      · rename_i hc
        rw [h1, h2] at hc
        simp at hc
    · split at h
      · split at h
        · rw [Bool.and_eq_true] at h
          exact fltAt_spec h.2 s hs' h1 h2
        · cases h
      · exact fltAt_spec h s hs' h1 h2
theorem fltAll_spec {At : Nat} {ss : List Stage} : ∀ {ol : List Oper} {rl : List Rec} {k : Nat}, fltAll P bm At rs ss ol rl k = true → ∀ i o r, ol[i]? = some o → rl[i]? = some r → r.kd = .flt → hdep o.op = true →
    fltAt P o r (k + i) (bm.get (k + i)) At rs ss = true
  | [], _, _, _, i, o, r, ho, _, _, _ => by simp at ho
  | _ :: _, [], _, h, i, o, r, _, hr, _, _ => by simp at hr
  | o0 :: ol, r0 :: rl, k, h, i, o, r, ho, hr, hk, hd => by
    rw [fltAll, Bool.and_eq_true] at h
    cases i with
    | zero =>
      simp only [List.getElem?_cons_zero, Option.some.injEq] at ho hr
      subst ho; subst hr
      have h1 := h.1
      rw [hk] at h1
      simp only [hd] at h1
      exact h1
    | succ i =>
      have := fltAll_spec h.2 i o r (by simpa using ho) (by simpa using hr) hk hd
      rw [show k + (i + 1) = k + 1 + i by omega]; exact this
theorem stages_mem : ∀ {l : List Rec} {i : Nat} {r : Rec}, l[i]? = some r → r.kd = .act → (⟨r.C, r.M, r.A⟩ : Stage) ∈ stages l
  | [], i, r, h, _ => by simp at h
  | x :: l, i, r, h, hk => by
    cases i with
    | zero =>
      simp only [List.getElem?_cons_zero, Option.some.injEq] at h
      subst h
      unfold stages
      rw [hk]
      simp
    | succ i =>
      have := stages_mem (l := l) (i := i) (by simpa using h) hk
      unfold stages
      split <;> simp [this]

/-- What is known of some slots. -/
def SL (σ : Nat → Value) (ρ : Place) (f : Fr) (a : Act) (D : List Tmp) : Prop := ∀ d, d ∈ D → ∀ v, f.get d = some v → ∃ x, a.tmps[d]? = some x ∧ conc σ ρ v = some x
theorem SL.ev {f : Fr} {a : Act} {o : Oper} (h : SL σ ρ f a (o.looksAt ops)) (hG : ∀ g id, f.g g = some id → ∃ n, ρ id = some ⟨g, 0, n⟩) : EV σ ρ f a o.op.operands.toList := fun x hx v hv => by
  cases x with
  | tmp t =>
    obtain ⟨y, h1, h2⟩ := h t (by unfold Oper.looksAt; refine List.mem_append_left _ (List.mem_filterMap.2 ⟨.tmp t, hx, rfl⟩)) v hv
    rw [h2]
    simp [Act.eval, Array.getD_eq_getD_getElem?, h1]
  | const c => exact ofV_conc hv
  | global g =>
    cases hid : f.g g with
    | none => simp only [Ev.ev, hid] at hv; cases hv
    | some id =>
      simp only [Ev.ev, hid, Option.some.injEq] at hv
      subst hv
      obtain ⟨n, hn⟩ := hG g id hid
      simp [conc, hn, Act.eval]
  | func g => cases hv; simp [conc, concs, Act.eval]
theorem wantA_ok' {f : Fr} {a : Act} {o : Oper} {b : Bool} (hf : SL σ ρ f a (o.looksAt ops)) (h : wantA f ops o = some b) : Region.wanted o (yielded ops a.tmps) = b := by
  unfold wantA at h
  unfold Region.wanted
  split at h
  · rename_i hg
    cases h
    simp [hg]
  · rename_i j want hg
    simp only [hg]
    split at h
    · rename_i g hj
      split at h
      · rename_i d hd
        have hy : ∀ x, a.tmps[d]? = some x → yielded ops a.tmps j = match x with
            | .bool b => some b
            | _ => none := fun x hx => by
          unfold yielded
          simp only [hj, hd, hx, Option.bind_some]
          cases x <;> rfl
        have hget := hf d (by unfold Oper.looksAt; refine List.mem_append_right _ ?_; simp [hg, hj, hd])
        split at h
        · rename_i b' hb'
          cases h
          obtain ⟨x, h1, h2⟩ := hget _ hb'
          simp only [conc, Option.some.injEq] at h2
          subst h2
          rw [hy _ h1]
          simp
        · rename_i l hl
          cases h
          obtain ⟨x, h1, h2⟩ := hget _ hl
          obtain ⟨y, _, rfl⟩ := conc_tup h2
          rw [hy _ h1]
          simp
        · cases h
      · cases h
    · cases h
end
end Ev
end Go.Proofs.YtikmamcbngbipaaGreatDoor
