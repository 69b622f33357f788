/- A statement whose order Go leaves open: one operation more, whichever it is. -/
import Derived.Test.YtikmamcbngbipaaGreatDoorEX
namespace Go.Proofs.YtikmamcbngbipaaGreatDoor
namespace Ev

structure Inv (σ : Nat → Value) (ops : Array Oper) (n0 : Nat) (rs : List Rec) (fin : Fr × Heap × Nat × Nat) (f0 : Fr) (ρ0 : Place) (H0 : Heap) (w0 : World) (ds : List Deferred) (S : Nat → Bool) (ρ : Place) (a : Act) (w : World) : Prop where
  hr : HR σ ρ (XS ops rs fin S) w.heap
  st : Step ρ0 H0 w0 ρ (XS ops rs fin S) w
  next : n0 + ops.size ≤ (XS ops rs fin S).next
  fresh : ∀ j, (mkAt n0 rs (n0 + j)).isSome = true → S j = false → ρ (n0 + j) = none
  gone : ∀ j, (mkAt n0 rs (n0 + j)).isSome = true → Nat.testBit (stAt rs fin (ST ops rs S)).2.2.1 j = false → (stAt rs fin (ST ops rs S)).2.1.get (n0 + j) = none
  size : a.tmps.size = f0.sz
  slots : ∀ t, t < f0.sz → ∃ v, a.tmps[t]? = some v ∧ conc σ ρ (valS ops rs f0 S t ops.size) = some v
  defers : a.defers = ds

section
variable {σ : Nat → Value} {ρ : Place} {P : Program} {G : Nat → Option Nat} {call : FuncId → List AV → Heap → Option (AV × Heap)} {ops : Array Oper} {n0 : Nat} {rs : List Rec} {fin : Fr × Heap × Nat × Nat} {f0 : Fr} {C0 : Heap} {S : Nat → Bool}
  {ρ0 : Place} {H0 : Heap} {w0 : World} {ds : List Deferred} {a : Act} {w : World} {Q : Exit → Act → World → Prop}

theorem viewP_cons (p : Nat → Bool) (r : Rec) (l : List Rec) (C : Heap) (k : Nat) : viewP p C (r :: l) k = match r.kd with
    | .mk id b => match p k with
      | true => viewP p (C.put id b) l (k + 1)
      | false => viewP p C l (k + 1)
    | _ => viewP p C l (k + 1) := by
  conv => lhs; unfold viewP
  cases r.kd <;> rfl
theorem viewP_append (p : Nat → Bool) : ∀ (l m : List Rec) (C : Heap) (k : Nat), viewP p C (l ++ m) k = viewP p (viewP p C l k) m (k + l.length)
  | [], m, C, k => rfl
  | r :: l, m, C, k => by
    have ih := fun C' => viewP_append p l m C' (k + 1)
    simp only [List.length_cons, List.cons_append]
    rw [show k + (l.length + 1) = k + 1 + l.length by omega]
    rw [viewP_cons, viewP_cons]
    cases r.kd with
    | mk id b => cases p k <;> exact ih _
    | _ => exact ih _
theorem viewP_none {p : Nat → Bool} : ∀ (l : List Rec) (C : Heap) (k : Nat), (∀ j, k ≤ j → p j = false) → viewP p C l k = C
  | [], C, k, _ => rfl
  | r :: l, C, k, h => by
    have ih := viewP_none l C (k + 1) (fun j hj => h j (by omega))
    rw [viewP_cons]
    cases r.kd with
    | mk id b => simp only [h k (Nat.le_refl _)]; exact ih
    | _ => exact ih
theorem viewP_take {p : Nat → Bool} {C : Heap} {i : Nat} (h : ∀ j, i ≤ j → p j = false) (hi : i ≤ rs.length) : viewP p C (rs.take i) 0 = viewP p C rs 0 := by
  have e : rs = rs.take i ++ rs.drop i := (List.take_append_drop i rs).symm
  conv => rhs; rw [e]
  rw [viewP_append, viewP_none (rs.drop i)]
  intro j hj
  simp only [List.length_take, Nat.zero_add] at hj
  exact h j (by omega)
theorem mkAt_kind {i : Nat} {r : Rec} (hr : rs[i]? = some r) : mkAt n0 rs (n0 + i) = match r.kd with
    | .mk _ k => some k
    | _ => none := by
  unfold mkAt
  rw [Nat.ble_eq_true_of_le (Nat.le_add_right _ _), show n0 + i - n0 = i by omega]
  simp only [hr]
  cases r.kd <;> rfl
theorem mkAt_lt {j : Nat} (h : (mkAt n0 rs (n0 + j)).isSome = true) : j < rs.length := by
  unfold mkAt at h
  split at h
  · rcases Nat.lt_or_ge j rs.length with g | g
    · exact g
    · rw [show n0 + j - n0 = j by omega, List.getElem?_eq_none g] at h; cases h
  · cases h

theorem Ctx.step (c : Ctx P call ops n0 rs fin f0 C0) (hs : ∀ i, (σ i).oneCell' = true) (hcall : CallsOK σ P G call) (hsz : f0.sz ≤ 512) (hG : f0.g = G) (hG0 : GOK G ρ0) (hn0 : H0.next = n0) (hS : SOK ops S)
    (inv : Inv σ ops n0 rs fin f0 ρ0 H0 w0 ds S ρ a w) {i : Nat} {o : Oper} (ho : ops[i]? = some o) (hready : ∀ e, e ∈ o.after → Region.binds .any e = true → S e.on = true) (hi : S i = false) {S' : Nat → Bool} (hS' : ∀ j, S' j = (S j || decide (j = i))) :
    wpOp P ops Q i (fun a' w' => ∃ ρ', Inv σ ops n0 rs fin f0 ρ0 H0 w0 ds S' ρ' a' w') a w := by
  have hib : i < ops.size := (Array.getElem?_eq_some_iff.1 ho).1
  obtain ⟨_, r, _, hr⟩ := c.pair hib
  obtain ⟨h256, hmask, hap⟩ := orderly_spec c.ord
  obtain ⟨f2, hput, hc⟩ := c.L.each i o r (Nat.zero_le _) ho hr
  obtain ⟨fr1, fr2, fr3⟩ := c.frame hsz i (by omega)
  rw [stAt_get hr] at fr1 fr2 fr3
  simp only at fr1 fr2 fr3
  have sX := inv.hr.small
  have hgok : GOK G ρ := hG0.mono inv.st.ext
  -- what it looks at
  have hSL : SL σ ρ r.f a (o.looksAt ops) := fun d hd v hv => by
    unfold Fr.get at hv
    split at hv
    · rename_i hlt
      cases hv
      have hlt := bl hlt
      rw [fr1] at hlt
      obtain ⟨x, h1, h2⟩ := inv.slots d hlt
      rw [c.slot hS ho hready hi hd ops.size (Nat.le_refl _), Nat.min_eq_right (by omega), ← fr3 d hlt] at h2
      exact ⟨x, h1, h2⟩
    · cases hv
  have hEV := hSL.ev (fun g id hg => hgok g id (by rw [← hG, ← fr2]; exact hg))
  -- the slots behind it
  have slots' : ∀ (ρ' : Place) (v' : Value), ρ.le ρ' → conc σ ρ' r.v = some v' → (a.put o.dst v').tmps.size = f0.sz ∧ (∀ t, t < f0.sz → ∃ v, (a.put o.dst v').tmps[t]? = some v ∧ conc σ ρ' (valS ops rs f0 S' t ops.size) = some v) ∧ (a.put o.dst v').defers = ds := fun ρ' v' hle hv' => by
    have hd : (a.put o.dst v').defers = ds := by rw [← inv.defers]; cases o.dst <;> rfl
    refine ⟨?_, fun t ht => ?_, hd⟩
    · rw [← inv.size]; cases o.dst <;> simp [Act.put]
    · rw [c.slotPut hS ho hr hi hS' t ops.size (Nat.le_refl _)]
      obtain ⟨x, h1, h2⟩ := inv.slots t ht
      cases hdst : o.dst with
      | none =>
        rw [if_neg (by simp)]
        exact ⟨x, h1, conc_mono hle _ _ h2⟩
      | some d =>
        by_cases hdt : d = t
        · subst hdt
          rw [if_pos ⟨hib, rfl⟩]
          exact ⟨v', by simp [Act.put, inv.size, ht], hv'⟩
        · rw [if_neg (by simp [hdt])]
          exact ⟨x, by simp [Act.put, Array.getElem?_setIfInBounds_ne hdt, h1], conc_mono hle _ _ h2⟩
  -- what its acts have ahead of them does not hold it
  have hMi : Nat.testBit (stAt rs fin (ST ops rs S)).2.2.1 i = false := by
    cases hb : Nat.testBit (stAt rs fin (ST ops rs S)).2.2.1 i with
    | false => rfl
    | true =>
      obtain ⟨b, h1, h2, h3⟩ := (c.stM hS i).1 hb
      have := c.maskS hS h2 h3
      rw [hi] at this; cases this
  -- the memory that it may see
  generalize hV : viewP (fun j => Nat.testBit ((maskTree ops).get i) j && !Nat.testBit (stAt rs fin (ST ops rs S)).2.2.1 j) (stAt rs fin (ST ops rs S)).2.1 rs 0 = V
  have hVn : V.next = (XS ops rs fin S).next := by rw [← hV]; unfold XS; rw [viewP_next, viewP_next]
  have hVget : ∀ id, id < 65536 → V.get id = if n0 ≤ id ∧ (Nat.testBit ((maskTree ops).get i) (id - n0) && !Nat.testBit (stAt rs fin (ST ops rs S)).2.2.1 (id - n0)) = true ∧ (mkAt n0 rs id).isSome = true then mkAt n0 rs id else (stAt rs fin (ST ops rs S)).2.1.get id := fun id hid => by
    rw [← hV]; exact c.seeAt _ _ hid
  have hXget : ∀ id, id < 65536 → (XS ops rs fin S).get id = if n0 ≤ id ∧ (S (id - n0) && !Nat.testBit (stAt rs fin (ST ops rs S)).2.2.1 (id - n0)) = true ∧ (mkAt n0 rs id).isSome = true then mkAt n0 rs id else (stAt rs fin (ST ops rs S)).2.1.get id := fun id hid => by
    unfold XS; exact c.seeAt _ _ hid
  have hVsub : ∀ id k, id < 65536 → V.get id = some k → (XS ops rs fin S).get id = some k := fun id k hid hk => by
    rw [hVget id hid] at hk
    rw [hXget id hid]
    by_cases hcond : n0 ≤ id ∧ (Nat.testBit ((maskTree ops).get i) (id - n0) && !Nat.testBit (stAt rs fin (ST ops rs S)).2.2.1 (id - n0)) = true ∧ (mkAt n0 rs id).isSome = true
    · rw [if_pos hcond] at hk
      obtain ⟨h1, h2, h3⟩ := hcond
      rw [Bool.and_eq_true] at h2
      rw [if_pos ⟨h1, by rw [c.mask hS ho hready h2.1, h2.2]; rfl, h3⟩]
      exact hk
    · rw [if_neg hcond] at hk
      rw [if_neg, hk]
      rintro ⟨h1, h2, h3⟩
      rw [Bool.and_eq_true, Bool.not_eq_true'] at h2
      have e : id = n0 + (id - n0) := by omega
      rw [e] at h3
      have := inv.gone (id - n0) h3 h2.2
      rw [← e, hk] at this; cases this
  have hVr : HR σ ρ V w.heap := inv.hr.sub hVn hVsub
  unfold wpOp
  simp only [ho]
  -- where the stage stays
  have stage : isActR rs i = false → ST ops rs S' = ST ops rs S := fun hna => by
    unfold ST
    refine stI_congr (fun b hb => ?_) _ _
    rw [hS' b]
    have : b ≠ i := fun e => by rw [e, hna] at hb; cases hb
    simp [this]
  have still : isActR rs i = false → (mkAt n0 rs (n0 + i)).isSome = false → ∀ (v' : Value), conc σ ρ r.v = some v' → Inv σ ops n0 rs fin f0 ρ0 H0 w0 ds S' ρ (a.put o.dst v') w := fun hna hnm v' hv' => by
    have hst := stage hna
    have hX : XS ops rs fin S' = XS ops rs fin S := by
      unfold XS
      rw [hst]
      refine viewP_congr rs _ 0 (fun j r' id k hj hk => ?_)
      rw [Nat.zero_add, hS' j]
      have : j ≠ i := fun e => by
        subst e
        rw [mkAt_kind hj, hk] at hnm; cases hnm
      simp [this]
    obtain ⟨s1, s2, s3⟩ := slots' ρ v' (.refl _) hv'
    refine ⟨by rw [hX]; exact inv.hr, by rw [hX]; exact inv.st, by rw [hX]; exact inv.next, fun j h1 h2 => inv.fresh j h1 ?_, fun j h1 h2 => ?_, s1, s2, s3⟩
    · rw [hS' j, Bool.or_eq_false_iff] at h2; exact h2.1
    · rw [hst] at h2 ⊢; exact inv.gone j h1 h2
  rcases hc with ⟨hk, hw, hv, he⟩ | ⟨hk, hw, hact, hv, he⟩ | ⟨k, n, v, hk, hw, hact, hv, hvv, he⟩ | ⟨C2, hk, hw, hact, hA, hv, he⟩
  · -- it is passed over
    rw [if_neg (by rw [wantA_ok' hSL hw]; simp)]
    exact ⟨ρ, still (by simp [isActR, hr, hk]) (by rw [mkAt_kind hr, hk]; rfl) undef (by rw [hv]; rfl)⟩
  · -- a value
    rw [if_pos (wantA_ok' hSL hw)]
    refine .inl ?_
    have hfop : fop P r.f o V = some (.val r.v) := by
      cases hd : hdep o.op with
      | false => rw [fop_indep hd V (view ((maskTree ops).get i) r.M r.C (rs.take i) 0)]; exact hv
      | true =>
        have hflt := fltAll_spec c.flt i o r (by simpa using ho) hr hk hd
        rw [Nat.zero_add] at hflt
        have := fltAt_spec hflt _ (c.stageMem S) (Nat.eq_of_testBit_eq (fun j => ?_)) hMi
        · rw [view_eq, hV] at this; exact this
        · rw [bit_land, bit_land]
          simp only
          rw [c.stA hS j]
          cases h1 : Nat.testBit ((maskTree ops).get i) j with
          | false => simp
          | true =>
            have hSj := c.mask hS ho hready h1
            have hfin : stAt rs fin ops.size = fin := by unfold stAt; rw [List.getElem?_eq_none (by rw [c.len]; exact Nat.le_refl _)]
            have hb := (c.bits (Nat.le_refl ops.size)).1 j
            rw [hfin] at hb
            rw [hb, hSj]
            cases isActR rs j <;> simp
    refine wp_val (fop_run hs hVr hEV hfop) (fun v' hv' => ⟨ρ, still (by simp [isActR, hr, hk]) (by rw [mkAt_kind hr, hk]; rfl) v' hv'⟩)
  · -- a new block
    rw [if_pos (wantA_ok' hSL hw)]
    refine .inl ?_
    have hfop : fop P r.f o V = some (.new k n v) := fop_new hv V
    have hmk : mkAt n0 rs (n0 + i) = some k := by rw [mkAt_kind hr, hk]
    have hna : isActR rs i = false := by simp [isActR, hr, hk]
    have hst := stage hna
    obtain ⟨v', w', x, N, h1, h2, h3, h4⟩ := fop_run hs hVr hEV hfop
    have hfr := inv.fresh i (by rw [hmk]; rfl) hi
    obtain ⟨hb, hcv⟩ := h4 (n0 + i) hfr
    have hlt : n0 + i < (XS ops rs fin S).next := by have := inv.next; omega
    have g1 := HR.newAt inv.hr hlt hfr rfl hb
    have g2 := Step.newAt inv.hr inv.st (by omega) hlt hfr (k := k) (p := ⟨w.heap.size, 0, N⟩) rfl h2 h3
    have hXn : (XS ops rs fin S').next = (XS ops rs fin S).next := by unfold XS; rw [viewP_next, viewP_next, hst]
    have hXg : ∀ id, id < 65536 → (XS ops rs fin S').get id = ((XS ops rs fin S).put (n0 + i) k).get id := fun id hid => by
      have e1 : (XS ops rs fin S').get id = if n0 ≤ id ∧ (S' (id - n0) && !Nat.testBit (stAt rs fin (ST ops rs S')).2.2.1 (id - n0)) = true ∧ (mkAt n0 rs id).isSome = true then mkAt n0 rs id else (stAt rs fin (ST ops rs S')).2.1.get id := by
        unfold XS; exact c.seeAt _ _ hid
      rw [e1, hst, get_put (by omega) hid, hXget id hid]
      by_cases hid' : id = n0 + i
      · subst hid'
        rw [if_pos rfl, show n0 + i - n0 = i by omega, hMi, hS' i, hmk]
        simp
      · rw [if_neg hid']
        by_cases hle : n0 ≤ id
        · have : S' (id - n0) = S (id - n0) := by rw [hS' (id - n0)]; simp; omega
          rw [this]
        · rw [if_neg (fun h => hle h.1), if_neg (fun h => hle h.1)]
    unfold Oper.wp
    rw [h1]
    have hcv' : conc σ (ρ.with (n0 + i) ⟨w.heap.size, 0, N⟩) r.v = some v' := by rw [hvv]; exact hcv
    obtain ⟨s1, s2, s3⟩ := slots' _ v' (Place.with_le hfr) hcv'
    refine ⟨_, ⟨?_, ?_, ?_, fun j q1 q2 => ?_, fun j q1 q2 => ?_, s1, s2, s3⟩⟩
    · rw [h2]
      exact g1.sub hXn (fun id k' hid hk' => by rw [← hXg id hid]; exact hk')
    · exact g2.congr sX hXn hXg
    · rw [hXn]; exact inv.next
    · rw [hS' j, Bool.or_eq_false_iff] at q2
      have : j ≠ i := by have := q2.2; simpa using this
      rw [Place.with_ne (by omega)]
      exact inv.fresh j q1 q2.1
    · rw [hst] at q2 ⊢; exact inv.gone j q1 q2
  · -- an act
    rw [if_pos (wantA_ok' hSL hw)]
    refine .inl ?_
    have hai : isActR rs i = true := by simp [isActR, hr, hk]
    have hnm : mkAt n0 rs (n0 + i) = none := by rw [mkAt_kind hr, hk]
    obtain ⟨t1, t2, t3⟩ := ST_spec (ops := ops) (rs := rs) S
    have before : ∀ b, b < i → isActR rs b = true → S b = true := fun b hb hab => by
      have hbit := (c.bits (i := i) (by omega)).1 b
      rw [stAt_get hr] at hbit
      simp only at hbit
      rw [hab] at hbit
      simp only [hb, decide_true, Bool.and_true] at hbit
      rw [← hA, bit_land, Bool.and_eq_true] at hbit
      exact c.mask hS ho hready hbit.1
    have hSTi : ST ops rs S = i := by
      have h1 : ¬ i < ST ops rs S := fun h => by have := t2 i h hai; rw [hi] at this; cases this
      rcases Nat.lt_or_ge (ST ops rs S) i with g | g
      · obtain ⟨k1, k2⟩ := t3 (by omega)
        have := before _ g k1
        rw [k2] at this; cases this
      · omega
    rw [hSTi] at hV hVget hXget hMi
    rw [stAt_get hr] at hV hVget hXget hMi
    simp only at hV hVget hXget hMi
    have hview : view ((maskTree ops).get i) r.M r.C (rs.take i) 0 = V := by
      rw [view_eq, viewP_take (fun j hj => ?_) (by rw [c.len]; omega), hV]
      have : Nat.testBit ((maskTree ops).get i) j = false := Nat.testBit_lt_two_pow (Nat.lt_of_lt_of_le (hmask i hib) (Nat.pow_le_pow_right (by omega) hj))
      rw [this]; rfl
    rw [hview] at hv
    have gone' : ∀ j, (mkAt n0 rs (n0 + j)).isSome = true → Nat.testBit r.M j = false → r.C.get (n0 + j) = none := fun j q1 q2 => by
      have := inv.gone j q1
      rw [hSTi, stAt_get hr] at this
      exact this q2
    refine aop_wp hs hcall hVr hEV hgok hv (fun ρ' v' w' g1 g2 g3 => ?_)
    -- the stage behind it
    obtain ⟨u1, u2, u3⟩ := ST_spec (ops := ops) (rs := rs) S'
    have hST' : i + 1 ≤ ST ops rs S' := by
      rcases Nat.lt_or_ge i (ST ops rs S') with g | g
      · exact g
      · obtain ⟨k1, k2⟩ := u3 (by omega)
        by_cases hb : ST ops rs S' = i
        · rw [hb, hS' i] at k2; simp at k2
        · have := before _ (by omega) k1
          rw [hS', this] at k2; simp at k2
    have hconst := st_const c.L c.len (i + 1) (ST ops rs S' - (i + 1)) (by omega) (fun j h1 h2 => by
      cases hj : isActR rs j with
      | false => rfl
      | true =>
        have := u2 j (by omega) hj
        rw [hS' j, Bool.or_eq_true] at this
        rcases this with h | h
        · have := (c.act_iff hS hj).1 h; omega
        · have : j = i := by simpa using h
          omega)
    rw [show i + 1 + (ST ops rs S' - (i + 1)) = ST ops rs S' by omega, he] at hconst
    simp only at hconst
    have hXn : (XS ops rs fin S').next = C2.next := by unfold XS; rw [viewP_next, hconst]
    have hXg : ∀ id, id < 65536 → (XS ops rs fin S').get id = if n0 ≤ id ∧ (S' (id - n0) && !Nat.testBit (Nat.lor r.M ((maskTree ops).get i)) (id - n0)) = true ∧ (mkAt n0 rs id).isSome = true then mkAt n0 rs id else C2.get id := fun id hid => by
      have e1 : (XS ops rs fin S').get id = if n0 ≤ id ∧ (S' (id - n0) && !Nat.testBit (stAt rs fin (ST ops rs S')).2.2.1 (id - n0)) = true ∧ (mkAt n0 rs id).isSome = true then mkAt n0 rs id else (stAt rs fin (ST ops rs S')).2.1.get id := by
        unfold XS; exact c.seeAt _ _ hid
      rw [e1, hconst]
    have beside : ∀ id k, id < 65536 → (XS ops rs fin S').get id = some k → C2.get id = some k ∨ (n0 ≤ id ∧ id < (XS ops rs fin S).next ∧ (XS ops rs fin S).get id = some k ∧ V.get id = none) := fun id k' hid hk' => by
      rw [hXg id hid] at hk'
      by_cases hcond : n0 ≤ id ∧ (S' (id - n0) && !Nat.testBit (Nat.lor r.M ((maskTree ops).get i)) (id - n0)) = true ∧ (mkAt n0 rs id).isSome = true
      · rw [if_pos hcond] at hk'
        obtain ⟨q1, q2, q3⟩ := hcond
        rw [Bool.and_eq_true, Bool.not_eq_true', bit_lor, Bool.or_eq_false_iff] at q2
        obtain ⟨q2, q4, q5⟩ := q2
        have e : id = n0 + (id - n0) := by omega
        have hne : id - n0 ≠ i := fun hh => by rw [e, hh, hnm] at q3; cases q3
        have hSj : S (id - n0) = true := by rw [hS'] at q2; simpa [hne] using q2
        have hjb := hS.bound _ hSj
        refine .inr ⟨q1, by have := inv.next; omega, ?_, ?_⟩
        · rw [hXget id hid, if_pos ⟨q1, by rw [hSj, q4]; rfl, q3⟩]; exact hk'
        · rw [hVget id hid, if_neg (fun h => by rw [q5] at h; exact absurd h.2.1 (by simp))]
          have := gone' (id - n0) (by rw [← e]; exact q3) q4
          rw [← e] at this; exact this
      · rw [if_neg hcond] at hk'
        exact .inl hk'
    obtain ⟨s1, s2, s3⟩ := slots' ρ' v' g2.ext g3
    refine ⟨ρ', ⟨?_, ?_, ?_, fun j q1 q2 => ?_, fun j q1 q2 => ?_, s1, s2, s3⟩⟩
    · exact HR.join inv.hr hVn hVsub g2 g1 hXn (fun id k' hid hk' => (beside id k' hid hk').imp (fun h => h) (fun h => h.2))
    · exact Step.join inv.hr inv.st hVn hVsub g2 g1 hXn (fun id k' hid hk' => by rw [hn0]; exact beside id k' hid hk') (fun id hid hk' => by
        rw [hXg id (by have := g1.small; have := inv.next; omega), if_neg (fun h => by omega)]; exact hk')
    · rw [hXn]; have := g2.more; have := inv.next; omega
    · rw [hS' j, Bool.or_eq_false_iff] at q2
      have hj := mkAt_lt q1
      rw [c.len] at hj
      rw [g2.same (n0 + j) (by have := inv.next; omega)]
      exact inv.fresh j q1 q2.1
    · rw [hconst] at q2 ⊢
      simp only at q2 ⊢
      rw [bit_lor, Bool.or_eq_false_iff] at q2
      have hj := mkAt_lt q1
      rw [c.len] at hj
      refine g2.dead (n0 + j) (by have := inv.next; omega) ?_
      have := c.room
      rw [hVget (n0 + j) (by omega), if_neg (fun h => by
        have h2 := h.2.1
        rw [show n0 + j - n0 = j by omega, q2.2] at h2
        exact absurd h2 (by simp))]
      exact gone' j q1 q2.1
end
end Ev
end Go.Proofs.YtikmamcbngbipaaGreatDoor
