/- A statement whose order Go leaves open: one operation more, whichever it is. -/
import Derived.Test.YtpppaheennkkpaaGreatDoorET
namespace Go.Proofs.YtpppaheennkkpaaGreatDoor
namespace Ev

structure Inv (σ : Nat → Value) (ops : Array Oper) (ap : AP) (n0 : Nat) (rs : List Rec) (fin : Fr × Heap × Nat × Nat) (f0 : Fr) (ρ0 : Place) (H0 : Heap) (w0 : World) (ds : List Deferred) (S : Nat → Bool) (X : Heap) (ρ : Place) (a : Act) (w : World) : Prop where
  hr : HR σ ρ X w.heap
  st : Step ρ0 H0 w0 ρ X w
  next : n0 + ops.size ≤ X.next
  fresh : ∀ j, (mkAt n0 rs (n0 + j)).isSome = true → S j = false → ρ (n0 + j) = none
  gone : ∀ j, (mkAt n0 rs (n0 + j)).isSome = true → Nat.testBit (stAt rs fin (ST ops rs S)).2.2.1 j = false → (stAt rs fin (ST ops rs S)).2.1.get (n0 + j) = none
  size : a.tmps.size = f0.sz
  slots : ∀ t, t < f0.sz → ∃ v, a.tmps[t]? = some v ∧ conc σ ρ (valS ops rs f0 S t ops.size) = some v
  defers : a.defers = ds
  pend : ∀ ia id k, ap.app = some (ia, some (id, k)) → S ia = false → ∃ p, ρ0 id = some p ∧ BR σ ρ0 p w.heap[p.b]? k ∧ ∀ j l q, j < X.next → X.get j = some l → ρ j = some q → q.b ≠ p.b

section
variable {σ : Nat → Value} {ρ : Place} {P : Program} {G : Nat → Option Nat} {call : FuncId → List AV → Heap → Option (AV × Heap)} {ops : Array Oper} {ap : AP} {n0 : Nat} {rs : List Rec} {fin : Fr × Heap × Nat × Nat} {f0 : Fr} {C0 : Heap} {S : Nat → Bool}
  {ρ0 : Place} {H0 : Heap} {w0 : World} {ds : List Deferred} {a : Act} {w : World} {Q : Exit → Act → World → Prop}

theorem viewP_cons (p : Nat → Bool) (r : Rec) (l : List Rec) (C : Heap) (k : Nat) : viewP p C (r :: l) k = match r.kd with
    | .mk id b => match p k with
      | true => viewP p (C.put id b) l (k + 1)
      | false => viewP p C l (k + 1)
    | _ => viewP p C l (k + 1) := by
  conv => lhs; unfold viewP
  cases r.kd <;> rfl
theorem viewP_append (p : Nat → Bool) : ∀ (l m : List Rec) (C : Heap) (k : Nat), viewP p C (l ++ m) k = viewP p (viewP p C l k) m (k + l.length)
  | [], m, C, k => rfl
  | r :: l, m, C, k => by
    have ih := fun C' => viewP_append p l m C' (k + 1)
    simp only [List.length_cons, List.cons_append]
    rw [show k + (l.length + 1) = k + 1 + l.length by omega]
    rw [viewP_cons, viewP_cons]
    cases r.kd with
    | mk id b => cases p k <;> exact ih _
    | _ => exact ih _
theorem viewP_none {p : Nat → Bool} : ∀ (l : List Rec) (C : Heap) (k : Nat), (∀ j, k ≤ j → p j = false) → viewP p C l k = C
  | [], C, k, _ => rfl
  | r :: l, C, k, h => by
    have ih := viewP_none l C (k + 1) (fun j hj => h j (by omega))
    rw [viewP_cons]
    cases r.kd with
    | mk id b => simp only [h k (Nat.le_refl _)]; exact ih
    | _ => exact ih
theorem viewP_take {p : Nat → Bool} {C : Heap} {i : Nat} (h : ∀ j, i ≤ j → p j = false) (hi : i ≤ rs.length) : viewP p C (rs.take i) 0 = viewP p C rs 0 := by
  have e : rs = rs.take i ++ rs.drop i := (List.take_append_drop i rs).symm
  conv => rhs; rw [e]
  rw [viewP_append, viewP_none (rs.drop i)]
  intro j hj
  simp only [List.length_take, Nat.zero_add] at hj
  exact h j (by omega)
theorem mkAt_kind {i : Nat} {r : Rec} (hr : rs[i]? = some r) : mkAt n0 rs (n0 + i) = match r.kd with
    | .mk _ k => some k
    | _ => none := by
  unfold mkAt
  rw [Nat.ble_eq_true_of_le (Nat.le_add_right _ _), show n0 + i - n0 = i by omega]
  simp only [hr]
  cases r.kd <;> rfl
theorem mkAt_lt {j : Nat} (h : (mkAt n0 rs (n0 + j)).isSome = true) : j < rs.length := by
  unfold mkAt at h
  split at h
  · rcases Nat.lt_or_ge j rs.length with g | g
    · exact g
    · rw [show n0 + j - n0 = j by omega, List.getElem?_eq_none g] at h; cases h
  · cases h

theorem appSafe_spec {bm : T Nat} {ia : Nat} : ∀ (l : List Oper) (a0 : Nat), appSafe bm ia l a0 = true → ∀ j o, l[j]? = some o → isAct o.op = true → a0 + j = ia ∨ Nat.testBit (bm.get (a0 + j)) ia = true ∨ Nat.land (bm.get (a0 + j)) (bm.get ia) = 0
  | [], _, _, j, o, ho, _ => by cases ho
  | x :: l, a0, h, 0, o, ho, ha => by
    cases ho
    unfold appSafe at h
    rw [Bool.and_eq_true] at h
    have h := h.1
    rw [ha] at h
    simp only [Bool.not_true, Bool.false_or, Bool.or_eq_true] at h
    rw [Nat.add_zero]
    rcases h with (h | h) | h
    · exact .inl (Nat.eq_of_beq_eq_true h)
    · exact .inr (.inl h)
    · exact .inr (.inr (Nat.eq_of_beq_eq_true h))
  | x :: l, a0, h, j + 1, o, ho, ha => by
    unfold appSafe at h
    rw [Bool.and_eq_true] at h
    have := appSafe_spec l (a0 + 1) h.2 j o (by simpa using ho) ha
    rw [show a0 + (j + 1) = a0 + 1 + j by omega]; exact this
theorem apHere_spec {ap : AP} {i : Nat} {old : Option (Nat × ABlk)} (h : apHere ap i = some old) : ap.app = some (i, old) := by
  unfold apHere at h
  generalize ap.app = x at h
  unfold apAt at h
  split at h
  · cases h
  · split at h
    · rename_i hb
      cases h
      rw [Nat.eq_of_beq_eq_true hb]
    · cases h

theorem Ctx.step0 (c : Ctx P call ops ap n0 rs fin f0 C0) (hs : ∀ i, (σ i).oneCell' = true) (hcall : CallsOK σ P G call) (hsz : f0.sz ≤ 512) (hG : f0.g = G) (hG0 : GOK G ρ0) (hn0 : H0.next = n0) (hr0 : HR σ ρ0 H0 w0.heap) (hapo : ∀ ia id k, ap.app = some (ia, some (id, k)) → id < H0.next ∧ H0.get id = some k) (hS : SOK ops S)
    (inv : Inv σ ops ap n0 rs fin f0 ρ0 H0 w0 ds S (XS ops rs fin S) ρ a w) {i : Nat} {o : Oper} (ho : ops[i]? = some o) (hready : ∀ e, e ∈ o.after → Region.binds .any e = true → S e.on = true) (hi : S i = false) {S' : Nat → Bool} (hS' : ∀ j, S' j = (S j || decide (j = i))) (hnl : ∀ r id k, rs[i]? = some r → r.kd ≠ .late id k) :
    wpOp P ops Q i (fun a' w' => ∃ ρ', Inv σ ops ap n0 rs fin f0 ρ0 H0 w0 ds S' (XS ops rs fin S') ρ' a' w') a w := by
  have hib : i < ops.size := (Array.getElem?_eq_some_iff.1 ho).1
  obtain ⟨_, r, _, hr⟩ := c.pair hib
  obtain ⟨h256, hmask, hap⟩ := orderly_spec c.ord
  obtain ⟨f2, hput, hc⟩ := c.L.each i o r (Nat.zero_le _) ho hr
  obtain ⟨fr1, fr2, fr3⟩ := c.frame hsz i (by omega)
  rw [stAt_get hr] at fr1 fr2 fr3
  simp only at fr1 fr2 fr3
  have sX := inv.hr.small
  have hgok : GOK G ρ := hG0.mono inv.st.ext
  -- what it looks at
  have hSL : SL σ ρ r.f a (o.looksAt ops) := fun d hd v hv => by
    unfold Fr.get at hv
    split at hv
    · rename_i hlt
      cases hv
      have hlt := bl hlt
      rw [fr1] at hlt
      obtain ⟨x, h1, h2⟩ := inv.slots d hlt
      rw [c.slot hS ho hready hi hd ops.size (Nat.le_refl _), Nat.min_eq_right (by omega), ← fr3 d hlt] at h2
      exact ⟨x, h1, h2⟩
    · cases hv
  have hEV := hSL.ev (fun g id hg => hgok g id (by rw [← hG, ← fr2]; exact hg))
  -- the slots behind it
  have slots' : ∀ (ρ' : Place) (v' : Value), ρ.le ρ' → conc σ ρ' r.v = some v' → (a.put o.dst v').tmps.size = f0.sz ∧ (∀ t, t < f0.sz → ∃ v, (a.put o.dst v').tmps[t]? = some v ∧ conc σ ρ' (valS ops rs f0 S' t ops.size) = some v) ∧ (a.put o.dst v').defers = ds := fun ρ' v' hle hv' => by
    have hd : (a.put o.dst v').defers = ds := by rw [← inv.defers]; cases o.dst <;> rfl
    refine ⟨?_, fun t ht => ?_, hd⟩
    · rw [← inv.size]; cases o.dst <;> simp [Act.put]
    · rw [c.slotPut hS ho hr hi hS' t ops.size (Nat.le_refl _)]
      obtain ⟨x, h1, h2⟩ := inv.slots t ht
      cases hdst : o.dst with
      | none =>
        rw [if_neg (by simp)]
        exact ⟨x, h1, conc_mono hle _ _ h2⟩
      | some d =>
        by_cases hdt : d = t
        · subst hdt
          rw [if_pos ⟨hib, rfl⟩]
          exact ⟨v', by simp [Act.put, inv.size, ht], hv'⟩
        · rw [if_neg (by simp [hdt])]
          exact ⟨x, by simp [Act.put, Array.getElem?_setIfInBounds_ne hdt, h1], conc_mono hle _ _ h2⟩
  -- what its acts have ahead of them does not hold it
  have hMi : Nat.testBit (stAt rs fin (ST ops rs S)).2.2.1 i = false := by
    cases hb : Nat.testBit (stAt rs fin (ST ops rs S)).2.2.1 i with
    | false => rfl
    | true =>
      obtain ⟨b, h1, h2, h3⟩ := (c.stM hS i).1 hb
      have := c.maskS hS h2 h3
      rw [hi] at this; cases this
  -- the memory that it may see
  generalize hV : viewP (fun j => Nat.testBit ((maskTree ops).get i) j && !Nat.testBit (stAt rs fin (ST ops rs S)).2.2.1 j) (stAt rs fin (ST ops rs S)).2.1 rs 0 = V
  have hVn : V.next = (XS ops rs fin S).next := by rw [← hV]; unfold XS; rw [viewP_next, viewP_next]
  have hVget : ∀ id, id < 65536 → V.get id = if n0 ≤ id ∧ (Nat.testBit ((maskTree ops).get i) (id - n0) && !Nat.testBit (stAt rs fin (ST ops rs S)).2.2.1 (id - n0)) = true ∧ (mkAt n0 rs id).isSome = true then mkAt n0 rs id else (stAt rs fin (ST ops rs S)).2.1.get id := fun id hid => by
    rw [← hV]; exact c.seeAt _ _ hid
  have hXget : ∀ id, id < 65536 → (XS ops rs fin S).get id = if n0 ≤ id ∧ (S (id - n0) && !Nat.testBit (stAt rs fin (ST ops rs S)).2.2.1 (id - n0)) = true ∧ (mkAt n0 rs id).isSome = true then mkAt n0 rs id else (stAt rs fin (ST ops rs S)).2.1.get id := fun id hid => by
    unfold XS; exact c.seeAt _ _ hid
  have hVsub : ∀ id k, id < 65536 → V.get id = some k → (XS ops rs fin S).get id = some k := fun id k hid hk => by
    rw [hVget id hid] at hk
    rw [hXget id hid]
    by_cases hcond : n0 ≤ id ∧ (Nat.testBit ((maskTree ops).get i) (id - n0) && !Nat.testBit (stAt rs fin (ST ops rs S)).2.2.1 (id - n0)) = true ∧ (mkAt n0 rs id).isSome = true
    · rw [if_pos hcond] at hk
      obtain ⟨h1, h2, h3⟩ := hcond
      rw [Bool.and_eq_true] at h2
      rw [if_pos ⟨h1, by rw [c.mask hS ho hready h2.1, h2.2]; rfl, h3⟩]
      exact hk
    · rw [if_neg hcond] at hk
      rw [if_neg, hk]
      rintro ⟨h1, h2, h3⟩
      rw [Bool.and_eq_true, Bool.not_eq_true'] at h2
      have e : id = n0 + (id - n0) := by omega
      rw [e] at h3
      have := inv.gone (id - n0) h3 h2.2
      rw [← e, hk] at this; cases this
  have hVr : HR σ ρ V w.heap := inv.hr.sub hVn hVsub
  unfold wpOp
  simp only [ho]
  -- where the stage stays
  have pbound : ∀ id p, ρ0 id = some p → p.b < w.heap.size := fun id p h => Nat.lt_of_lt_of_le (hr0.bound id p h) inv.st.size
  have stage : isActR rs i = false → ST ops rs S' = ST ops rs S := fun hna => by
    unfold ST
    refine stI_congr (fun b hb => ?_) _ _
    rw [hS' b]
    have : b ≠ i := fun e => by rw [e, hna] at hb; cases hb
    simp [this]
  have still : isActR rs i = false → (mkAt n0 rs (n0 + i)).isSome = false → ∀ (v' : Value), conc σ ρ r.v = some v' → Inv σ ops ap n0 rs fin f0 ρ0 H0 w0 ds S' (XS ops rs fin S') ρ (a.put o.dst v') w := fun hna hnm v' hv' => by
    have hst := stage hna
    have hX : XS ops rs fin S' = XS ops rs fin S := by
      unfold XS
      rw [hst]
      refine viewP_congr rs _ 0 (fun j r' id k hj hk => ?_)
      rw [Nat.zero_add, hS' j]
      have : j ≠ i := fun e => by
        subst e
        rw [mkAt_kind hj, hk] at hnm; cases hnm
      simp [this]
    obtain ⟨s1, s2, s3⟩ := slots' ρ v' (.refl _) hv'
    refine ⟨by rw [hX]; exact inv.hr, by rw [hX]; exact inv.st, by rw [hX]; exact inv.next, fun j h1 h2 => inv.fresh j h1 ?_, fun j h1 h2 => ?_, s1, s2, s3, fun ia id k h1 h2 => ?_⟩
    · rw [hS' j, Bool.or_eq_false_iff] at h2; exact h2.1
    · rw [hst] at h2 ⊢; exact inv.gone j h1 h2
    · rw [hX]
      rw [hS' ia, Bool.or_eq_false_iff] at h2
      exact inv.pend ia id k h1 h2.1
  rcases hc with ⟨hk, hw, hv, he⟩ | ⟨hk, hw, hact, hv, he⟩ | ⟨k, n, v, hk, hw, hact, hv, hvv, he⟩ | ⟨C2, hk, hw, hact, hA, hv, he⟩ | ⟨k, old, hk, hw, hhere, hv, he⟩ | ⟨id, k, hk, _⟩
  · -- it is passed over
    rw [if_neg (by rw [wantA_ok' hSL hw]; simp)]
    exact ⟨ρ, still (by simp [isActR, hr, hk]) (by rw [mkAt_kind hr, hk]; rfl) undef (by rw [hv]; rfl)⟩
  · -- a value
    rw [if_pos (wantA_ok' hSL hw)]
    refine .inl ?_
    have hfop : fop P r.f o V = some (.val r.v) := by
      cases hd : hdep o.op with
      | false => rw [fop_indep hd V (view ((maskTree ops).get i) r.M r.C (rs.take i) 0)]; exact hv
      | true =>
        have hflt := fltAll_spec c.flt i o r (by simpa using ho) hr hk hd
        rw [Nat.zero_add] at hflt
        have := fltAt_spec hflt _ (c.stageMem S) (Nat.eq_of_testBit_eq (fun j => ?_)) hMi
        · rw [view_eq, hV] at this; exact this
        · rw [bit_land, bit_land]
          simp only
          rw [c.stA hS j]
          cases h1 : Nat.testBit ((maskTree ops).get i) j with
          | false => simp
          | true =>
            have hSj := c.mask hS ho hready h1
            have hfin : stAt rs fin ops.size = fin := by unfold stAt; rw [List.getElem?_eq_none (by rw [c.len]; exact Nat.le_refl _)]
            have hb := (c.bits (Nat.le_refl ops.size)).1 j
            rw [hfin] at hb
            rw [hb, hSj]
            cases isActR rs j <;> simp
    refine wp_val (fop_run hs hVr hEV hfop) (fun v' hv' => ⟨ρ, still (by simp [isActR, hr, hk]) (by rw [mkAt_kind hr, hk]; rfl) v' hv'⟩)
  · -- a new block
    rw [if_pos (wantA_ok' hSL hw)]
    refine .inl ?_
    have hfop : fop P r.f o V = some (.new k n v) := fop_new hv V
    have hmk : mkAt n0 rs (n0 + i) = some k := by rw [mkAt_kind hr, hk]
    have hna : isActR rs i = false := by simp [isActR, hr, hk]
    have hst := stage hna
    obtain ⟨v', w', x, N, h1, h2, h3, h4⟩ := fop_run hs hVr hEV hfop
    have hfr := inv.fresh i (by rw [hmk]; rfl) hi
    obtain ⟨hb, hcv⟩ := h4 (n0 + i) hfr
    have hlt : n0 + i < (XS ops rs fin S).next := by have := inv.next; omega
    have g1 := HR.newAt inv.hr hlt hfr rfl hb
    have g2 := Step.newAt inv.hr inv.st (by omega) hlt hfr (k := k) (p := ⟨w.heap.size, 0, N⟩) rfl h2 h3
    have hXn : (XS ops rs fin S').next = (XS ops rs fin S).next := by unfold XS; rw [viewP_next, viewP_next, hst]
    have hXg : ∀ id, id < 65536 → (XS ops rs fin S').get id = ((XS ops rs fin S).put (n0 + i) k).get id := fun id hid => by
      have e1 : (XS ops rs fin S').get id = if n0 ≤ id ∧ (S' (id - n0) && !Nat.testBit (stAt rs fin (ST ops rs S')).2.2.1 (id - n0)) = true ∧ (mkAt n0 rs id).isSome = true then mkAt n0 rs id else (stAt rs fin (ST ops rs S')).2.1.get id := by
        unfold XS; exact c.seeAt _ _ hid
      rw [e1, hst, get_put (by omega) hid, hXget id hid]
      by_cases hid' : id = n0 + i
      · subst hid'
        rw [if_pos rfl, show n0 + i - n0 = i by omega, hMi, hS' i, hmk]
        simp
      · rw [if_neg hid']
        by_cases hle : n0 ≤ id
        · have : S' (id - n0) = S (id - n0) := by rw [hS' (id - n0)]; simp; omega
          rw [this]
        · rw [if_neg (fun h => hle h.1), if_neg (fun h => hle h.1)]
    unfold Oper.wp
    rw [h1]
    have hcv' : conc σ (ρ.with (n0 + i) ⟨w.heap.size, 0, N⟩) r.v = some v' := by rw [hvv]; exact hcv
    obtain ⟨s1, s2, s3⟩ := slots' _ v' (Place.with_le hfr) hcv'
    refine ⟨_, ⟨?_, ?_, ?_, fun j q1 q2 => ?_, fun j q1 q2 => ?_, s1, s2, s3, fun ia id k' q1 q2 => ?_⟩⟩
    · rw [h2]
      exact g1.sub hXn (fun id k' hid hk' => by rw [← hXg id hid]; exact hk')
    · exact g2.congr sX hXn hXg
    · rw [hXn]; exact inv.next
    · rw [hS' j, Bool.or_eq_false_iff] at q2
      have : j ≠ i := by have := q2.2; simpa using this
      rw [Place.with_ne (by omega)]
      exact inv.fresh j q1 q2.1
    · rw [hst] at q2 ⊢; exact inv.gone j q1 q2
    · rw [hS' ia, Bool.or_eq_false_iff] at q2
      obtain ⟨p, b1, b2, b3⟩ := inv.pend ia id k' q1 q2.1
      have hpb := pbound _ _ b1
      refine ⟨p, b1, ?_, fun j l q hj hl hq => ?_⟩
      · rw [h2, Array.getElem?_push_lt hpb, ← Array.getElem?_eq_getElem hpb]; exact b2
      · rw [hXn] at hj
        rw [hXg j (by omega), get_put (by omega) (by omega)] at hl
        by_cases hjn : j = n0 + i
        · rw [hjn, Place.with_self] at hq; cases hq
          show w.heap.size ≠ p.b
          omega
        · rw [if_neg hjn] at hl
          rw [Place.with_ne hjn] at hq
          exact b3 j l q hj hl hq
  · -- an act
    rw [if_pos (wantA_ok' hSL hw)]
    refine .inl ?_
    have hai : isActR rs i = true := by simp [isActR, hr, hk]
    have hnm : mkAt n0 rs (n0 + i) = none := by rw [mkAt_kind hr, hk]
    obtain ⟨t1, t2, t3⟩ := ST_spec (ops := ops) (rs := rs) S
    have before : ∀ b, b < i → isActR rs b = true → S b = true := fun b hb hab => by
      have hbit := (c.bits (i := i) (by omega)).1 b
      rw [stAt_get hr] at hbit
      simp only at hbit
      rw [hab] at hbit
      simp only [hb, decide_true, Bool.and_true] at hbit
      rw [← hA, bit_land, Bool.and_eq_true] at hbit
      exact c.mask hS ho hready hbit.1
    have hSTi : ST ops rs S = i := by
      have h1 : ¬ i < ST ops rs S := fun h => by have := t2 i h hai; rw [hi] at this; cases this
      rcases Nat.lt_or_ge (ST ops rs S) i with g | g
      · obtain ⟨k1, k2⟩ := t3 (by omega)
        have := before _ g k1
        rw [k2] at this; cases this
      · omega
    rw [hSTi] at hV hVget hXget hMi
    rw [stAt_get hr] at hV hVget hXget hMi
    simp only at hV hVget hXget hMi
    have hview : view ((maskTree ops).get i) r.M r.C (rs.take i) 0 = V := by
      rw [view_eq, viewP_take (fun j hj => ?_) (by rw [c.len]; omega), hV]
      have : Nat.testBit ((maskTree ops).get i) j = false := Nat.testBit_lt_two_pow (Nat.lt_of_lt_of_le (hmask i hib) (Nat.pow_le_pow_right (by omega) hj))
      rw [this]; rfl
    rw [hview] at hv
    have gone' : ∀ j, (mkAt n0 rs (n0 + j)).isSome = true → Nat.testBit r.M j = false → r.C.get (n0 + j) = none := fun j q1 q2 => by
      have := inv.gone j q1
      rw [hSTi, stAt_get hr] at this
      exact this q2
    refine aop_wp hs hcall hVr hEV hgok hv (fun ρ' v' w' g1 g2 g3 => ?_)
    -- the stage behind it
    obtain ⟨u1, u2, u3⟩ := ST_spec (ops := ops) (rs := rs) S'
    have hST' : i + 1 ≤ ST ops rs S' := by
      rcases Nat.lt_or_ge i (ST ops rs S') with g | g
      · exact g
      · obtain ⟨k1, k2⟩ := u3 (by omega)
        by_cases hb : ST ops rs S' = i
        · rw [hb, hS' i] at k2; simp at k2
        · have := before _ (by omega) k1
          rw [hS', this] at k2; simp at k2
    have hconst := st_const c.L c.len (i + 1) (ST ops rs S' - (i + 1)) (by omega) (fun j h1 h2 => by
      cases hj : isActR rs j with
      | false => rfl
      | true =>
        have := u2 j (by omega) hj
        rw [hS' j, Bool.or_eq_true] at this
        rcases this with h | h
        · have := (c.act_iff hS hj).1 h; omega
        · have : j = i := by simpa using h
          omega)
    rw [show i + 1 + (ST ops rs S' - (i + 1)) = ST ops rs S' by omega, he] at hconst
    simp only at hconst
    have hXn : (XS ops rs fin S').next = C2.next := by unfold XS; rw [viewP_next, hconst]
    have hXg : ∀ id, id < 65536 → (XS ops rs fin S').get id = if n0 ≤ id ∧ (S' (id - n0) && !Nat.testBit (Nat.lor r.M ((maskTree ops).get i)) (id - n0)) = true ∧ (mkAt n0 rs id).isSome = true then mkAt n0 rs id else C2.get id := fun id hid => by
      have e1 : (XS ops rs fin S').get id = if n0 ≤ id ∧ (S' (id - n0) && !Nat.testBit (stAt rs fin (ST ops rs S')).2.2.1 (id - n0)) = true ∧ (mkAt n0 rs id).isSome = true then mkAt n0 rs id else (stAt rs fin (ST ops rs S')).2.1.get id := by
        unfold XS; exact c.seeAt _ _ hid
      rw [e1, hconst]
    have beside : ∀ id k, id < 65536 → (XS ops rs fin S').get id = some k → C2.get id = some k ∨ (n0 ≤ id ∧ id < (XS ops rs fin S).next ∧ (XS ops rs fin S).get id = some k ∧ V.get id = none) := fun id k' hid hk' => by
      rw [hXg id hid] at hk'
      by_cases hcond : n0 ≤ id ∧ (S' (id - n0) && !Nat.testBit (Nat.lor r.M ((maskTree ops).get i)) (id - n0)) = true ∧ (mkAt n0 rs id).isSome = true
      · rw [if_pos hcond] at hk'
        obtain ⟨q1, q2, q3⟩ := hcond
        rw [Bool.and_eq_true, Bool.not_eq_true', bit_lor, Bool.or_eq_false_iff] at q2
        obtain ⟨q2, q4, q5⟩ := q2
        have e : id = n0 + (id - n0) := by omega
        have hne : id - n0 ≠ i := fun hh => by rw [e, hh, hnm] at q3; cases q3
        have hSj : S (id - n0) = true := by rw [hS'] at q2; simpa [hne] using q2
        have hjb := hS.bound _ hSj
        refine .inr ⟨q1, by have := inv.next; omega, ?_, ?_⟩
        · rw [hXget id hid, if_pos ⟨q1, by rw [hSj, q4]; rfl, q3⟩]; exact hk'
        · rw [hVget id hid, if_neg (fun h => by rw [q5] at h; exact absurd h.2.1 (by simp))]
          have := gone' (id - n0) (by rw [← e]; exact q3) q4
          rw [← e] at this; exact this
      · rw [if_neg hcond] at hk'
        exact .inl hk'
    obtain ⟨s1, s2, s3⟩ := slots' ρ' v' g2.ext g3
    refine ⟨ρ', ⟨?_, ?_, ?_, fun j q1 q2 => ?_, fun j q1 q2 => ?_, s1, s2, s3, fun ia id k' q1 q2 => ?_⟩⟩
    · exact HR.join inv.hr hVn hVsub g2 g1 hXn (fun id k' hid hk' => (beside id k' hid hk').imp (fun h => h) (fun h => h.2))
    · exact Step.join inv.hr inv.st hVn hVsub g2 g1 hXn (fun id k' hid hk' => by rw [hn0]; exact beside id k' hid hk') (fun id hid hk' => by
        rw [hXg id (by have := g1.small; have := inv.next; omega), if_neg (fun h => by omega)]; exact hk')
    · rw [hXn]; have := g2.more; have := inv.next; omega
    · rw [hS' j, Bool.or_eq_false_iff] at q2
      have hj := mkAt_lt q1
      rw [c.len] at hj
      rw [g2.same (n0 + j) (by have := inv.next; omega)]
      exact inv.fresh j q1 q2.1
    · rw [hconst] at q2 ⊢
      simp only at q2 ⊢
      rw [bit_lor, Bool.or_eq_false_iff] at q2
      have hj := mkAt_lt q1
      rw [c.len] at hj
      refine g2.dead (n0 + j) (by have := inv.next; omega) ?_
      have := c.room
      rw [hVget (n0 + j) (by omega), if_neg (fun h => by
        have h2 := h.2.1
        rw [show n0 + j - n0 = j by omega, q2.2] at h2
        exact absurd h2 (by simp))]
      exact gone' j q1 q2.1
    · rw [hS' ia, Bool.or_eq_false_iff] at q2
      obtain ⟨p, b1, b2, b3⟩ := inv.pend ia id k' q1 q2.1
      have hpb := pbound _ _ b1
      refine ⟨p, b1, ?_, fun j l q hj hl hq e => ?_⟩
      · rw [g2.keep p.b hpb (fun j l q hj hl hq e => b3 j l q (by omega) (hVsub j l (by omega) hl) hq e)]; exact b2
      · have hjs : j < 65536 := by have := g1.small; omega
        rcases beside j l hjs hl with h | ⟨h1, h2, h3, h4⟩
        · obtain ⟨j', l', q', c1, c2, c3, c4⟩ := g2.back j l q (by omega) h hq (by omega)
          exact b3 j' l' q' (by omega) (hVsub j' l' (by omega) c2) c3 (c4.trans e)
        · rw [g2.same j (by omega)] at hq
          exact b3 j l q h2 h3 hq e
  · -- an append in no order to an act
    rw [if_pos (wantA_ok' hSL hw)]
    refine .inl ?_
    have hai := apHere_spec hhere
    have hmk : mkAt n0 rs (n0 + i) = some k := by rw [mkAt_kind hr, hk]
    have hna : isActR rs i = false := by simp [isActR, hr, hk]
    have hst := stage hna
    have hfr := inv.fresh i (by rw [hmk]; rfl) hi
    have hlt : n0 + i < (XS ops rs fin S).next := by have := inv.next; omega
    have hroom := c.room
    have hXn : (XS ops rs fin S').next = (XS ops rs fin S).next := by unfold XS; rw [viewP_next, viewP_next, hst]
    have hXg : ∀ id, id < 65536 → (XS ops rs fin S').get id = ((XS ops rs fin S).put (n0 + i) k).get id := fun id hid => by
      have e1 : (XS ops rs fin S').get id = if n0 ≤ id ∧ (S' (id - n0) && !Nat.testBit (stAt rs fin (ST ops rs S')).2.2.1 (id - n0)) = true ∧ (mkAt n0 rs id).isSome = true then mkAt n0 rs id else (stAt rs fin (ST ops rs S')).2.1.get id := by
        unfold XS; exact c.seeAt _ _ hid
      rw [e1, hst, get_put (by omega) hid, hXget id hid]
      by_cases hid' : id = n0 + i
      · subst hid'
        rw [if_pos rfl, show n0 + i - n0 = i by omega, hMi, hS' i, hmk]
        simp
      · rw [if_neg hid']
        by_cases hle : n0 ≤ id
        · have : S' (id - n0) = S (id - n0) := by rw [hS' (id - n0)]; simp; omega
          rw [this]
        · rw [if_neg (fun h => hle h.1), if_neg (fun h => hle h.1)]
    have hsafe := c.safe i old hai
    refine fappA_wp (X := XS ops rs fin S) (ρ0 := ρ0) (w0 := w0) (H0 := H0) hs hEV hv inv.hr hlt hfr inv.st (by omega) hr0 (fun id kk e => ?_) (fun j kk hj hjk => ?_) (fun q v' w' g1 g2 g3 => ?_)
    · subst e
      obtain ⟨a1, a2⟩ := hapo i id kk hai
      obtain ⟨p, b1, b2, b3⟩ := inv.pend i id kk hai hi
      exact ⟨a1, a2, p, b1, b2, b3⟩
    · rw [view_eq, viewP_take (fun j hj => ?_) (by rw [c.len]; omega), c.seeAt _ _ hj] at hjk
      · split at hjk
        · rename_i hcond
          obtain ⟨h1, h2, h3⟩ := hcond
          rw [Bool.and_eq_true] at h2
          have hjm := h2.1
          have hji : j - n0 < i := by
            rcases Nat.lt_or_ge (j - n0) i with g | g
            · exact g
            · rw [Nat.testBit_lt_two_pow (Nat.lt_of_lt_of_le (hmask i hib) (Nat.pow_le_pow_right (by omega) g))] at hjm; cases hjm
          have hSj := c.mask hS ho hready hjm
          have hMj : Nat.testBit (stAt rs fin (ST ops rs S)).2.2.1 (j - n0) = false := by
            cases hb : Nat.testBit (stAt rs fin (ST ops rs S)).2.2.1 (j - n0) with
            | false => rfl
            | true =>
              obtain ⟨b, d1, d2, d3⟩ := (c.stM hS (j - n0)).1 hb
              obtain ⟨ob, _, _, _, d4, _, _, _, _, d5, _⟩ := c.act d1
              rcases appSafe_spec ops.toList 0 hsafe b ob (by simpa using d4) d5 with e | e | e
              · rw [Nat.zero_add] at e; subst e; rw [hi] at d2; cases d2
              · rw [Nat.zero_add] at e
                have := c.maskS hS d2 e
                rw [hi] at this; cases this
              · rw [Nat.zero_add] at e
                have : Nat.testBit (Nat.land ((maskTree ops).get b) ((maskTree ops).get i)) (j - n0) = true := by rw [bit_land, d3, hjm]; rfl
                rw [e] at this; simp at this
          refine ⟨by omega, by omega, ?_⟩
          rw [hXget j hj, if_pos ⟨h1, by rw [hSj, hMj]; rfl, h3⟩]; exact hjk
        · have : (⟨.leaf none, n0 + i⟩ : Heap).get j = none := rfl
          rw [this] at hjk; cases hjk
      · have : Nat.testBit ((maskTree ops).get i) j = false := Nat.testBit_lt_two_pow (Nat.lt_of_lt_of_le (hmask i hib) (Nat.pow_le_pow_right (by omega) hj))
        rw [this]; rfl
    · obtain ⟨s1, s2, s3⟩ := slots' _ v' (Place.with_le hfr) g3
      refine ⟨_, ⟨?_, ?_, ?_, fun j q1 q2 => ?_, fun j q1 q2 => ?_, s1, s2, s3, fun ia id k' q1 q2 => ?_⟩⟩
      · exact g1.sub hXn (fun id k' hid hk' => by rw [← hXg id hid]; exact hk')
      · exact g2.congr sX hXn hXg
      · rw [hXn]; exact inv.next
      · rw [hS' j, Bool.or_eq_false_iff] at q2
        have : j ≠ i := by have := q2.2; simpa using this
        rw [Place.with_ne (by omega)]
        exact inv.fresh j q1 q2.1
      · rw [hst] at q2 ⊢; exact inv.gone j q1 q2
      · rw [hai] at q1
        cases q1
        rw [hS' i] at q2; simp at q2
  · exact absurd hk (hnl r id k hr)

/-- What it looks at. -/
theorem Ctx.sees (c : Ctx P call ops ap n0 rs fin f0 C0) (hsz : f0.sz ≤ 512) (hS : SOK ops S) {X : Heap} (inv : Inv σ ops ap n0 rs fin f0 ρ0 H0 w0 ds S X ρ a w) {i : Nat} {o : Oper} {r : Rec} (ho : ops[i]? = some o) (hr : rs[i]? = some r) (hready : ∀ e, e ∈ o.after → Region.binds .any e = true → S e.on = true) (hi : S i = false) :
    SL σ ρ r.f a (o.looksAt ops) ∧ r.f.g = f0.g := by
  have hib : i < ops.size := (Array.getElem?_eq_some_iff.1 ho).1
  obtain ⟨fr1, fr2, fr3⟩ := c.frame hsz i (by omega)
  rw [stAt_get hr] at fr1 fr2 fr3
  simp only at fr1 fr2 fr3
  refine ⟨fun d hd v hv => ?_, fr2⟩
  unfold Fr.get at hv
  split at hv
  · rename_i hlt
    cases hv
    have hlt := bl hlt
    rw [fr1] at hlt
    obtain ⟨x, h1, h2⟩ := inv.slots d hlt
    rw [c.slot hS ho hready hi hd ops.size (Nat.le_refl _), Nat.min_eq_right (by omega), ← fr3 d hlt] at h2
    exact ⟨x, h1, h2⟩
  · cases hv
theorem Ctx.slots' (c : Ctx P call ops ap n0 rs fin f0 C0) (hS : SOK ops S) {X : Heap} (inv : Inv σ ops ap n0 rs fin f0 ρ0 H0 w0 ds S X ρ a w) {i : Nat} {o : Oper} {r : Rec} (ho : ops[i]? = some o) (hr : rs[i]? = some r) (hi : S i = false) {S' : Nat → Bool} (hS' : ∀ j, S' j = (S j || decide (j = i)))
    (ρ' : Place) (v' : Value) (hle : ρ.le ρ') (hv' : conc σ ρ' r.v = some v') : (a.put o.dst v').tmps.size = f0.sz ∧ (∀ t, t < f0.sz → ∃ v, (a.put o.dst v').tmps[t]? = some v ∧ conc σ ρ' (valS ops rs f0 S' t ops.size) = some v) ∧ (a.put o.dst v').defers = ds := by
  have hib : i < ops.size := (Array.getElem?_eq_some_iff.1 ho).1
  have hd : (a.put o.dst v').defers = ds := by rw [← inv.defers]; cases o.dst <;> rfl
  refine ⟨?_, fun t ht => ?_, hd⟩
  · rw [← inv.size]; cases o.dst <;> simp [Act.put]
  · rw [c.slotPut hS ho hr hi hS' t ops.size (Nat.le_refl _)]
    obtain ⟨x, h1, h2⟩ := inv.slots t ht
    cases hdst : o.dst with
    | none =>
      rw [if_neg (by simp)]
      exact ⟨x, h1, conc_mono hle _ _ h2⟩
    | some d =>
      by_cases hdt : d = t
      · subst hdt
        rw [if_pos ⟨hib, rfl⟩]
        exact ⟨v', by simp [Act.put, inv.size, ht], hv'⟩
      · rw [if_neg (by simp [hdt])]
        exact ⟨x, by simp [Act.put, Array.getElem?_setIfInBounds_ne hdt, h1], conc_mono hle _ _ h2⟩
theorem ST_same {i : Nat} {S' : Nat → Bool} (hS' : ∀ j, S' j = (S j || decide (j = i))) (hna : isActR rs i = false) : ST ops rs S' = ST ops rs S := by
  unfold ST
  refine stI_congr (fun b hb => ?_) _ _
  rw [hS' b]
  have : b ≠ i := fun e => by rw [e, hna] at hb; cases hb
  simp [this]
theorem XS_same {i : Nat} {r : Rec} (hr : rs[i]? = some r) {S' : Nat → Bool} (hS' : ∀ j, S' j = (S j || decide (j = i))) (hna : isActR rs i = false) (hnm : ∀ id k, r.kd ≠ .mk id k) : XS ops rs fin S' = XS ops rs fin S := by
  unfold XS
  rw [ST_same hS' hna]
  refine viewP_congr rs _ 0 (fun j r' id k hj hk => ?_)
  rw [Nat.zero_add, hS' j]
  have : j ≠ i := fun e => by
    subst e
    rw [hr] at hj; cases hj
    exact hnm id k hk
  simp [this]
/-- A step that turns one block and leaves what it does not see. -/
theorem Step.join2 {ρ' : Place} {X Y Z C : Heap} {w' : World} (hx : HR σ ρ X w.heap) (h0 : Step ρ0 H0 w0 ρ X w) (hn : Y.next = X.next) (hsub : ∀ i k, i < 65536 → Y.get i = some k → X.get i = some k) (hst : Step ρ Y w ρ' C w') (hc : HR σ ρ' C w'.heap) (hz : Z.next = C.next)
    (hzg : ∀ i k, i < 65536 → Z.get i = some k → C.get i = some k ∨ (i < X.next ∧ X.get i = some k ∧ Y.get i = none)) : Step ρ0 H0 w0 ρ' Z w' := by
  have s := hc.small
  have sx := hx.small
  have hm := h0.more
  refine ⟨h0.ext.trans hst.ext, Nat.le_trans h0.size hst.size, fun c hc' hne => ?_, fun i k p hi e hp hb => ?_, ⟨hst.rest.1.trans h0.rest.1, hst.rest.2.1.trans h0.rest.2.1, hst.rest.2.2.trans h0.rest.2.2⟩, ?_, fun i hi => ?_, fun i hi e => ?_, fun i k p c ty f hi hk hp h => ?_⟩
  · rw [hst.keep c (Nat.lt_of_lt_of_le hc' h0.size) (fun j l q hj hl hq hqc => ?_), h0.keep c hc' hne]
    have hj' : j < X.next := hn ▸ hj
    obtain ⟨j', l', q', h1, h2, h3, h4⟩ := h0.back j l q hj' (hsub j l (by omega) hl) hq (hqc ▸ hc')
    exact hne j' l' q' h1 h2 h3 (h4.trans hqc)
  · rw [hz] at hi
    rcases hzg i k (by omega) e with a | ⟨a1, a2, a3⟩
    · obtain ⟨j, l, q, h1, h2, h3, h4⟩ := hst.back i k p hi a hp (Nat.lt_of_lt_of_le hb h0.size)
      have h1' : j < X.next := hn ▸ h1
      obtain ⟨j', l', q', g1, g2, g3, g4⟩ := h0.back j l q h1' (hsub j l (by omega) h2) h3 (h4 ▸ hb)
      exact ⟨j', l', q', g1, g2, g3, g4.trans h4⟩
    · obtain ⟨q, hq, _⟩ := hx.live i k a1 a2
      have := hst.ext i q hq
      rw [hp] at this; cases this
      exact h0.back i k p a1 a2 hq hb
  · rw [hz]; exact Nat.le_trans h0.more (hn ▸ hst.more)
  · rw [hst.same i (by rw [hn]; exact Nat.lt_of_lt_of_le hi h0.more), h0.same i hi]
  · have hx0 := h0.dead i hi e
    cases hg : Z.get i with
    | none => rfl
    | some k =>
      rcases hzg i k (by omega) hg with a | ⟨_, a2, _⟩
      · cases hy : Y.get i with
        | none => rw [hst.dead i (by omega) hy] at a; cases a
        | some k2 => rw [hsub i k2 (by omega) hy] at hx0; cases hx0
      · rw [hx0] at a2; cases a2
  · rcases hzg i k (by omega) hk with a | ⟨a1, a2, a3⟩
    · cases e : Y.get i with
      | none => rw [hst.dead i (by omega) e] at a; cases a
      | some k2 =>
        obtain ⟨c1, h1⟩ := h0.cells i k2 p c ty f hi (hsub i k2 (by omega) e) hp h
        exact hst.cells i k p c1 ty f (by omega) a ((h0.same i hi).trans hp) h1
    · obtain ⟨c1, h1⟩ := h0.cells i k p c ty f hi a2 hp h
      have hp' := h0.ext i p hp
      refine ⟨c1, ?_⟩
      rw [hst.keep p.b (hx.bound i p hp') (fun j l q hj hl hq e => ?_)]
      · exact h1
      · have hj' : j < X.next := hn ▸ hj
        have := hx.inj j i l k q p hj' a1 (hsub j l (by omega) hl) a2 hq hp' e
        subst this
        rw [a3] at hl; cases hl

theorem Ctx.step (c : Ctx P call ops ap n0 rs fin f0 C0) (hs : ∀ i, (σ i).oneCell' = true) (hcall : CallsOK σ P G call) (hsz : f0.sz ≤ 512) (hG : f0.g = G) (hG0 : GOK G ρ0) (hn0 : H0.next = n0) (hr0 : HR σ ρ0 H0 w0.heap) (hapo : ∀ ia id k, ap.app = some (ia, some (id, k)) → id < H0.next ∧ H0.get id = some k) (hS : SOK ops S)
    (inv : Inv σ ops ap n0 rs fin f0 ρ0 H0 w0 ds S (XL ops rs fin S) ρ a w) {i : Nat} {o : Oper} (ho : ops[i]? = some o) (hready : ∀ e, e ∈ o.after → Region.binds .any e = true → S e.on = true) (hi : S i = false) {S' : Nat → Bool} (hS' : ∀ j, S' j = (S j || decide (j = i))) :
    wpOp P ops Q i (fun a' w' => ∃ ρ', Inv σ ops ap n0 rs fin f0 ρ0 H0 w0 ds S' (XL ops rs fin S') ρ' a' w') a w := by
  have hib : i < ops.size := (Array.getElem?_eq_some_iff.1 ho).1
  obtain ⟨_, r, _, hr⟩ := c.pair hib
  obtain ⟨f2, hput, hc⟩ := c.L.each i o r (Nat.zero_le _) ho hr
  -- all that acts, makes, looks
  have heavy : ((∃ id k, r.kd = .mk id k) ∨ r.kd = .act ∨ (r.kd = .flt ∧ hdep o.op = true)) → wpOp P ops Q i (fun a' w' => ∃ ρ', Inv σ ops ap n0 rs fin f0 ρ0 H0 w0 ds S' (XL ops rs fin S') ρ' a' w') a w := fun hk => by
    have hno := c.noLate hS ho hr hi hk
    have hnl : ∀ id k, r.kd ≠ .late id k := fun id k e => by
      rcases hk with ⟨a, b, h⟩ | h | ⟨h, _⟩ <;> rw [h] at e <;> cases e
    have e1 : XL ops rs fin S = XS ops rs fin S := latePl_none rs 0 _ (fun j r' id k hj hk' => by rw [Nat.zero_add]; exact hno j r' id k hj hk')
    have e2 : XL ops rs fin S' = XS ops rs fin S' := latePl_none rs 0 _ (fun j r' id k hj hk' => by
      rw [Nat.zero_add, hS' j, hno j r' id k hj hk']
      have : j ≠ i := fun e => by
        subst e
        rw [hr] at hj; cases hj
        exact hnl id k hk'
      simp [this])
    rw [e1] at inv
    rw [e2]
    exact c.step0 hs hcall hsz hG hG0 hn0 hr0 hapo hS inv ho hready hi hS' (fun r' id k hr' => by
      rw [hr] at hr'; cases hr'
      exact hnl id k)
  obtain ⟨hSL, hfg⟩ := c.sees hsz hS inv ho hr hready hi
  have hgok : GOK G ρ := hG0.mono inv.st.ext
  have hEV := hSL.ev (fun g id hg => hgok g id (by rw [← hG, ← hfg]; exact hg))
  have still : isActR rs i = false → (∀ id k, r.kd ≠ .mk id k) → (∀ id k, r.kd ≠ .late id k) → ∀ (v' : Value), conc σ ρ r.v = some v' → Inv σ ops ap n0 rs fin f0 ρ0 H0 w0 ds S' (XL ops rs fin S') ρ (a.put o.dst v') w := fun hna hnm hnl v' hv' => by
    have hst := ST_same (ops := ops) hS' hna
    have hX : XL ops rs fin S' = XL ops rs fin S := by
      unfold XL
      rw [XS_same hr hS' hna hnm]
      have key : ∀ (l : List Rec) (k : Nat) (H : Heap), (∀ j r' id b, l[j]? = some r' → r'.kd = .late id b → S' (k + j) = S (k + j)) → latePl S' l k H = latePl S l k H := by
        intro l
        induction l with
        | nil => intros; rfl
        | cons x l ih =>
          intro k H h
          have ih := fun H => ih (k + 1) H (fun j r' id b hj hb => by
            have := h (j + 1) r' id b (by simpa using hj) hb
            rw [show k + 1 + j = k + (j + 1) by omega]; exact this)
          rw [latePl_cons, latePl_cons]
          cases hx : x.kd with
          | late id b =>
            have := h 0 x id b rfl hx
            rw [Nat.add_zero] at this
            simp only [this]
            cases S k <;> exact ih _
          | _ => exact ih _
      refine key rs 0 _ (fun j r' id b hj hb => ?_)
      rw [Nat.zero_add, hS' j]
      have : j ≠ i := fun e => by
        subst e
        rw [hr] at hj; cases hj
        exact hnl id b hb
      simp [this]
    obtain ⟨s1, s2, s3⟩ := c.slots' hS inv ho hr hi hS' ρ v' (.refl _) hv'
    refine ⟨by rw [hX]; exact inv.hr, by rw [hX]; exact inv.st, by rw [hX]; exact inv.next, fun j h1 h2 => inv.fresh j h1 ?_, fun j h1 h2 => ?_, s1, s2, s3, fun ia id k h1 h2 => ?_⟩
    · rw [hS' j, Bool.or_eq_false_iff] at h2; exact h2.1
    · rw [hst] at h2 ⊢; exact inv.gone j h1 h2
    · rw [hX]
      rw [hS' ia, Bool.or_eq_false_iff] at h2
      exact inv.pend ia id k h1 h2.1
  rcases hc with ⟨hk, hw, hv, he⟩ | ⟨hk, hw, hact, hv, he⟩ | ⟨k, n, v, hk, _⟩ | ⟨C2, hk, _⟩ | ⟨k, old, hk, _⟩ | ⟨id, k, hk, hw, hlt, hv, he⟩
  · -- it is passed over
    unfold wpOp
    simp only [ho]
    rw [if_neg (by rw [wantA_ok' hSL hw]; simp)]
    exact ⟨ρ, still (by simp [isActR, hr, hk]) (fun _ _ e => by rw [hk] at e; cases e) (fun _ _ e => by rw [hk] at e; cases e) undef (by rw [hv]; rfl)⟩
  · -- a value
    cases hd : hdep o.op with
    | true => exact heavy (.inr (.inr ⟨hk, hd⟩))
    | false =>
      unfold wpOp
      simp only [ho]
      rw [if_pos (wantA_ok' hSL hw)]
      refine .inl ?_
      have hfop : fop P r.f o (XL ops rs fin S) = some (.val r.v) := by rw [fop_indep hd _ (view ((maskTree ops).get i) r.M r.C (rs.take i) 0)]; exact hv
      refine wp_val (fop_run hs inv.hr hEV hfop) (fun v' hv' => ⟨ρ, still (by simp [isActR, hr, hk]) (fun _ _ e => by rw [hk] at e; cases e) (fun _ _ e => by rw [hk] at e; cases e) v' hv'⟩)
  · exact heavy (.inl ⟨_, _, hk⟩)
  · exact heavy (.inr (.inl hk))
  · exact heavy (.inl ⟨_, _, hk⟩)
  · -- a store that comes last
    have sX := inv.hr.small
    have hna : isActR rs i = false := by simp [isActR, hr, hk]
    have hnm : ∀ id k, r.kd ≠ .mk id k := fun _ _ e => by rw [hk] at e; cases e
    have hst := ST_same (ops := ops) hS' hna
    have hid := c.lid i r id k hr hk
    obtain ⟨h256, hmask, _⟩ := orderly_spec c.ord
    unfold wpOp
    simp only [ho]
    rw [if_pos (wantA_ok' hSL hw)]
    refine .inl ?_
    unfold lateA at hv
    split at hv
    case h_2 => cases hv
    rename_i ty ax x hop
    split at hv
    case h_2 => cases hv
    rename_i id1 off hax
    split at hv
    case h_2 => cases hv
    rename_i k0 hV hb
    split at hv
    case h_2 => cases hv
    rename_i v1 C hao
    split at hv
    case h_2 => cases hv
    rename_i k1 hget hnext
    cases hv
    have hnext := Nat.eq_of_beq_eq_true hnext
    have hnext : C.next = (view ((maskTree ops).get i) r.M r.C (rs.take i) 0).next := hnext
    rw [Bool.and_eq_true] at hb
    -- the stage is the last
    have hacts : ∀ b, isActR rs b = true → S b = true ∧ b < i := fun b hb => by
      obtain ⟨ob, rb, _, _, d1, d2, _⟩ := c.act hb
      have hkb : rb.kd = .act := by
        unfold isActR at hb
        rw [d2] at hb
        simp only at hb
        split at hb
        · assumption
        · cases hb
      have h := c.lfact hr hk d1 d2
      unfold lateFact at h
      rw [hkb] at h
      refine ⟨c.mask hS ho hready h, ?_⟩
      rcases Nat.lt_or_ge b i with g | g
      · exact g
      · rw [Nat.testBit_lt_two_pow (Nat.lt_of_lt_of_le (hmask i hib) (Nat.pow_le_pow_right (by omega) g))] at h; cases h
    obtain ⟨t1, t2, t3⟩ := ST_spec (ops := ops) (rs := rs) S
    have hSTn : ST ops rs S = ops.size := by
      rcases Nat.lt_or_ge (ST ops rs S) ops.size with g | g
      · obtain ⟨k1, k2⟩ := t3 g
        rw [(hacts _ k1).1] at k2; cases k2
      · omega
    have hsame : (stAt rs fin (ST ops rs S)).2 = (r.C, r.M, r.A) := by
      have := st_const c.L c.len i (ops.size - i) (by omega) (fun j h1 h2 => by
        cases hj : isActR rs j with
        | false => rfl
        | true => have := (hacts j hj).2; omega)
      rw [show i + (ops.size - i) = ops.size by omega, stAt_get hr] at this
      rw [hSTn]; exact this
    have hM0 : (stAt rs fin (ST ops rs S)).2.2.1 = r.M := by rw [hsame]
    have hC0 : (stAt rs fin (ST ops rs S)).2.1 = r.C := by rw [hsame]
    -- the block is as the run saw it
    have hother : ∀ j r' id' k', rs[j]? = some r' → r'.kd = .late id' k' → j = i ∨ id' ≠ id := fun j r' id' k' hj hk' => by
      obtain ⟨oj, _, h1, _⟩ := c.pair (i := j) (by rw [← c.len]; exact (List.getElem?_eq_some_iff.1 hj).1)
      have h := c.lfact hr hk h1 hj
      unfold lateFact at h
      rw [hk'] at h
      exact h
    have hXS : (XS ops rs fin S).get id = some k0 := by
      rw [view_eq, viewP_take (fun j hj => ?_) (by rw [c.len]; omega), c.seeAt _ _ hid] at hV
      · unfold XS
        rw [c.seeAt _ _ hid, hM0, hC0]
        by_cases hcond : n0 ≤ id ∧ (Nat.testBit ((maskTree ops).get i) (id - n0) && !Nat.testBit r.M (id - n0)) = true ∧ (mkAt n0 rs id).isSome = true
        · rw [if_pos hcond] at hV
          obtain ⟨h1, h2, h3⟩ := hcond
          rw [Bool.and_eq_true] at h2
          rw [if_pos ⟨h1, by rw [c.mask hS ho hready h2.1, h2.2]; rfl, h3⟩]
          exact hV
        · rw [if_neg hcond] at hV
          rw [if_neg, hV]
          rintro ⟨h1, h2, h3⟩
          rw [Bool.and_eq_true, Bool.not_eq_true'] at h2
          have e : id = n0 + (id - n0) := by omega
          rw [e] at h3
          have := inv.gone (id - n0) h3 (by rw [hM0]; exact h2.2)
          rw [hC0, ← e, hV] at this; cases this
      · have : Nat.testBit ((maskTree ops).get i) j = false := Nat.testBit_lt_two_pow (Nat.lt_of_lt_of_le (hmask i hib) (Nat.pow_le_pow_right (by omega) hj))
        rw [this]; rfl
    have hXL : (XL ops rs fin S).get id = some k0 := by
      unfold XL
      rw [latePl_rel (p := S) (q := fun _ => false) hid rs 0 _ (XS ops rs fin S) rfl (fun j r' id' k' hj hk' => ⟨c.lid j r' id' k' hj hk', ?_⟩), latePl_none rs 0 _ (fun _ _ _ _ _ _ => rfl)]
      · exact hXS
      · rcases hother j r' id' k' hj hk' with e | e
        · subst e
          rw [Nat.zero_add]
          exact .inl hi
        · exact .inr e
    have hVX : (view ((maskTree ops).get i) r.M r.C (rs.take i) 0).next = (XL ops rs fin S).next := by
      unfold XL
      rw [latePl_next]
      unfold XS
      rw [viewP_next, view_eq, viewP_next, hC0]
    generalize hY : ((⟨.leaf none, (view ((maskTree ops).get i) r.M r.C (rs.take i) 0).next⟩ : Heap).put id k0) = Y at hao
    have hYn : Y.next = (XL ops rs fin S).next := by rw [← hY]; exact hVX
    have hYg : ∀ m, m < 65536 → Y.get m = if m = id then some k0 else none := fun m hm => by
      rw [← hY, get_put hid hm]
      rfl
    have hYsub : ∀ m l, m < 65536 → Y.get m = some l → (XL ops rs fin S).get m = some l := fun m l hm hl => by
      rw [hYg m hm] at hl
      split at hl
      · rename_i e; subst e; rw [hXL]; exact hl
      · cases hl
    have hYr : HR σ ρ Y w.heap := inv.hr.sub hYn hYsub
    refine aop_wp hs (call := fun _ _ _ => none) (fun _ _ _ _ _ h => by cases h) hYr hEV hgok hao (fun ρ' v' w' g1 g2 g3 => ?_)
    have hXn : (XL ops rs fin S').next = (XL ops rs fin S).next := by
      unfold XL
      rw [latePl_next, latePl_next, XS_same hr hS' hna hnm]
    have hCn : C.next = (XL ops rs fin S).next := by rw [hnext, hVX]
    have hXg : ∀ m, m < 65536 → (XL ops rs fin S').get m = if m = id then some k else (XL ops rs fin S).get m := fun m hm => by
      unfold XL
      rw [XS_same hr hS' hna hnm]
      by_cases e : m = id
      · subst e
        rw [if_pos rfl]
        refine latePl_at hm rs 0 _ i r hr hk (by rw [Nat.zero_add, hS' i]; simp) (fun j r' id' k' hj hk' => ⟨c.lid j r' id' k' hj hk', hother j r' id' k' hj hk'⟩)
      · rw [if_neg e]
        refine latePl_rel hm rs 0 _ _ rfl (fun j r' id' k' hj hk' => ⟨c.lid j r' id' k' hj hk', ?_⟩)
        rw [Nat.zero_add, hS' j]
        by_cases hj' : j = i
        · subst hj'
          rw [hr] at hj; cases hj
          rw [hk] at hk'; cases hk'
          exact .inr (fun x => e x.symm)
        · exact .inl (by simp [hj'])
    have beside : ∀ m l, m < 65536 → (XL ops rs fin S').get m = some l → C.get m = some l ∨ (m < (XL ops rs fin S).next ∧ (XL ops rs fin S).get m = some l ∧ Y.get m = none) := fun m l hm hl => by
      rw [hXg m hm] at hl
      split at hl
      · rename_i e; subst e; cases hl; exact .inl hget
      · rename_i e
        refine .inr ⟨?_, hl, by rw [hYg m hm, if_neg e]⟩
        rcases Nat.lt_or_ge m (XL ops rs fin S).next with g | g
        · exact g
        · rw [inv.hr.out m g hm] at hl; cases hl
    obtain ⟨s1, s2, s3⟩ := c.slots' hS inv ho hr hi hS' ρ' v' g2.ext g3
    refine ⟨ρ', ⟨?_, ?_, ?_, fun j q1 q2 => ?_, fun j q1 q2 => ?_, s1, s2, s3, fun ia id' k' q1 q2 => ?_⟩⟩
    · exact HR.join inv.hr hYn hYsub g2 g1 (by rw [hXn, hCn]) beside
    · exact Step.join2 inv.hr inv.st hYn hYsub g2 g1 (by rw [hXn, hCn]) beside
    · rw [hXn]; exact inv.next
    · rw [hS' j, Bool.or_eq_false_iff] at q2
      have hj := mkAt_lt q1
      rw [c.len] at hj
      rw [g2.same (n0 + j) (by have := inv.next; omega)]
      exact inv.fresh j q1 q2.1
    · rw [hst] at q2 ⊢; exact inv.gone j q1 q2
    · rw [hS' ia, Bool.or_eq_false_iff] at q2
      obtain ⟨p, b1, b2, b3⟩ := inv.pend ia id' k' q1 q2.1
      have hpb : p.b < w.heap.size := Nat.lt_of_lt_of_le (hr0.bound id' p b1) inv.st.size
      refine ⟨p, b1, ?_, fun j l q hj hl hq e => ?_⟩
      · rw [g2.keep p.b hpb (fun j l q hj hl hq e => b3 j l q (by omega) (hYsub j l (by omega) hl) hq e)]; exact b2
      · have hjs : j < 65536 := by have := g1.small; omega
        rcases beside j l hjs hl with h | ⟨h2, h3, h4⟩
        · obtain ⟨j', l', q', c1, c2, c3, c4⟩ := g2.back j l q (by omega) h hq (by omega)
          exact b3 j' l' q' (by omega) (hYsub j' l' (by omega) c2) c3 (c4.trans e)
        · rw [g2.same j (by omega)] at hq
          exact b3 j l q h2 h3 hq e
end
end Ev
end Go.Proofs.YtpppaheennkkpaaGreatDoor
