/- A statement whose order Go leaves open: what holds ahead of each operation, whichever comes. -/
import Derived.Test.YtikmamcbngbipaaGreatDoorEW
import Derived.StillTail
namespace Go.Proofs.YtikmamcbngbipaaGreatDoor
namespace Ev

/-- The run's print of a statement. -/
structure Ctx (P : Program) (call : FuncId → List AV → Heap → Option (AV × Heap)) (ops : Array Oper) (n0 : Nat) (rs : List Rec) (fin : Fr × Heap × Nat × Nat) (f0 : Fr) (C0 : Heap) : Prop where
  L : Laid P call ops (maskTree ops) n0 rs fin 0
  len : rs.length = ops.size
  z : stAt rs fin 0 = (f0, C0, 0, 0)
  ord : orderly ops = true
  flt : fltAll P (maskTree ops) fin.2.2.2 rs (stages rs ++ [⟨fin.2.1, fin.2.2.1, fin.2.2.2⟩]) ops.toList rs 0 = true
  room : n0 + ops.size ≤ 65536

/-- What a slot holds when some operations were done. -/
noncomputable def valS (ops : Array Oper) (rs : List Rec) (f0 : Fr) (S : Nat → Bool) (t : Nat) : Nat → AV
  | 0 => f0.t.get t
  | n + 1 => match ops[n]?, rs[n]? with
    | some o, some r => if S n = true ∧ o.dst = some t then r.v else valS ops rs f0 S t n
    | _, _ => valS ops rs f0 S t n
noncomputable def ST (ops : Array Oper) (rs : List Rec) (S : Nat → Bool) : Nat := stI rs S 0 ops.size
noncomputable def XS (ops : Array Oper) (rs : List Rec) (fin : Fr × Heap × Nat × Nat) (S : Nat → Bool) : Heap :=
  viewP (fun j => S j && !Nat.testBit (stAt rs fin (ST ops rs S)).2.2.1 j) (stAt rs fin (ST ops rs S)).2.1 rs 0

section
variable {σ : Nat → Value} {ρ : Place} {P : Program} {G : Nat → Option Nat} {call : FuncId → List AV → Heap → Option (AV × Heap)} {ops : Array Oper} {n0 : Nat} {rs : List Rec} {fin : Fr × Heap × Nat × Nat} {f0 : Fr} {C0 : Heap} {S : Nat → Bool}

theorem Ctx.pair (c : Ctx P call ops n0 rs fin f0 C0) {i : Nat} (hi : i < ops.size) : ∃ o r, ops[i]? = some o ∧ rs[i]? = some r :=
  ⟨_, _, Array.getElem?_eq_getElem hi, List.getElem?_eq_getElem (by rw [c.len]; exact hi)⟩
theorem Ctx.kid (c : Ctx P call ops n0 rs fin f0 C0) : ∀ j r id k, rs[j]? = some r → r.kd = .mk id k → id = n0 + j := fun j r id k hr hk => by
  have hj : j < ops.size := by rw [← c.len]; exact (List.getElem?_eq_some_iff.1 hr).1
  obtain ⟨f2, _, hc⟩ := c.L.each j _ r (Nat.zero_le _) (Array.getElem?_eq_getElem hj) hr
  rcases hc with ⟨h, _⟩ | ⟨h, _⟩ | ⟨k', n, v, h, _⟩ | ⟨C2, h, _⟩ <;> rw [hk] at h <;> cases h
  rfl
theorem Ctx.bits (c : Ctx P call ops n0 rs fin f0 C0) {i : Nat} (hi : i ≤ ops.size) :
    (∀ j, Nat.testBit (stAt rs fin i).2.2.2 j = (decide (j < i) && isActR rs j)) ∧ (∀ j, Nat.testBit (stAt rs fin i).2.2.1 j = true ↔ ∃ a, a < i ∧ isActR rs a = true ∧ Nat.testBit ((maskTree ops).get a) j = true) :=
  st_bits c.L c.len (by rw [c.z]) i hi
theorem Ctx.seeAt (c : Ctx P call ops n0 rs fin f0 C0) (p : Nat → Bool) (C : Heap) {id : Nat} (hid : id < 65536) :
    (viewP p C rs 0).get id = if n0 ≤ id ∧ p (id - n0) = true ∧ (mkAt n0 rs id).isSome = true then mkAt n0 rs id else C.get id := by
  have := viewP_get (n0 := n0) p rs [] C (by simpa [c.len] using c.room) (by simpa using c.kid) id hid
  simpa using this
theorem put_same {f f2 : Fr} {dst : Option Nat} {v : AV} (h : f.put dst v = some f2) : f2.sz = f.sz ∧ f2.g = f.g ∧ (f.sz ≤ 512 → ∀ t, t < f.sz → f2.t.get t = if dst = some t then v else f.t.get t) := by
  unfold Fr.put at h
  split at h
  · cases h; exact ⟨rfl, rfl, fun _ t _ => by simp⟩
  · rename_i d
    split at h
    · rename_i hd
      cases h
      have hd := bl hd
      refine ⟨rfl, rfl, fun hs t ht => ?_⟩
      show (T.set 9 f.t d v).get t = _
      rw [T.get_set_lt (by omega) (by omega)]
      by_cases h : t = d
      · subst h; simp
      · rw [if_neg h, if_neg (by simp; exact fun e => h e.symm)]
    · cases h
theorem Ctx.frame (c : Ctx P call ops n0 rs fin f0 C0) (hs : f0.sz ≤ 512) : ∀ i, i ≤ ops.size → (stAt rs fin i).1.sz = f0.sz ∧ (stAt rs fin i).1.g = f0.g ∧ ∀ t, t < f0.sz → (stAt rs fin i).1.t.get t = valS ops rs f0 (fun _ => true) t i
  | 0, _ => by rw [c.z]; exact ⟨rfl, rfl, fun _ _ => rfl⟩
  | i + 1, hi => by
    obtain ⟨h1, h2, h3⟩ := c.frame hs i (by omega)
    obtain ⟨o, r, ho, hr⟩ := c.pair (i := i) (by omega)
    obtain ⟨f2, hput, hc⟩ := c.L.each i o r (Nat.zero_le _) ho hr
    rw [stAt_get hr] at h1 h2 h3
    obtain ⟨q1, q2, q3⟩ := put_same hput
    have he : (stAt rs fin (i + 1)).1 = f2 := by
      rcases hc with ⟨_, _, _, he⟩ | ⟨_, _, _, _, he⟩ | ⟨k, n, v, _, _, _, _, _, he⟩ | ⟨C2, _, _, _, _, _, he⟩ <;> rw [he]
    rw [he]
    simp only at h1 h2 h3
    refine ⟨q1.trans h1, q2.trans h2, fun t ht => ?_⟩
    rw [q3 (by rw [h1]; exact hs) t (by rw [h1]; exact ht), h3 t ht]
    simp [valS, ho, hr]

/-- What was done, is closed. -/
structure SOK (ops : Array Oper) (S : Nat → Bool) : Prop where
  closed : ClosedS ops S
  bound : ∀ i, S i = true → i < ops.size
theorem Ctx.mask (c : Ctx P call ops n0 rs fin f0 C0) (hS : SOK ops S) {i : Nat} {o : Oper} (ho : ops[i]? = some o) (hr : ∀ e, e ∈ o.after → Region.binds .any e = true → S e.on = true) {j : Nat} (hj : Nat.testBit ((maskTree ops).get i) j = true) : S j = true :=
  mask_closed (by have := (orderly_spec c.ord).1; omega) hS.closed hS.bound (i + 1) i o (Nat.lt_succ_self i) ho hr j hj
theorem Ctx.maskS (c : Ctx P call ops n0 rs fin f0 C0) (hS : SOK ops S) {i : Nat} (hi : S i = true) {j : Nat} (hj : Nat.testBit ((maskTree ops).get i) j = true) : S j = true := by
  have hb := hS.bound i hi
  have ho := Array.getElem?_eq_getElem hb
  exact c.mask hS ho (fun e he hb => hS.closed i _ hi ho e he hb) hj

theorem Ctx.act (c : Ctx P call ops n0 rs fin f0 C0) {a : Nat} (ha : isActR rs a = true) : ∃ o r f2 C2, ops[a]? = some o ∧ rs[a]? = some r ∧ a < ops.size ∧ r.f.put o.dst r.v = some f2 ∧ wantA r.f ops o = some true ∧ isAct o.op = true ∧ Nat.land ((maskTree ops).get a) r.A = r.A ∧
    aop P call r.f o (view ((maskTree ops).get a) r.M r.C (rs.take a) 0) = some (r.v, C2) ∧ r.kd = .act ∧ stAt rs fin (a + 1) = (f2, C2, Nat.lor r.M ((maskTree ops).get a), Nat.lor r.A (2 ^ a)) := by
  unfold isActR at ha
  cases hr : rs[a]? with
  | none => rw [hr] at ha; cases ha
  | some r =>
    rw [hr] at ha
    simp only at ha
    have hb : a < ops.size := by rw [← c.len]; exact (List.getElem?_eq_some_iff.1 hr).1
    have ho := Array.getElem?_eq_getElem hb
    obtain ⟨f2, hput, hc⟩ := c.L.each a _ r (Nat.zero_le _) ho hr
    rcases hc with ⟨h, _⟩ | ⟨h, _⟩ | ⟨k', n, v, h, _⟩ | ⟨C2, h1, h2, h3, h4, h5, h6⟩
    · rw [h] at ha; cases ha
    · rw [h] at ha; cases ha
    · rw [h] at ha; cases ha
    · exact ⟨_, r, f2, C2, ho, rfl, hb, hput, h2, h3, h4, h5, h1, h6⟩
theorem ST_spec (S : Nat → Bool) : ST ops rs S ≤ ops.size ∧ (∀ a, a < ST ops rs S → isActR rs a = true → S a = true) ∧ (ST ops rs S < ops.size → isActR rs (ST ops rs S) = true ∧ S (ST ops rs S) = false) := by
  obtain ⟨h1, h2, h3, h4⟩ := stI_spec (rs := rs) S ops.size 0
  unfold ST
  exact ⟨by omega, fun a ha hb => h3 a (Nat.zero_le _) ha hb, fun h => h4 (by omega)⟩
theorem Ctx.act_iff (c : Ctx P call ops n0 rs fin f0 C0) (hS : SOK ops S) {a : Nat} (ha : isActR rs a = true) : S a = true ↔ a < ST ops rs S := by
  obtain ⟨h1, h2, h3⟩ := ST_spec (ops := ops) (rs := rs) S
  refine ⟨fun h => ?_, fun h => h2 a h ha⟩
  rcases Nat.lt_or_ge a (ST ops rs S) with g | g
  · exact g
  · have hab := hS.bound a h
    obtain ⟨k1, k2⟩ := h3 (by omega)
    have hne : a ≠ ST ops rs S := fun e => by rw [← e, h] at k2; cases k2
    obtain ⟨o, r, f2, C2, ho, hr, hb, _, _, _, hA, _⟩ := c.act ha
    have hbit := (c.bits (i := a) (by omega)).1 (ST ops rs S)
    rw [stAt_get hr] at hbit
    simp only at hbit
    rw [k1] at hbit
    have hlt : ST ops rs S < a := by omega
    simp only [hlt, decide_true, Bool.and_true] at hbit
    rw [← hA, bit_land, Bool.and_eq_true] at hbit
    have := c.maskS hS h hbit.1
    rw [k2] at this; cases this
theorem Ctx.stA (c : Ctx P call ops n0 rs fin f0 C0) (hS : SOK ops S) (a : Nat) : Nat.testBit (stAt rs fin (ST ops rs S)).2.2.2 a = (S a && isActR rs a) := by
  rw [(c.bits (ST_spec S).1).1 a]
  cases ha : isActR rs a with
  | false => simp
  | true =>
    have := c.act_iff hS ha
    rw [Bool.and_true, Bool.and_true, Bool.eq_iff_iff]
    simp [this]
theorem Ctx.stM (c : Ctx P call ops n0 rs fin f0 C0) (hS : SOK ops S) (j : Nat) : Nat.testBit (stAt rs fin (ST ops rs S)).2.2.1 j = true ↔ ∃ a, isActR rs a = true ∧ S a = true ∧ Nat.testBit ((maskTree ops).get a) j = true := by
  rw [(c.bits (ST_spec S).1).2 j]
  constructor
  · rintro ⟨a, h1, h2, h3⟩; exact ⟨a, h2, (c.act_iff hS h2).2 h1, h3⟩
  · rintro ⟨a, h1, h2, h3⟩; exact ⟨a, (c.act_iff hS h1).1 h2, h1, h3⟩
theorem Ctx.stageMem (_c : Ctx P call ops n0 rs fin f0 C0) (S : Nat → Bool) : (⟨(stAt rs fin (ST ops rs S)).2.1, (stAt rs fin (ST ops rs S)).2.2.1, (stAt rs fin (ST ops rs S)).2.2.2⟩ : Stage) ∈ stages rs ++ [⟨fin.2.1, fin.2.2.1, fin.2.2.2⟩] := by
  cases hr : rs[ST ops rs S]? with
  | none =>
    have : stAt rs fin (ST ops rs S) = fin := by unfold stAt; rw [hr]
    rw [this]; simp
  | some r =>
    rw [stAt_get hr]
    refine List.mem_append_left _ (stages_mem hr ?_)
    obtain ⟨h1, h2, h3⟩ := ST_spec (ops := ops) (rs := rs) S
    have hlt : ST ops rs S < ops.size := by rw [← _c.len]; exact (List.getElem?_eq_some_iff.1 hr).1
    have ha := (h3 hlt).1
    unfold isActR at ha
    rw [hr] at ha
    simp only at ha
    split at ha
    · assumption
    · cases ha

/-- A slot that an operation looks at. -/
theorem Ctx.slot (c : Ctx P call ops n0 rs fin f0 C0) (hS : SOK ops S) {i : Nat} {o : Oper} (ho : ops[i]? = some o) (hready : ∀ e, e ∈ o.after → Region.binds .any e = true → S e.on = true) (hi : S i = false) {t : Nat} (ht : t ∈ o.looksAt ops) :
    ∀ n, n ≤ ops.size → valS ops rs f0 S t n = valS ops rs f0 (fun _ => true) t (min n i)
  | 0, _ => by simp [valS]
  | n + 1, hn => by
    have ih := c.slot hS ho hready hi ht n (by omega)
    obtain ⟨_, _, hap⟩ := orderly_spec c.ord
    obtain ⟨on, rn, hon, hrn⟩ := c.pair (i := n) (by omega)
    have hib : i < ops.size := (Array.getElem?_eq_some_iff.1 ho).1
    rw [valS, hon, hrn]
    simp only
    rcases Nat.lt_or_ge n i with hlt | hge
    · rw [show min (n + 1) i = n + 1 by omega, valS, hon, hrn]
      rw [show min n i = n by omega] at ih
      simp only [true_and]
      by_cases hd : on.dst = some t
      · have hSn : S n = true := by
          rcases hap i n o on hlt ho hon with h | h
          · exact c.mask hS ho hready h
          · exact absurd ht ((Oper.apart_spec h).1 t hd)
        rw [if_pos ⟨hSn, hd⟩, if_pos hd]
      · rw [if_neg (fun h => hd h.2), if_neg hd]; exact ih
    · rw [show min (n + 1) i = i by omega]
      rw [show min n i = i by omega] at ih
      rw [if_neg, ih]
      rintro ⟨hSn, hd⟩
      by_cases he : n = i
      · subst he; rw [hi] at hSn; cases hSn
      · rcases hap n i on o (by omega) hon ho with h | h
        · have := c.maskS hS hSn h
          rw [hi] at this; cases this
        · exact (Oper.apart_spec h).2.2 t hd ht
/-- A slot behind an operation more. -/
theorem Ctx.slotPut (c : Ctx P call ops n0 rs fin f0 C0) (hS : SOK ops S) {i : Nat} {o : Oper} {r : Rec} (ho : ops[i]? = some o) (hr : rs[i]? = some r) (hi : S i = false) {S' : Nat → Bool} (hS' : ∀ j, S' j = (S j || decide (j = i))) (t : Nat) :
    ∀ n, n ≤ ops.size → valS ops rs f0 S' t n = if i < n ∧ o.dst = some t then r.v else valS ops rs f0 S t n
  | 0, _ => by simp [valS]
  | n + 1, hn => by
    have ih := c.slotPut hS ho hr hi hS' t n (by omega)
    obtain ⟨_, _, hap⟩ := orderly_spec c.ord
    obtain ⟨on, rn, hon, hrn⟩ := c.pair (i := n) (by omega)
    have e1 : valS ops rs f0 S' t (n + 1) = if S' n = true ∧ on.dst = some t then rn.v else valS ops rs f0 S' t n := by simp [valS, hon, hrn]
    have e2 : valS ops rs f0 S t (n + 1) = if S n = true ∧ on.dst = some t then rn.v else valS ops rs f0 S t n := by simp [valS, hon, hrn]
    rw [e1, e2]
    by_cases he : n = i
    · subst he
      rw [ho] at hon; cases hon
      rw [hr] at hrn; cases hrn
      have hSi : S' n = true := by rw [hS' n]; simp
      rw [hSi, hi, ih]
      by_cases hd : o.dst = some t
      · simp [hd]
      · simp [hd]
    · have hSn : S' n = S n := by rw [hS' n]; simp [he]
      rw [hSn, ih]
      by_cases hd : on.dst = some t
      · by_cases hsn : S n = true
        · have hno : ¬ (i < n ∧ o.dst = some t) := by
            rintro ⟨hlt, hdi⟩
            rcases hap n i on o hlt hon ho with h | h
            · have := c.maskS hS hsn h
              rw [hi] at this; cases this
            · exact (Oper.apart_spec h).2.1 t hdi hd
          have hno' : ¬ (i < n + 1 ∧ o.dst = some t) := by
            rintro ⟨hlt, hdi⟩; exact hno ⟨by omega, hdi⟩
          have hA : S n = true ∧ on.dst = some t := ⟨hsn, hd⟩
          rw [if_pos hA, if_neg hno', if_pos hA]
        · have hA : ¬ (S n = true ∧ on.dst = some t) := fun h => hsn h.1
          rw [if_neg hA, if_neg hA]
          by_cases hB : i < n ∧ o.dst = some t
          · rw [if_pos hB, if_pos ⟨by omega, hB.2⟩]
          · rw [if_neg hB, if_neg (fun h => hB ⟨by omega, h.2⟩)]
      · have hA : ¬ (S n = true ∧ on.dst = some t) := fun h => hd h.2
        rw [if_neg hA, if_neg hA]
        by_cases hB : i < n ∧ o.dst = some t
        · rw [if_pos hB, if_pos ⟨by omega, hB.2⟩]
        · rw [if_neg hB, if_neg (fun h => hB ⟨by omega, h.2⟩)]
end
end Ev
end Go.Proofs.YtikmamcbngbipaaGreatDoor
