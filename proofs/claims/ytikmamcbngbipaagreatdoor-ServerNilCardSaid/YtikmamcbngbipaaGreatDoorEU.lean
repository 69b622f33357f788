/- A statement whose order Go leaves open: what the run has laid down of it. -/
import Derived.Test.YtikmamcbngbipaaGreatDoorET
namespace Go.Proofs.YtikmamcbngbipaaGreatDoor
namespace Ev

section
variable {σ : Nat → Value} {P : Program} {G : Nat → Option Nat}

/-- Blocks that were made, those of some operations. -/
noncomputable def viewP (p : Nat → Bool) : Heap → List Rec → Nat → Heap
  | C, [], _ => C
  | C, r :: l, i => match r.kd with
    | .mk id k => match p i with
      | true => viewP p (C.put id k) l (i + 1)
      | false => viewP p C l (i + 1)
    | _ => viewP p C l (i + 1)
theorem view_eq (mask M : Nat) : ∀ (rs : List Rec) (C : Heap) (i : Nat), view mask M C rs i = viewP (fun j => Nat.testBit mask j && !Nat.testBit M j) C rs i
  | [], C, i => rfl
  | r :: l, C, i => by
    unfold view viewP
    cases hk : r.kd <;> simp only [] <;> first | exact view_eq mask M l C (i + 1) | skip
    rename_i id k
    cases hb : (Nat.testBit mask i && !Nat.testBit M i)
    · exact view_eq mask M l C (i + 1)
    · exact view_eq mask M l _ (i + 1)
theorem lastView_eq (M : Nat) : ∀ (rs : List Rec) (C : Heap) (i : Nat), lastView M C rs i = viewP (fun j => !Nat.testBit M j) C rs i
  | [], C, i => rfl
  | r :: l, C, i => by
    unfold lastView viewP
    cases hk : r.kd <;> simp only [] <;> first | exact lastView_eq M l C (i + 1) | skip
    rename_i id k
    cases hb : Nat.testBit M i
    · exact lastView_eq M l _ (i + 1)
    · exact lastView_eq M l C (i + 1)
theorem viewP_next (p : Nat → Bool) : ∀ (rs : List Rec) (C : Heap) (i : Nat), (viewP p C rs i).next = C.next
  | [], C, i => rfl
  | r :: l, C, i => by
    unfold viewP
    cases r.kd <;> simp only [] <;> first | exact viewP_next p l C (i + 1) | skip
    cases p i
    · exact viewP_next p l C (i + 1)
    · exact viewP_next p l _ (i + 1)

/-- The block that an operation made. -/
def mkAt (n0 : Nat) (rs : List Rec) (id : Nat) : Option ABlk := match Nat.ble n0 id with
  | true => match rs[id - n0]? with
    | some r => match r.kd with
      | .mk _ k => some k
      | _ => none
    | none => none
  | false => none

theorem viewP_get {n0 : Nat} (p : Nat → Bool) : ∀ (rs pre : List Rec) (C : Heap), n0 + (pre ++ rs).length ≤ 65536 → (∀ j r id k, (pre ++ rs)[j]? = some r → r.kd = .mk id k → id = n0 + j) → ∀ id, id < 65536 →
    (viewP p C rs pre.length).get id = if n0 + pre.length ≤ id ∧ p (id - n0) = true ∧ (mkAt n0 (pre ++ rs) id).isSome = true then mkAt n0 (pre ++ rs) id else C.get id
  | [], pre, C, hl, hk, id, hid => by
    rw [if_neg]
    · rfl
    · rintro ⟨h1, _, h3⟩
      unfold mkAt at h3
      split at h3
      · rw [List.getElem?_eq_none (by simp; omega)] at h3; cases h3
      · cases h3
  | r :: l, pre, C, hl, hk, id, hid => by
    have e : pre ++ r :: l = (pre ++ [r]) ++ l := by simp
    have ih := fun C' => viewP_get p l (pre ++ [r]) C' (by rw [← e]; exact hl) (by rw [← e]; exact hk) id hid
    simp only [List.length_append, List.length_singleton] at ih
    rw [← e] at ih
    have hget : (pre ++ r :: l)[pre.length]? = some r := by simp
    have hlen : pre.length < (pre ++ r :: l).length := by simp
    have hat : id = n0 + pre.length → mkAt n0 (pre ++ r :: l) id = match r.kd with
        | .mk _ k => some k
        | _ => none := fun hid => by
      subst hid
      unfold mkAt
      rw [Nat.ble_eq_true_of_le (by omega), show n0 + pre.length - n0 = pre.length by omega]
      simp only [hget]
    have split_at : ∀ (X : Heap), (id ≠ n0 + pre.length → X.get id = C.get id) → (id = n0 + pre.length → (if p pre.length = true ∧ (mkAt n0 (pre ++ r :: l) id).isSome = true then mkAt n0 (pre ++ r :: l) id else C.get id) = X.get id) →
        (if n0 + (pre.length + 1) ≤ id ∧ p (id - n0) = true ∧ (mkAt n0 (pre ++ r :: l) id).isSome = true then mkAt n0 (pre ++ r :: l) id else X.get id) =
        (if n0 + pre.length ≤ id ∧ p (id - n0) = true ∧ (mkAt n0 (pre ++ r :: l) id).isSome = true then mkAt n0 (pre ++ r :: l) id else C.get id) := fun X h1 h2 => by
      by_cases hid : id = n0 + pre.length
      · rw [if_neg (by omega), ← h2 hid]
        have : id - n0 = pre.length := by omega
        rw [this]
        by_cases hc : p pre.length = true ∧ (mkAt n0 (pre ++ r :: l) id).isSome = true
        · rw [if_pos hc, if_pos ⟨by omega, hc⟩]
        · rw [if_neg hc, if_neg (fun h => hc h.2)]
      · rw [h1 hid]
        by_cases hc : n0 + (pre.length + 1) ≤ id ∧ p (id - n0) = true ∧ (mkAt n0 (pre ++ r :: l) id).isSome = true
        · rw [if_pos hc, if_pos ⟨by omega, hc.2⟩]
        · rw [if_neg hc, if_neg (fun h => hc ⟨by omega, h.2⟩)]
    unfold viewP
    cases hkd : r.kd with
    | mk i k =>
      have hi := hk pre.length r i k hget hkd
      subst hi
      have hb : n0 + pre.length < 65536 := by omega
      simp only []
      cases hp : p pre.length with
      | true =>
        simp only []
        rw [ih]
        refine split_at _ (fun h => by rw [get_put hb hid, if_neg h]) (fun h => ?_)
        rw [hat h, hkd]
        simp only [hp, Option.isSome_some, and_self, if_true]
        rw [h, get_put hb (h ▸ hid), if_pos rfl]
      | false =>
        simp only []
        rw [ih]
        exact split_at _ (fun h => rfl) (fun h => by rw [if_neg (fun hh => by rw [hp] at hh; cases hh.1)])
    | skip =>
      simp only []
      rw [ih]
      exact split_at _ (fun h => rfl) (fun h => by rw [if_neg (fun hh => by rw [hat h, hkd] at hh; cases hh.2)])
    | flt =>
      simp only []
      rw [ih]
      exact split_at _ (fun h => rfl) (fun h => by rw [if_neg (fun hh => by rw [hat h, hkd] at hh; cases hh.2)])
    | act =>
      simp only []
      rw [ih]
      exact split_at _ (fun h => rfl) (fun h => by rw [if_neg (fun hh => by rw [hat h, hkd] at hh; cases hh.2)])

/-- The state ahead of an operation. -/
def stAt (rs : List Rec) (fin : Fr × Heap × Nat × Nat) (i : Nat) : Fr × Heap × Nat × Nat := match rs[i]? with
  | some r => (r.f, r.C, r.M, r.A)
  | none => fin

/-- What the run has laid down. -/
structure Laid (P : Program) (call : FuncId → List AV → Heap → Option (AV × Heap)) (ops : Array Oper) (bm : T Nat) (n0 : Nat) (rs : List Rec) (fin : Fr × Heap × Nat × Nat) (i0 : Nat) : Prop where
  each : ∀ i o r, i0 ≤ i → ops[i]? = some o → rs[i]? = some r → ∃ f2, r.f.put o.dst r.v = some f2 ∧
    ((r.kd = .skip ∧ wantA r.f ops o = some false ∧ r.v = undefA ∧ stAt rs fin (i + 1) = (f2, r.C, r.M, r.A)) ∨
     (r.kd = .flt ∧ wantA r.f ops o = some true ∧ isAct o.op = false ∧ fop P r.f o (view (bm.get i) r.M r.C (rs.take i) 0) = some (.val r.v) ∧ stAt rs fin (i + 1) = (f2, r.C, r.M, r.A)) ∨
     (∃ k n v, r.kd = .mk (n0 + i) k ∧ wantA r.f ops o = some true ∧ isAct o.op = false ∧ fop P r.f o (view (bm.get i) r.M r.C (rs.take i) 0) = some (.new k n v) ∧ r.v = v (n0 + i) ∧ stAt rs fin (i + 1) = (f2, r.C, r.M, r.A)) ∨
     (∃ C2, r.kd = .act ∧ wantA r.f ops o = some true ∧ isAct o.op = true ∧ Nat.land (bm.get i) r.A = r.A ∧ aop P call r.f o (view (bm.get i) r.M r.C (rs.take i) 0) = some (r.v, C2) ∧ stAt rs fin (i + 1) = (f2, C2, Nat.lor r.M (bm.get i), Nat.lor r.A (2 ^ i))))

theorem runD_laid {call : FuncId → List AV → Heap → Option (AV × Heap)} {ops : Array Oper} {bm : T Nat} {n0 : Nat} : ∀ (l : List Oper) (f : Fr) (C : Heap) (M A : Nat) (pre rs : List Rec) (fin : Fr × Heap × Nat × Nat),
    runD P call ops bm n0 l pre.length f C M A pre = some (rs, fin.1, fin.2.1, fin.2.2.1, fin.2.2.2) → (∀ i, l[i]? = ops[pre.length + i]?) → (∃ tl, rs = pre ++ tl ∧ tl.length = l.length) ∧ stAt rs fin pre.length = (f, C, M, A) ∧ Laid P call ops bm n0 rs fin pre.length
  | [], f, C, M, A, pre, rs, fin, h, hl => by
    cases h
    refine ⟨⟨[], by simp, rfl⟩, ?_, ⟨fun i o r hi ho hr => ?_⟩⟩
    · unfold stAt
      rw [List.getElem?_eq_none (Nat.le_refl _)]
    · rw [List.getElem?_eq_none hi] at hr; cases hr
  | o :: l, f, C, M, A, pre, rs, fin, h, hl => by
    have ho : ops[pre.length]? = some o := by have := hl 0; simpa using this.symm
    have hl' : ∀ (r : Rec) (i : Nat), l[i]? = ops[(pre ++ [r]).length + i]? := fun r i => by
      have := hl (i + 1)
      rw [List.length_append, List.length_singleton, show pre.length + 1 + i = pre.length + (i + 1) by omega]; simpa using this
    -- the rest, behind one record more
    have go : ∀ (r : Rec) (f2 : Fr) (C2 : Heap) (M2 A2 : Nat), r.f = f → r.C = C → r.M = M → r.A = A → r.f.put o.dst r.v = some f2 →
        runD P call ops bm n0 l (pre.length + 1) f2 C2 M2 A2 (pre ++ [r]) = some (rs, fin.1, fin.2.1, fin.2.2.1, fin.2.2.2) →
        ((∀ r0, rs[pre.length]? = some r0 → r0 = r) → rs.take pre.length = pre → stAt rs fin (pre.length + 1) = (f2, C2, M2, A2) →
          ((r.kd = .skip ∧ wantA r.f ops o = some false ∧ r.v = undefA ∧ stAt rs fin (pre.length + 1) = (f2, r.C, r.M, r.A)) ∨
           (r.kd = .flt ∧ wantA r.f ops o = some true ∧ isAct o.op = false ∧ fop P r.f o (view (bm.get pre.length) r.M r.C (rs.take pre.length) 0) = some (.val r.v) ∧ stAt rs fin (pre.length + 1) = (f2, r.C, r.M, r.A)) ∨
           (∃ k n v, r.kd = .mk (n0 + pre.length) k ∧ wantA r.f ops o = some true ∧ isAct o.op = false ∧ fop P r.f o (view (bm.get pre.length) r.M r.C (rs.take pre.length) 0) = some (.new k n v) ∧ r.v = v (n0 + pre.length) ∧ stAt rs fin (pre.length + 1) = (f2, r.C, r.M, r.A)) ∨
           (∃ C2, r.kd = .act ∧ wantA r.f ops o = some true ∧ isAct o.op = true ∧ Nat.land (bm.get pre.length) r.A = r.A ∧ aop P call r.f o (view (bm.get pre.length) r.M r.C (rs.take pre.length) 0) = some (r.v, C2) ∧ stAt rs fin (pre.length + 1) = (f2, C2, Nat.lor r.M (bm.get pre.length), Nat.lor r.A (2 ^ pre.length))))) →
        (∃ tl, rs = pre ++ tl ∧ tl.length = (o :: l).length) ∧ stAt rs fin pre.length = (f, C, M, A) ∧ Laid P call ops bm n0 rs fin pre.length := by
      intro r f2 C2 M2 A2 e1 e2 e3 e4 hput hrun hcase
      have hlen : (pre ++ [r]).length = pre.length + 1 := by simp
      obtain ⟨⟨tl, t1, t2⟩, t3, t4⟩ := runD_laid l f2 C2 M2 A2 (pre ++ [r]) rs fin (by rw [hlen]; exact hrun) (hl' r)
      rw [hlen] at t3 t4
      have hget : rs[pre.length]? = some r := by rw [t1]; simp
      have htake : rs.take pre.length = pre := by rw [t1]; simp
      refine ⟨⟨r :: tl, by rw [t1]; simp, by simp [t2]⟩, ?_, ⟨fun i o' r' hi ho' hr' => ?_⟩⟩
      · unfold stAt
        rw [hget]
        simp only [e1, e2, e3, e4]
      · by_cases hi' : i = pre.length
        · subst hi'
          rw [hget] at hr'; cases hr'
          rw [ho] at ho'; cases ho'
          exact ⟨f2, hput, hcase (fun r0 h0 => by rw [hget] at h0; cases h0; rfl) htake t3⟩
        · exact t4.each i o' r' (by omega) ho' hr'
    unfold runD at h
    split at h
    · rename_i hw
      split at h
      · rename_i hact
        split at h
        · rename_i v hv
          rw [force_eq] at h
          split at h
          · rename_i f2 hp
            refine go ⟨v, .flt, f, C, M, A⟩ f2 C M A rfl rfl rfl rfl hp h (fun _ ht hs => .inr (.inl ⟨rfl, hw, hact, ?_, hs⟩))
            rw [ht]; exact hv
          · cases h
        · rename_i k n v hv
          split at h
          · rename_i f2 hp
            refine go ⟨v (n0 + pre.length), .mk (n0 + pre.length) k, f, C, M, A⟩ f2 C M A rfl rfl rfl rfl hp h (fun _ ht hs => .inr (.inr (.inl ⟨k, n, v, rfl, hw, hact, ?_, rfl, hs⟩)))
            rw [ht]; exact hv
          · cases h
        · cases h
      · rename_i hact
        split at h
        · rename_i hA
          split at h
          · rename_i v C2 hv
            rw [force_eq] at h
            split at h
            · rename_i f2 hp
              refine go ⟨v, .act, f, C, M, A⟩ f2 C2 _ _ rfl rfl rfl rfl hp h (fun _ ht hs => .inr (.inr (.inr ⟨C2, rfl, hw, hact, Nat.eq_of_beq_eq_true hA, ?_, hs⟩)))
              rw [ht]; exact hv
            · cases h
          · cases h
        · cases h
    · rename_i hw
      split at h
      · rename_i f2 hp
        exact go ⟨undefA, .skip, f, C, M, A⟩ f2 C M A rfl rfl rfl rfl hp h (fun _ ht hs => .inl ⟨rfl, hw, rfl, hs⟩)
      · cases h
    · cases h
end
end Ev
end Go.Proofs.YtikmamcbngbipaaGreatDoor
