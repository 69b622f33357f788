/- The compiled run: a statement whose order Go leaves open. -/
import Derived.Test.YtikmamcbngbipaaGreatDoorGD
namespace Go.Proofs.YtikmamcbngbipaaGreatDoor
namespace Ev

def mksOf : List Rec → Nat → List Mk
  | [], _ => []
  | r :: l, i => match r.kd with
    | .mk id k => ⟨i, id, k⟩ :: mksOf l (i + 1)
    | _ => mksOf l (i + 1)
theorem mksOf_snoc : ∀ (l : List Rec) (r : Rec) (i : Nat), mksOf (l ++ [r]) i = mksOf l i ++ (match r.kd with
    | .mk id k => [⟨i + l.length, id, k⟩]
    | _ => [])
  | [], r, i => by
    show mksOf [r] i = _
    unfold mksOf
    cases r.kd <;> rfl
  | x :: l, r, i => by
    have ih := mksOf_snoc l r (i + 1)
    show mksOf (x :: (l ++ [r])) i = _
    unfold mksOf
    rw [ih, List.length_cons, show i + 1 + l.length = i + (l.length + 1) by omega]
    cases x.kd <;> rfl
theorem snocK_eq {α : Type} (x : α) : ∀ (l : List α) (K : List α → Bool), snocK x l K = K (l ++ [x])
  | [], K => rfl
  | y :: l, K => by
    have e : snocK x (y :: l) K = snocK x l (fun l => K (y :: l)) := rfl
    rw [e, snocK_eq x l]
    rfl
theorem view_next (mask M : Nat) (C : Heap) (rs : List Rec) (i : Nat) : (view mask M C rs i).next = C.next := by
  rw [view_eq, viewP_next]
theorem viewK_eq (mask M : Nat) : ∀ (rs : List Rec) (C : Heap) (i : Nat) (K : HT → Bool), viewK mask M (mksOf rs i) C.t K = K (view mask M C rs i).t
  | [], C, i, K => rfl
  | r :: l, C, i, K => by
    unfold mksOf view
    cases r.kd with
    | mk id k =>
      simp only []
      have e : viewK mask M (⟨i, id, k⟩ :: mksOf l (i + 1)) C.t K = fB (Nat.testBit mask i && !Nat.testBit M i) (putBlk C.t id k fun ht => viewK mask M (mksOf l (i + 1)) ht K) (viewK mask M (mksOf l (i + 1)) C.t K) := rfl
      rw [e]
      cases (Nat.testBit mask i && !Nat.testBit M i) with
      | true =>
        show putBlk C.t id k (fun ht => viewK mask M (mksOf l (i + 1)) ht K) = _
        unfold putBlk
        rw [T.setN_eq]
        exact viewK_eq mask M l (C.put id k) (i + 1) K
      | false => exact viewK_eq mask M l C (i + 1) K
    | _ => exact viewK_eq mask M l C (i + 1) K
theorem lastK_eq (M : Nat) : ∀ (rs : List Rec) (C : Heap) (i : Nat) (K : HT → Bool), lastK M (mksOf rs i) C.t K = K (lastView M C rs i).t
  | [], C, i, K => rfl
  | r :: l, C, i, K => by
    unfold mksOf lastView
    cases r.kd with
    | mk id k =>
      simp only []
      have e : lastK M (⟨i, id, k⟩ :: mksOf l (i + 1)) C.t K = fB (Nat.testBit M i) (lastK M (mksOf l (i + 1)) C.t K) (putBlk C.t id k fun ht => lastK M (mksOf l (i + 1)) ht K) := rfl
      rw [e]
      cases Nat.testBit M i with
      | true => exact lastK_eq M l C (i + 1) K
      | false =>
        show putBlk C.t id k (fun ht => lastK M (mksOf l (i + 1)) ht K) = _
        unfold putBlk
        rw [T.setN_eq]
        exact lastK_eq M l (C.put id k) (i + 1) K
    | _ => exact lastK_eq M l C (i + 1) K
theorem stages_of : ∀ {l : List Rec} {s : Stage}, s ∈ stages l → ∃ (j : Nat) (r : Rec), l[j]? = some r ∧ r.kd = .act ∧ s = ⟨r.C, r.M, r.A⟩
  | [], s, h => by cases h
  | r :: l, s, h => by
    have rest : s ∈ stages l → ∃ (j : Nat) (r' : Rec), (r :: l)[j]? = some r' ∧ r'.kd = .act ∧ s = ⟨r'.C, r'.M, r'.A⟩ := fun h => by
      obtain ⟨j, r', h1, h2⟩ := stages_of h
      exact ⟨j + 1, r', by simpa using h1, h2⟩
    unfold stages at h
    cases hk : r.kd with
    | act =>
      rw [hk] at h
      rcases List.mem_cons.1 h with h | h
      · exact ⟨0, r, rfl, hk, h⟩
      · exact rest h
    | _ => rw [hk] at h; exact rest h

section
variable {P : Program} {G : Nat → Option Nat} {sz : Nat} {call : CallF} {callk : CallK} {ops : Array Oper} {bm : T Nat}

theorem fltAt_of {o : Oper} {r : Rec} {i mask At : Nat} {rs : List Rec} : ∀ {ss : List Stage}, (∀ s, s ∈ ss → Nat.beq (Nat.land (Nat.land mask At) s.A) (Nat.land mask At) = true → Nat.testBit s.M i = false → ∃ v, fop P r.f o (view mask s.M s.C rs 0) = some (.val v) ∧ abeq v r.v = true) →
    fltAt P o r i mask At rs ss = true
  | [], _ => rfl
  | s :: l, h => by
    have ih := fltAt_of (ss := l) (fun s hs => h s (List.mem_cons_of_mem _ hs))
    unfold fltAt
    split
    · rename_i hc
      rw [Bool.and_eq_true, Bool.not_eq_true'] at hc
      obtain ⟨v, h1, h2⟩ := h s (by simp) hc.1 hc.2
      rw [h1]
      simp only [h2, ih, Bool.and_self]
    · exact ih
theorem fltAll_of {At : Nat} {rs : List Rec} {ss : List Stage} : ∀ {ol : List Oper} {rl : List Rec} {k : Nat}, ol.length = rl.length → (∀ i o r, ol[i]? = some o → rl[i]? = some r → r.kd = .flt → hdep o.op = true → fltAt P o r (k + i) (bm.get (k + i)) At rs ss = true) → fltAll P bm At rs ss ol rl k = true
  | [], [], k, _, _ => rfl
  | [], _ :: _, k, h, _ => by cases h
  | _ :: _, [], k, h, _ => by cases h
  | o :: ol, r :: rl, k, hl, h => by
    have ih := fltAll_of (ol := ol) (rl := rl) (k := k + 1) (by simpa using hl) (fun i o' r' h1 h2 h3 h4 => by
      have := h (i + 1) o' r' (by simpa using h1) (by simpa using h2) h3 h4
      rw [show k + 1 + i = k + (i + 1) by omega]; exact this)
    have h0 := h 0 o r rfl rfl
    unfold fltAll
    rw [ih, Bool.and_true]
    cases hk : r.kd with
    | flt =>
      simp only []
      cases hd : hdep o.op with
      | true => exact h0 hk hd
      | false => rfl
    | _ => rfl

/-- One floating operation at all stages. -/
theorem fltK_ok (hs : sz ≤ 512) {o : Oper} {t : T AV} {v : AV} {i m At : Nat} {rs : List Rec} : ∀ (ss : List Stg) (K : Bool), fltK P G sz At (mksOf rs 0) (cvOf P sz o) t v i m ss K = true →
    K = true ∧ ∀ s, s ∈ ss → Nat.beq (Nat.land (Nat.land m At) s.A) (Nat.land m At) = true → Nat.testBit s.M i = false → ∃ w, fop P ⟨t, sz, G⟩ o (view m s.M ⟨s.ht, s.nx⟩ rs 0) = some (.val w) ∧ abeq w v = true
  | [], K, h => ⟨h, fun s hs => by cases hs⟩
  | s :: l, K, h => by
    have h : fB (Nat.beq (Nat.land (Nat.land m At) s.A) (Nat.land m At) && !Nat.testBit s.M i) (viewK m s.M (mksOf rs 0) s.ht fun ht => cvK P G sz (cvOf P sz o) t ht s.nx (fun w => fB (abeq w v) (fltK P G sz At (mksOf rs 0) (cvOf P sz o) t v i m l K) false) (fun _ _ => false))
      (fltK P G sz At (mksOf rs 0) (cvOf P sz o) t v i m l K) = true := h
    cases hc : (Nat.beq (Nat.land (Nat.land m At) s.A) (Nat.land m At) && !Nat.testBit s.M i) with
    | false =>
      rw [hc] at h
      obtain ⟨h1, h2⟩ := fltK_ok hs l K h
      refine ⟨h1, fun s' hs' g1 g2 => ?_⟩
      rcases List.mem_cons.1 hs' with rfl | hs'
      · rw [g1, g2] at hc; cases hc
      · exact h2 s' hs' g1 g2
    | true =>
      rw [hc] at h
      have h : viewK m s.M (mksOf rs 0) (⟨s.ht, s.nx⟩ : Heap).t (fun ht => cvK P G sz (cvOf P sz o) t ht s.nx (fun w => fB (abeq w v) (fltK P G sz At (mksOf rs 0) (cvOf P sz o) t v i m l K) false) (fun _ _ => false)) = true := h
      rw [viewK_eq] at h
      rcases cvK_ok hs h with ⟨w, g1, g2⟩ | ⟨k, n, w, g1, g2⟩
      · obtain ⟨g3, g4⟩ := fB_ok g2
        obtain ⟨h1, h2⟩ := fltK_ok hs l K g4
        refine ⟨h1, fun s' hs' g5 g6 => ?_⟩
        rcases List.mem_cons.1 hs' with rfl | hs'
        · refine ⟨w, ?_, g3⟩
          have e : (⟨(view m s'.M ⟨s'.ht, s'.nx⟩ rs 0).t, s'.nx⟩ : Heap) = view m s'.M ⟨s'.ht, s'.nx⟩ rs 0 := by
            have := view_next m s'.M ⟨s'.ht, s'.nx⟩ rs 0
            cases hv : view m s'.M ⟨s'.ht, s'.nx⟩ rs 0 with
            | mk tt nn => rw [hv] at this; simp only at this; rw [this]
          rw [← e]; exact g1
        · exact h2 s' hs' g5 g6
      · cases g2
theorem fltsK_ok (hs : sz ≤ 512) {At : Nat} {rs : List Rec} {ss : List Stg} : ∀ (fs : List Flt) (K : Bool), (∀ x, x ∈ fs → ∃ o, x.c = cvOf P sz o) → fltsK P G sz At (mksOf rs 0) ss fs K = true →
    K = true ∧ ∀ x, x ∈ fs → ∀ o, x.c = cvOf P sz o → ∀ s, s ∈ ss → Nat.beq (Nat.land (Nat.land x.m At) s.A) (Nat.land x.m At) = true → Nat.testBit s.M x.i = false → ∃ w, fop P ⟨x.t, sz, G⟩ o (view x.m s.M ⟨s.ht, s.nx⟩ rs 0) = some (.val w) ∧ abeq w x.v = true
  | [], K, _, h => ⟨h, fun x hx => by cases hx⟩
  | x :: l, K, hf, h => by
    have h : fltK P G sz At (mksOf rs 0) x.c x.t x.v x.i x.m ss (fltsK P G sz At (mksOf rs 0) ss l K) = true := h
    obtain ⟨o, ho⟩ := hf x (by simp)
    have h1 := (fltK_ok hs ss _ (ho ▸ h)).1
    obtain ⟨h2, h3⟩ := fltsK_ok hs l K (fun y hy => hf y (List.mem_cons_of_mem _ hy)) h1
    refine ⟨h2, fun y hy o' ho' => ?_⟩
    rcases List.mem_cons.1 hy with rfl | hy
    · exact (fltK_ok hs ss _ (ho' ▸ h)).2
    · exact h3 y hy o' ho'

/-- What the run hands on at its end. -/
structure RunTo (P : Program) (G : Nat → Option Nat) (sz : Nat) (bm : T Nat) (K : T AV → HT → Nat → Bool) (l : List Oper) (rs : List Rec) (ss : List Stg) (fs : List Flt) (rs' : List Rec) (t' : T AV) (C' : Heap) (M' A' : Nat) : Prop where
  tail : ∃ tl, rs' = rs ++ tl ∧ tl.length = l.length
  fin : ∃ ss' fs', endK P G sz K t' C'.t C'.next M' A' (mksOf rs' 0) ss' fs' = true ∧ (∀ s, s ∈ ss → s ∈ ss') ∧ (∀ x, x ∈ fs → x ∈ fs') ∧ (∀ x, x ∈ fs' → x ∈ fs ∨ ∃ o, x.c = cvOf P sz o) ∧
    (∀ (j : Nat) (r : Rec), rs.length ≤ j → rs'[j]? = some r → r.kd = .act → (⟨r.C.t, r.C.next, r.M, r.A⟩ : Stg) ∈ ss') ∧
    (∀ (j : Nat) (o : Oper) (r : Rec), l[j]? = some o → rs'[rs.length + j]? = some r → r.kd = .flt → hdep o.op = true → (⟨cvOf P sz o, r.f.t, r.v, rs.length + j, bm.get (rs.length + j)⟩ : Flt) ∈ fs' ∧ r.f = ⟨r.f.t, sz, G⟩)

theorem mk_eta (V : Heap) (n : Nat) (h : V.next = n) : (⟨V.t, n⟩ : Heap) = V := by
  cases V with
  | mk t m => cases h; rfl

theorem RunTo.cons {K : T AV → HT → Nat → Bool} {o : Oper} {l : List Oper} {rs : List Rec} {r : Rec} {ss ss1 : List Stg} {fs fs1 : List Flt} {rs' : List Rec} {t' : T AV} {C' : Heap} {M' A' : Nat}
    (h : RunTo P G sz bm K l (rs ++ [r]) ss1 fs1 rs' t' C' M' A') (h1 : ∀ s, s ∈ ss → s ∈ ss1) (h2 : ∀ x, x ∈ fs → x ∈ fs1) (h3 : ∀ x, x ∈ fs1 → x ∈ fs ∨ ∃ o, x.c = cvOf P sz o)
    (h4 : r.kd = .act → (⟨r.C.t, r.C.next, r.M, r.A⟩ : Stg) ∈ ss1) (h5 : r.kd = .flt → hdep o.op = true → (⟨cvOf P sz o, r.f.t, r.v, rs.length, bm.get rs.length⟩ : Flt) ∈ fs1 ∧ r.f = ⟨r.f.t, sz, G⟩) :
    RunTo P G sz bm K (o :: l) rs ss fs rs' t' C' M' A' := by
  obtain ⟨⟨tl, e1, e2⟩, ss', fs', g1, g2, g3, g4, g5, g6⟩ := h
  have hget : rs'[rs.length]? = some r := by rw [e1]; simp
  refine ⟨⟨r :: tl, by rw [e1]; simp, by simp [e2]⟩, ss', fs', g1, fun s hs => g2 s (h1 s hs), fun x hx => g3 x (h2 x hx), fun x hx => ?_, fun j r' hj hr' hk => ?_, fun j o' r' ho' hr' hk hd => ?_⟩
  · rcases g4 x hx with h | h
    · exact h3 x h
    · exact .inr h
  · by_cases hj' : j = rs.length
    · subst hj'
      rw [hget] at hr'; cases hr'
      exact g2 _ (h4 hk)
    · exact g5 j r' (by simp; omega) hr' hk
  · cases j with
    | zero =>
      rw [Nat.add_zero] at hr'
      rw [hget] at hr'; cases hr'
      simp only [List.getElem?_cons_zero, Option.some.injEq] at ho'
      subst ho'
      obtain ⟨q1, q2⟩ := h5 hk hd
      exact ⟨g3 _ q1, q2⟩
    | succ j =>
      have hlen : (rs ++ [r]).length = rs.length + 1 := by simp
      have := g6 j o' r' (by simpa using ho') (by rw [hlen, show rs.length + 1 + j = rs.length + (j + 1) by omega]; exact hr') hk hd
      rw [hlen, show rs.length + 1 + j = rs.length + (j + 1) by omega] at this
      exact this

theorem runK_ok (hs : sz ≤ 512) (hc : CallKOK call callk) {n0 : Nat} {K : T AV → HT → Nat → Bool} : ∀ (l : List Oper) (rs : List Rec) (t : T AV) (C : Heap) (M A : Nat) (ss : List Stg) (fs : List Flt),
    runK P G callk sz n0 K (diOf P sz ops bm l rs.length) t C.t C.next M A (mksOf rs 0) ss fs = true →
    ∃ rs' t' C' M' A', runD P call ops bm n0 l rs.length ⟨t, sz, G⟩ C M A rs = some (rs', ⟨t', sz, G⟩, C', M', A') ∧ RunTo P G sz bm K l rs ss fs rs' t' C' M' A'
  | [], rs, t, C, M, A, ss, fs, h =>
    ⟨rs, t, C, M, A, rfl, ⟨[], by simp, rfl⟩, ss, fs, h, (fun _ h => h), (fun _ h => h), (fun _ h => .inl h), (fun j r hj hr _ => by rw [List.getElem?_eq_none hj] at hr; cases hr), (fun j o r ho => by simp at ho)⟩
  | o :: l, rs, t, C, M, A, ss, fs, h => by
    have hlen : ∀ r : Rec, (rs ++ [r]).length = rs.length + 1 := fun r => by simp
    -- a record more
    have go : ∀ (r : Rec) (t1 : T AV) (C1 : Heap) (M1 A1 : Nat) (ss1 : List Stg) (fs1 : List Flt) (mks : List Mk), mks = mksOf (rs ++ [r]) 0 →
        runK P G callk sz n0 K (diOf P sz ops bm l (rs.length + 1)) t1 C1.t C1.next M1 A1 mks ss1 fs1 = true → (∀ s, s ∈ ss → s ∈ ss1) → (∀ x, x ∈ fs → x ∈ fs1) → (∀ x, x ∈ fs1 → x ∈ fs ∨ ∃ o, x.c = cvOf P sz o) →
        (r.kd = .act → (⟨r.C.t, r.C.next, r.M, r.A⟩ : Stg) ∈ ss1) → (r.kd = .flt → hdep o.op = true → (⟨cvOf P sz o, r.f.t, r.v, rs.length, bm.get rs.length⟩ : Flt) ∈ fs1 ∧ r.f = ⟨r.f.t, sz, G⟩) →
        ∃ rs' t' C' M' A', runD P call ops bm n0 l (rs.length + 1) ⟨t1, sz, G⟩ C1 M1 A1 (rs ++ [r]) = some (rs', ⟨t', sz, G⟩, C', M', A') ∧ RunTo P G sz bm K (o :: l) rs ss fs rs' t' C' M' A' := by
      intro r t1 C1 M1 A1 ss1 fs1 mks hmks hrun h1 h2 h3 h4 h5
      subst hmks
      obtain ⟨rs', t', C', M', A', g1, g2⟩ := runK_ok hs hc l (rs ++ [r]) t1 C1 M1 A1 ss1 fs1 (by rw [hlen]; exact hrun)
      rw [hlen] at g1
      exact ⟨rs', t', C', M', A', g1, g2.cons h1 h2 h3 h4 h5⟩
    have keep : ∀ r : Rec, (∀ id k, r.kd ≠ .mk id k) → mksOf rs 0 = mksOf (rs ++ [r]) 0 := fun r hr => by
      rw [mksOf_snoc]
      cases hk : r.kd with
      | mk id k => exact (hr id k hk).elim
      | _ => simp
    have hview := view_next (bm.get rs.length) M C rs 0
    unfold runD
    unfold diOf at h
    rw [ciOf_eq] at h
    by_cases ha : isAct o.op = true
    · rw [if_pos ha] at h
      have h : gdK (gdOf sz ops o) t (fB (Nat.beq (Nat.land (bm.get rs.length) A) A) (viewK (bm.get rs.length) M (mksOf rs 0) C.t fun htv => caK P G callk sz (caOf P sz o) t htv C.next fun v ht' nx' => dsK (dsOf sz o.dst) t v fun t =>
            fN (Nat.lor M (bm.get rs.length)) fun M' => fN (Nat.lor A (2 ^ rs.length)) fun A' => runK P G callk sz n0 K (diOf P sz ops bm l (rs.length + 1)) t ht' nx' M' A' (mksOf rs 0) (⟨C.t, C.next, M, A⟩ :: ss) fs) false)
          (dsK (dsOf sz o.dst) t undefA fun t => runK P G callk sz n0 K (diOf P sz ops bm l (rs.length + 1)) t C.t C.next M A (mksOf rs 0) ss fs) = true := h
      rcases gdK_ok (G := G) hs h with ⟨hw, h⟩ | ⟨hw, h⟩
      · obtain ⟨hA, h⟩ := fB_ok h
        rw [viewK_eq] at h
        obtain ⟨v, C1, h1, h2⟩ := caK_ok hs hc h
        rw [mk_eta _ _ hview] at h1
        obtain ⟨t1, h3, h4⟩ := dsK_ok (G := G) h2
        rw [fN_eq, fN_eq] at h4
        simp only [hw, ha, hA, h1, force_eq, h3]
        exact go ⟨v, .act, ⟨t, sz, G⟩, C, M, A⟩ t1 C1 _ _ _ _ _ (keep _ (fun _ _ h => by cases h)) h4 (fun s hs => List.mem_cons_of_mem _ hs) (fun _ h => h) (fun _ h => .inl h) (fun _ => by simp) (fun h => by cases h)
      · obtain ⟨t1, h3, h4⟩ := dsK_ok (G := G) h
        simp only [hw, h3]
        exact go ⟨undefA, .skip, ⟨t, sz, G⟩, C, M, A⟩ t1 C _ _ _ _ _ (keep _ (fun _ _ h => by cases h)) h4 (fun _ h => h) (fun _ h => h) (fun _ h => .inl h) (fun h => by cases h) (fun h => by cases h)
    · rw [if_neg ha] at h
      have ha : isAct o.op = false := by simpa using ha
      have mk_ok : ∀ (k : ABlk) (v : Nat → AV), mkK n0 rs.length k v (dsOf sz o.dst) t (mksOf rs 0) (fun t mks => runK P G callk sz n0 K (diOf P sz ops bm l (rs.length + 1)) t C.t C.next M A mks ss fs) = true →
          ∃ t1, (⟨t, sz, G⟩ : Fr).put o.dst (v (n0 + rs.length)) = some ⟨t1, sz, G⟩ ∧ ∃ rs' t' C' M' A', runD P call ops bm n0 l (rs.length + 1) ⟨t1, sz, G⟩ C M A (rs ++ [⟨v (n0 + rs.length), .mk (n0 + rs.length) k, ⟨t, sz, G⟩, C, M, A⟩]) = some (rs', ⟨t', sz, G⟩, C', M', A') ∧ RunTo P G sz bm K (o :: l) rs ss fs rs' t' C' M' A' := fun k v h => by
        unfold mkK at h
        rw [fN_eq, fV0_eq] at h
        obtain ⟨t1, h3, h4⟩ := dsK_ok (G := G) h
        rw [snocK_eq] at h4
        exact ⟨t1, h3, go _ t1 C _ _ _ _ _ (by rw [mksOf_snoc, Nat.zero_add]; rfl) h4 (fun _ h => h) (fun _ h => h) (fun _ h => .inl h) (fun h => by cases h) (fun h => by cases h)⟩
      have h : gdK (gdOf sz ops o) t (fB (hdep o.op) (viewK (bm.get rs.length) M (mksOf rs 0) C.t fun htv => cvK P G sz (cvOf P sz o) t htv C.next (fun v => dsK (dsOf sz o.dst) t v fun t' => runK P G callk sz n0 K (diOf P sz ops bm l (rs.length + 1)) t' C.t C.next M A (mksOf rs 0) ss (⟨cvOf P sz o, t, v, rs.length, bm.get rs.length⟩ :: fs))
              (fun k v => mkK n0 rs.length k v (dsOf sz o.dst) t (mksOf rs 0) fun t mks => runK P G callk sz n0 K (diOf P sz ops bm l (rs.length + 1)) t C.t C.next M A mks ss fs))
            (cvK P G sz (cvOf P sz o) t C.t C.next (fun v => dsK (dsOf sz o.dst) t v fun t => runK P G callk sz n0 K (diOf P sz ops bm l (rs.length + 1)) t C.t C.next M A (mksOf rs 0) ss fs)
              (fun k v => mkK n0 rs.length k v (dsOf sz o.dst) t (mksOf rs 0) fun t mks => runK P G callk sz n0 K (diOf P sz ops bm l (rs.length + 1)) t C.t C.next M A mks ss fs)))
          (dsK (dsOf sz o.dst) t undefA fun t => runK P G callk sz n0 K (diOf P sz ops bm l (rs.length + 1)) t C.t C.next M A (mksOf rs 0) ss fs) = true := h
      rcases gdK_ok (G := G) hs h with ⟨hw, h⟩ | ⟨hw, h⟩
      · cases hd : hdep o.op with
        | true =>
          rw [hd] at h
          have h := (show viewK (bm.get rs.length) M (mksOf rs 0) C.t _ = true from h)
          rw [viewK_eq] at h
          rcases cvK_ok hs h with ⟨v, h1, h2⟩ | ⟨k, n, v, h1, h2⟩
          · rw [mk_eta _ _ hview] at h1
            obtain ⟨t1, h3, h4⟩ := dsK_ok (G := G) h2
            simp only [hw, ha, h1, force_eq, h3]
            exact go ⟨v, .flt, ⟨t, sz, G⟩, C, M, A⟩ t1 C _ _ _ _ _ (keep _ (fun _ _ h => by cases h)) h4 (fun _ h => h) (fun _ h => List.mem_cons_of_mem _ h) (fun x hx => by
              rcases List.mem_cons.1 hx with rfl | hx
              · exact .inr ⟨o, rfl⟩
              · exact .inl hx) (fun h => by cases h) (fun _ _ => ⟨by simp, rfl⟩)
          · rw [mk_eta _ _ hview] at h1
            obtain ⟨t1, h3, h4⟩ := mk_ok k v h2
            simp only [hw, ha, h1, h3]
            exact h4
        | false =>
          rw [hd] at h
          have h := (show cvK P G sz (cvOf P sz o) t C.t C.next _ _ = true from h)
          have hind : ∀ r, fop P ⟨t, sz, G⟩ o ⟨C.t, C.next⟩ = some r → fop P ⟨t, sz, G⟩ o (view (bm.get rs.length) M C rs 0) = some r := fun r hr => by
            rw [fop_indep hd _ ⟨C.t, C.next⟩]; exact hr
          rcases cvK_ok hs h with ⟨v, h1, h2⟩ | ⟨k, n, v, h1, h2⟩
          · have h1 := hind _ h1
            obtain ⟨t1, h3, h4⟩ := dsK_ok (G := G) h2
            simp only [hw, ha, h1, force_eq, h3]
            exact go ⟨v, .flt, ⟨t, sz, G⟩, C, M, A⟩ t1 C _ _ _ _ _ (keep _ (fun _ _ h => by cases h)) h4 (fun _ h => h) (fun _ h => h) (fun _ h => .inl h) (fun h => by cases h) (fun _ h => by rw [hd] at h; cases h)
          · have h1 := hind _ h1
            obtain ⟨t1, h3, h4⟩ := mk_ok k v h2
            simp only [hw, ha, h1, h3]
            exact h4
      · obtain ⟨t1, h3, h4⟩ := dsK_ok (G := G) h
        simp only [hw, h3]
        exact go ⟨undefA, .skip, ⟨t, sz, G⟩, C, M, A⟩ t1 C _ _ _ _ _ (keep _ (fun _ _ h => by cases h)) h4 (fun _ h => h) (fun _ h => h) (fun _ h => .inl h) (fun h => by cases h) (fun h => by cases h)

theorem drawK_ok (hs : sz ≤ 512) (hc : CallKOK call callk) (ho : orderly ops = true) {t : T AV} {ht : HT} {nx : Nat} {K : T AV → HT → Nat → Bool} (h : drawK P G callk sz (diOf P sz ops (maskTree ops) ops.toList 0) ops.size t ht nx K = true) :
    ∃ t' H', drawA P call ops ⟨t, sz, G⟩ ⟨ht, nx⟩ = some (⟨t', sz, G⟩, H') ∧ K t' H'.t H'.next = true := by
  obtain ⟨h1, h2⟩ := fB_ok h
  rw [fN_eq] at h2
  obtain ⟨rs, t', C, M, A, h3, ⟨tl, e1, e2⟩, ss, fs, h4, h5, h6, h7, h8, h9⟩ := runK_ok (ops := ops) (n0 := nx) (K := K) hs hc ops.toList [] t ⟨ht, nx + ops.size⟩ 0 0 [] [] h2
  obtain ⟨h10, h11⟩ := fltsK_ok hs fs _ (fun x hx => by
    rcases h7 x hx with h | h
    · cases h
    · exact h) h4
  rw [lastK_eq] at h10
  have h1 : Nat.ble (nx + ops.size) 65536 = true := h1
  have h3 : runD P call ops (maskTree ops) nx ops.toList 0 ⟨t, sz, G⟩ ⟨ht, nx + ops.size⟩ 0 0 [] = some (rs, ⟨t', sz, G⟩, C, M, A) := h3
  have hall : fltAll P (maskTree ops) A rs (stages rs ++ [⟨C, M, A⟩]) ops.toList rs 0 = true := by
    refine fltAll_of (by rw [e1]; simp [e2]) (fun i o r ho hr hk hd => ?_)
    rw [Nat.zero_add]
    have := h9 i o r ho (by simpa using hr) hk hd
    simp only [List.length_nil, Nat.zero_add] at this
    obtain ⟨q1, q2⟩ := this
    refine fltAt_of (fun s hs' g1 g2 => ?_)
    have hmem : (⟨s.C.t, s.C.next, s.M, s.A⟩ : Stg) ∈ (⟨C.t, C.next, M, A⟩ :: ss : List Stg) := by
      rcases List.mem_append.1 hs' with hs' | hs'
      · obtain ⟨j, r', k1, k2, rfl⟩ := stages_of hs'
        exact List.mem_cons_of_mem _ (h8 j r' (Nat.zero_le _) k1 k2)
      · have : s = ⟨C, M, A⟩ := by simpa using hs'
        subst this
        simp
    obtain ⟨w, g3, g4⟩ := h11 _ q1 o rfl _ hmem g1 g2
    refine ⟨w, ?_, g4⟩
    rw [q2]
    exact g3
  refine ⟨t', lastView M C rs 0, ?_, ?_⟩
  · unfold drawA
    simp only [ho, h1, h3, hall]
  · have : (lastView M C rs 0).next = C.next := by rw [lastView_eq, viewP_next]
    rw [this]; exact h10
end
end Ev
end Go.Proofs.YtikmamcbngbipaaGreatDoor
