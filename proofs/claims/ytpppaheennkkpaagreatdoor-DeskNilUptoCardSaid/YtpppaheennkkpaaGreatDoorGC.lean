/- The compiled run: operations that turn nothing. -/
import Derived.Test.YtpppaheennkkpaaGreatDoorGA
namespace Go.Proofs.YtpppaheennkkpaaGreatDoor
namespace Ev

section
variable {P : Program} {G : Nat → Option Nat} {sz : Nat} {t : T AV} {ht : HT} {nx : Nat} {K : AV → Bool} {N : ABlk → (Nat → AV) → Bool}

/-- What an operation came to, and what was made of it. -/
def VOK (P : Program) (G : Nat → Option Nat) (sz : Nat) (t : T AV) (ht : HT) (nx : Nat) (K : AV → Bool) (N : ABlk → (Nat → AV) → Bool) (o : Oper) : Prop :=
  (∃ v, fop P ⟨t, sz, G⟩ o ⟨ht, nx⟩ = some (.val v) ∧ K v = true) ∨ (∃ k n v, fop P ⟨t, sz, G⟩ o ⟨ht, nx⟩ = some (.new k n v) ∧ N k v = true)

theorem hOldV_ok {o : Oper} (h : hOldV P G sz o t ht nx K N = true) : VOK P G sz t ht nx K N o := by
  obtain ⟨r, h1, h2⟩ := onO_ok h
  cases r with
  | val v =>
    have h2 : fV v K = true := h2
    rw [fV_eq] at h2
    exact .inl ⟨v, h1, h2⟩
  | new k n v => exact .inr ⟨k, n, v, h1, h2⟩

theorem hBin_ok (hs : sz ≤ 512) {op : BinOp} {ty : TypeId} {lit : Bool} {x y : Operand} (h : hBin P G op ty lit (srcOf sz x) (srcOf sz y) t K = true) :
    ∃ a b r, ev ⟨t, sz, G⟩ x = some a ∧ ev ⟨t, sz, G⟩ y = some b ∧ abin P op ty lit a b = some r ∧ K r = true := by
  obtain ⟨v, h1, h⟩ := srcK_ok hs h
  obtain ⟨w, h2, h⟩ := srcK_ok hs h
  have slow : (onO (abin P op ty lit v w) fun v => fV v K) = true → ∃ a b r, ev ⟨t, sz, G⟩ x = some a ∧ ev ⟨t, sz, G⟩ y = some b ∧ abin P op ty lit a b = some r ∧ K r = true := fun h => by
    obtain ⟨r, h3, h4⟩ := onO_ok h
    rw [fV_eq] at h4
    exact ⟨v, w, r, h1, h2, h3, h4⟩
  rcases onInt_ok h with ⟨k, a, rfl, h⟩ | h
  · rcases onInt_ok h with ⟨k', b, rfl, h⟩ | h
    · obtain ⟨hc, h⟩ := fB_ok h
      obtain ⟨r, h3, h4⟩ := onO_ok h
      rw [fV0_eq] at h4
      exact ⟨_, _, r, h1, h2, by simp only [abin, hc, h3], h4⟩
    · exact slow h
  · exact slow h

theorem cvK_ok (hs : sz ≤ 512) {o : Oper} (h : cvK P G sz (cvOf P sz o) t ht nx K N = true) : VOK P G sz t ht nx K N o := by
  have val : ∀ v, fop P ⟨t, sz, G⟩ o ⟨ht, nx⟩ = some (.val v) → K v = true → VOK P G sz t ht nx K N o := fun v h1 h2 => .inl ⟨v, h1, h2⟩
  unfold cvOf at h
  split at h
  · -- move
    rename_i x hop
    obtain ⟨v, h1, h2⟩ := srcK_ok hs h
    exact val v (by unfold fop; rw [hop]; simp only [h1]) h2
  · -- assign
    rename_i x hop
    obtain ⟨v, h1, h2⟩ := srcK_ok hs h
    exact val v (by unfold fop; rw [hop]; simp only [h1]) h2
  · -- pick
    rename_i c a b hop
    obtain ⟨v, h1, h2⟩ := srcK_ok hs h
    cases v with
    | bool x =>
      cases x with
      | true =>
        obtain ⟨w, h3, h4⟩ := srcK_ok hs (show srcK G (srcOf sz a) t K = true from h2)
        exact val w (by unfold fop; rw [hop]; simp only [h1, h3]) h4
      | false =>
        obtain ⟨w, h3, h4⟩ := srcK_ok hs (show srcK G (srcOf sz b) t K = true from h2)
        exact val w (by unfold fop; rw [hop]; simp only [h1, h3]) h4
    | _ => exact nomatch (show false = true from h2)
  · -- load
    rename_i ty a hop
    split at h
    · rename_i hagg
      obtain ⟨v, h1, h2⟩ := srcK_ok hs h
      obtain ⟨id, off, rfl, h2⟩ := onPtr_ok h2
      obtain ⟨c, n, e, h3, h2⟩ := onCells_ok (nx := nx) h2
      obtain ⟨h4, h2⟩ := fB_ok h2
      rw [T.getN_eq] at h2
      exact val (c.get off) (by unfold fop; rw [hop]; simp only [h1, loadA, hagg, Heap.load, h3, h4]) h2
    · rename_i s hagg hsz
      obtain ⟨v, h1, h2⟩ := srcK_ok hs h
      obtain ⟨id, off, rfl, h2⟩ := onPtr_ok h2
      obtain ⟨c, m, e, h3, h2⟩ := onCells_ok (nx := nx) h2
      obtain ⟨h4, h2⟩ := fB_ok h2
      rw [T.listK_eq] at h2
      have h4 : Nat.ble (off + s) m = true := h4
      exact val (.agg (c.list off s)) (by unfold fop; rw [hop]; simp only [h1, loadA, hagg, hsz, Heap.loads, h3, h4]) h2
    · exact hOldV_ok h
  · -- the address of a field
    rename_i ty x i hop
    split at h
    · rename_i fields hu
      split at h
      · rename_i g hg
        split at h
        · rename_i n hsz
          obtain ⟨v, h1, h2⟩ := srcK_ok hs h
          obtain ⟨id, off, rfl, h2⟩ := onPtr_ok h2
          exact val (.ptr id (off + g.offset)) (by unfold fop; rw [hop]; simp only [hu, h1, hg, hsz]) h2
        · exact hOldV_ok h
      · exact hOldV_ok h
    · exact hOldV_ok h
  · -- the address of an element
    rename_i ty x ix hop
    split at h
    · rename_i n e hu
      split at h
      · rename_i s hsz
        obtain ⟨v, h1, h2⟩ := srcK_ok hs h
        obtain ⟨w, h3, h2⟩ := srcK_ok hs h2
        obtain ⟨id, off, rfl, h2⟩ := onPtr_ok h2
        rcases onInt_ok h2 with ⟨k, j, rfl, h2⟩ | h2
        · obtain ⟨j, rfl, h2⟩ := onNat_ok h2
          obtain ⟨h4, h2⟩ := fB_ok h2
          exact val (.ptr id (off + j * s)) (by unfold fop; rw [hop]; simp only [hu, h1, h3, hsz, h4]) h2
        · cases h2
      · exact hOldV_ok h
    · rename_i e hu
      split at h
      · rename_i s hsz
        obtain ⟨v, h1, h2⟩ := srcK_ok hs h
        obtain ⟨w, h3, h2⟩ := srcK_ok hs h2
        rcases onInt_ok h2 with ⟨k, j, rfl, h2⟩ | h2
        · obtain ⟨j, rfl, h2⟩ := onNat_ok h2
          cases v with
          | slice id off len cap =>
            obtain ⟨h4, h2⟩ := fB_ok h2
            exact val (.ptr id (off + j * s)) (by unfold fop; rw [hop]; simp only [hu, h1, h3, hsz, sliceOf, h4]) h2
          | osl id off0 off len k2 =>
            obtain ⟨h4, h2⟩ := fB_ok h2
            exact val (.ptr id (off + j * s)) (by unfold fop; rw [hop]; simp only [hu, h1, h3, hsz, sliceOf, h4]) h2
          | _ => exact nomatch (show false = true from h2)
        · cases h2
      · exact hOldV_ok h
    · exact hOldV_ok h
  · -- nilCheck
    rename_i x hop
    obtain ⟨v, h1, h2⟩ := srcK_ok hs h
    cases v with
    | ptr id off => exact val (.ptr id off) (by unfold fop; rw [hop]; simp only [h1]) h2
    | iface ty v => exact val (.iface ty v) (by unfold fop; rw [hop]; simp only [h1]) h2
    | fn f a b =>
      cases f with
      | func g => exact val (.fn (.func g) a b) (by unfold fop; rw [hop]; simp only [h1]) h2
      | _ => exact nomatch (show false = true from h2)
    | _ => exact nomatch (show false = true from h2)
  · -- two operands
    rename_i op ty x y yt hop
    obtain ⟨a, b, r, h1, h2, h3, h4⟩ := hBin_ok hs h
    exact val r (by unfold fop; rw [hop]; simp only [h1, h2, h3]) h4
  · -- a part of a tuple
    rename_i x i hop
    obtain ⟨v, h1, h2⟩ := srcK_ok hs h
    cases v with
    | tup l =>
      obtain ⟨r, h3, h4⟩ := onO_ok (show onO l[i]? K = true from h2)
      exact val r (by unfold fop; rw [hop]; simp only [h1, h3]) h4
    | _ => exact nomatch (show false = true from h2)
  · -- len
    rename_i args argTypes hop
    split at h
    · rename_i x ty ts hx hty
      split at h
      · rename_i e hu
        obtain ⟨v, h1, h2⟩ := srcK_ok hs h
        cases v with
        | nils => exact val (.int .i64 (.ofNat 0)) (by unfold fop; rw [hop]; simp only [hx, hty, h1, lenA, hu]; rfl) h2
        | slice id off len cap => exact val (.int .i64 (.ofNat len)) (by unfold fop; rw [hop]; simp only [hx, hty, h1, lenA, hu]) h2
        | osl id off0 off len k => exact val (.int .i64 (.ofNat len)) (by unfold fop; rw [hop]; simp only [hx, hty, h1, lenA, hu]) h2
        | _ => exact nomatch (show false = true from h2)
      · exact hOldV_ok h
    · exact hOldV_ok h
  · exact hOldV_ok h
end
end Ev
end Go.Proofs.YtpppaheennkkpaaGreatDoor

/- The compiled run: operations that turn memory; operations one behind the other. -/
namespace Go.Proofs.YtpppaheennkkpaaGreatDoor
namespace Ev

section
variable {P : Program} {G : Nat → Option Nat} {sz : Nat} {t : T AV} {ht : HT} {nx : Nat} {call : CallF} {callk : CallK}

def CallKOK (call : CallF) (callk : CallK) : Prop := ∀ g args ht nx K, callk g args ht nx K = true → ∃ r H', call g args ⟨ht, nx⟩ = some (r, H') ∧ K r H'.t H'.next = true

theorem aop_none {f : Fr} {o : Oper} {H : Heap} {r : AV × Heap} (h : aop P (fun _ _ _ => none) f o H = some r) : aop P call f o H = some r := by
  unfold aop at h ⊢
  split at h
  case h_7 =>
    split at h <;> cases h
  case h_8 =>
    split at h
    · split at h <;> cases h
    · cases h
  all_goals exact h

theorem stores_one {H : Heap} {id off m : Nat} {c : T AV} {ty : TypeId} {w : AV} (hw : cellsOf w = [w]) (hp : w.plain = true) (hg : H.get id = some (.cells c m ty)) (hb : Nat.blt off m = true) :
    H.stores id off (cellsOf w) = some ⟨T.set 16 H.t id (some (.cells (T.set (dep m) c off w) m ty)), H.next⟩ := by
  have hb' : Nat.ble (off + [w].length) m = true := hb
  have hall : [w].all AV.plain = true := by simp [hp]
  unfold Heap.stores
  rw [hw, hg]
  simp only [hb', hall]
  rfl

theorem caK_ok (hs : sz ≤ 512) (hc : CallKOK call callk) {o : Oper} {K : KA} (h : caK P G callk sz (caOf P sz o) t ht nx K = true) :
    ∃ v H', aop P call ⟨t, sz, G⟩ o ⟨ht, nx⟩ = some (v, H') ∧ K v H'.t H'.next = true := by
  have old : hOldA P G sz o t ht nx K = true → ∃ v H', aop P call ⟨t, sz, G⟩ o ⟨ht, nx⟩ = some (v, H') ∧ K v H'.t H'.next = true := fun h => by
    obtain ⟨⟨v, H'⟩, h1, h2⟩ := onO_ok h
    have h2 : fV v (fun v => K v H'.t H'.next) = true := h2
    rw [fV_eq] at h2
    exact ⟨v, H', aop_none h1, h2⟩
  unfold caOf at h
  split at h
  · -- store
    rename_i ty a x hop
    split at h
    · rename_i s hsz
      obtain ⟨v, h1, h2⟩ := srcK_ok hs h
      obtain ⟨w, h3, h2⟩ := srcK_ok hs h2
      obtain ⟨id, off, rfl, h2⟩ := onPtr_ok h2
      obtain ⟨c, m, e, h4, h2⟩ := onCells_ok (nx := nx) h2
      have one : ∀ (w : AV), ev ⟨t, sz, G⟩ x = some w → cellsOf w = [w] → w.plain = true → storeOne s c m e id off w ht nx K = true → ∃ v H', aop P call ⟨t, sz, G⟩ o ⟨ht, nx⟩ = some (v, H') ∧ K v H'.t H'.next = true := fun w h3 g1 g2 g3 => by
        obtain ⟨g4, g5⟩ := fB_ok g3
        rw [Bool.and_eq_true] at g4
        rw [T.setN_eq] at g5
        unfold putBlk at g5
        rw [T.setN_eq] at g5
        refine ⟨undefA, ⟨T.set 16 ht id (some (.cells (T.set (dep m) c off w) m e)), nx⟩, ?_, g5⟩
        · unfold aop
          rw [hop]
          have g6 : Nat.beq (cellsOf w).length s = true := by
            rw [g1]
            have := Nat.eq_of_beq_eq_true g4.1
            rw [this]; rfl
          simp only [h1, h3, hsz, g6, stores_one g1 g2 h4 g4.2]
      cases w with
      | agg l =>
        obtain ⟨g1, g2⟩ := fB_ok (show fB (Nat.beq l.length s && Nat.ble (Nat.add off s) m && l.all AV.plain) (T.layK (dep m) l c off fun c => putBlk ht id (.cells c m e) fun ht => K undefA ht nx) false = true from h2)
        rw [Bool.and_eq_true, Bool.and_eq_true] at g1
        obtain ⟨⟨g3, g4⟩, g5⟩ := g1
        rw [T.layK_eq] at g2
        unfold putBlk at g2
        rw [T.setN_eq] at g2
        refine ⟨undefA, ⟨T.set 16 ht id (some (.cells (T.lay (dep m) c off l) m e)), nx⟩, ?_, g2⟩
        · have hl := Nat.eq_of_beq_eq_true g3
          have g6 : Nat.ble (off + l.length) m = true := by rw [hl]; exact g4
          unfold aop
          rw [hop]
          have hst : (⟨ht, nx⟩ : Heap).stores id off (cellsOf (.agg l)) = some ⟨T.set 16 ht id (some (.cells (T.lay (dep m) c off l) m e)), nx⟩ := by
            unfold Heap.stores
            simp only [cellsOf, h4, g6, g5]
            rfl
          have g7 : Nat.beq (cellsOf (.agg l)).length s = true := g3
          simp only [h1, h3, hsz, g7, hst]
      | tup l => exact nomatch (show false = true from h2)
      | _ => exact one _ h3 rfl rfl h2
    · exact old h
  · -- a call of a function
    rename_i g args argTypes hop
    obtain ⟨l, h1, h2⟩ := srcsK_ok hs h
    obtain ⟨r, H', h3, h4⟩ := hc _ _ _ _ _ h2
    refine ⟨r, H', ?_, h4⟩
    unfold aop
    rw [hop]
    simp only [ev, h1, List.nil_append, List.append_nil, h3]
  · -- a call of a value
    rename_i x args argTypes _ hop
    obtain ⟨v, h1, h2⟩ := srcK_ok hs h
    obtain ⟨l, h3, h2⟩ := srcsK_ok hs h2
    cases v with
    | fn f a b =>
      cases f with
      | func g =>
        obtain ⟨r, H', h4, h5⟩ := hc _ _ _ _ _ (show callk g (a ++ (l ++ b)) ht nx K = true from h2)
        refine ⟨r, H', ?_, h5⟩
        unfold aop
        rw [hop]
        simp only [h1, h3, h4]
      | _ => exact nomatch (show false = true from h2)
    | _ => exact nomatch (show false = true from h2)
  · -- a call of a method
    rename_i r name args argTypes hop
    obtain ⟨v, h1, h2⟩ := srcK_ok hs h
    obtain ⟨l, h3, h2⟩ := srcsK_ok hs h2
    cases v with
    | iface ty w =>
      obtain ⟨⟨g, recv⟩, h4, h5⟩ := onO_ok (show (onO (methodA P ty w name) fun m => Prod.rec (motive := fun _ => Bool) (fun g recv => callk g (recv :: l) ht nx K) m) = true from h2)
      obtain ⟨r', H', h6, h7⟩ := hc _ _ _ _ _ (show callk g (recv :: l) ht nx K = true from h5)
      refine ⟨r', H', ?_, h7⟩
      unfold aop
      rw [hop]
      simp only [h1, h3, h4, h6]
    | _ => exact nomatch (show false = true from h2)
  · exact old h

theorem ciOf_eq {ops : Array Oper} {o : Oper} : ciOf P sz ops o = if isAct o.op then .a (caOf P sz o) (dsOf sz o.dst) (gdOf sz ops o) else .v (cvOf P sz o) (dsOf sz o.dst) (gdOf sz ops o) := by
  unfold ciOf
  cases isAct o.op <;> rfl

/-- Operations one behind the other. -/
theorem opsK_ok (hs : sz ≤ 512) (hc : CallKOK call callk) {ops : Array Oper} : ∀ (l : List Oper) (t : T AV) (ht : HT) (nx : Nat) (K : T AV → HT → Nat → Bool), opsK P G callk sz (l.map (ciOf P sz ops)) t ht nx K = true →
    ∃ t' H', seqA P call ops l ⟨t, sz, G⟩ ⟨ht, nx⟩ = some (⟨t', sz, G⟩, H') ∧ K t' H'.t H'.next = true
  | [], t, ht, nx, K, h => ⟨t, ⟨ht, nx⟩, rfl, h⟩
  | o :: l, t, ht, nx, K, h => by
    rw [List.map_cons, ciOf_eq] at h
    unfold seqA
    by_cases ha : isAct o.op = true
    · rw [if_pos ha] at h
      have h : gdK (gdOf sz ops o) t (caK P G callk sz (caOf P sz o) t ht nx fun v ht nx => dsK (dsOf sz o.dst) t v fun t => opsK P G callk sz (l.map (ciOf P sz ops)) t ht nx K)
        (dsK (dsOf sz o.dst) t undefA fun t => opsK P G callk sz (l.map (ciOf P sz ops)) t ht nx K) = true := h
      rcases gdK_ok (G := G) hs h with ⟨hw, h⟩ | ⟨hw, h⟩
      · obtain ⟨v, H1, h1, h2⟩ := caK_ok hs hc h
        obtain ⟨t1, h3, h4⟩ := dsK_ok (G := G) h2
        obtain ⟨t', H', h5, h6⟩ := opsK_ok hs hc l _ _ _ _ h4
        refine ⟨t', H', ?_, h6⟩
        simp only [hw, ha, h1, force_eq, h3]
        exact h5
      · obtain ⟨t1, h3, h4⟩ := dsK_ok (G := G) h
        obtain ⟨t', H', h5, h6⟩ := opsK_ok hs hc l _ _ _ _ h4
        refine ⟨t', H', ?_, h6⟩
        simp only [hw, h3]
        exact h5
    · rw [if_neg ha] at h
      have ha : isAct o.op = false := by simpa using ha
      have h : gdK (gdOf sz ops o) t (cvK P G sz (cvOf P sz o) t ht nx (fun v => dsK (dsOf sz o.dst) t v fun t => opsK P G callk sz (l.map (ciOf P sz ops)) t ht nx K)
          (fun k v => fB (Nat.blt nx 65536) (putBlk ht nx k fun ht => fV0 (v nx) fun v => dsK (dsOf sz o.dst) t v fun t => fN (Nat.succ nx) fun nx => opsK P G callk sz (l.map (ciOf P sz ops)) t ht nx K) false))
        (dsK (dsOf sz o.dst) t undefA fun t => opsK P G callk sz (l.map (ciOf P sz ops)) t ht nx K) = true := h
      rcases gdK_ok (G := G) hs h with ⟨hw, h⟩ | ⟨hw, h⟩
      · rcases cvK_ok hs h with ⟨v, h1, h2⟩ | ⟨k, n, v, h1, h2⟩
        · obtain ⟨t1, h3, h4⟩ := dsK_ok (G := G) h2
          obtain ⟨t', H', h5, h6⟩ := opsK_ok hs hc l _ _ _ _ h4
          refine ⟨t', H', ?_, h6⟩
          simp only [hw, ha, h1, force_eq, h3]
          exact h5
        · obtain ⟨hb, h2⟩ := fB_ok h2
          unfold putBlk at h2
          rw [T.setN_eq, fV0_eq] at h2
          obtain ⟨t1, h3, h4⟩ := dsK_ok (G := G) h2
          rw [fN_eq] at h4
          obtain ⟨t', H', h5, h6⟩ := opsK_ok hs hc l _ _ _ _ h4
          refine ⟨t', H', ?_, h6⟩
          simp only [hw, ha, h1, hb, h3]
          exact h5
      · obtain ⟨t1, h3, h4⟩ := dsK_ok (G := G) h
        obtain ⟨t', H', h5, h6⟩ := opsK_ok hs hc l _ _ _ _ h4
        refine ⟨t', H', ?_, h6⟩
        simp only [hw, h3]
        exact h5
end
end Ev
end Go.Proofs.YtpppaheennkkpaaGreatDoor

/- The compiled run: a statement whose order Go leaves open. -/
namespace Go.Proofs.YtpppaheennkkpaaGreatDoor
namespace Ev

def mksOf : List Rec → Nat → List Mk
  | [], _ => []
  | r :: l, i => match r.kd with
    | .mk id k => ⟨i, id, k⟩ :: mksOf l (i + 1)
    | _ => mksOf l (i + 1)
theorem mksOf_snoc : ∀ (l : List Rec) (r : Rec) (i : Nat), mksOf (l ++ [r]) i = mksOf l i ++ (match r.kd with
    | .mk id k => [⟨i + l.length, id, k⟩]
    | _ => [])
  | [], r, i => by
    show mksOf [r] i = _
    unfold mksOf
    cases r.kd <;> rfl
  | x :: l, r, i => by
    have ih := mksOf_snoc l r (i + 1)
    show mksOf (x :: (l ++ [r])) i = _
    unfold mksOf
    rw [ih, List.length_cons, show i + 1 + l.length = i + (l.length + 1) by omega]
    cases x.kd <;> rfl
theorem snocK_eq {α : Type} (x : α) : ∀ (l : List α) (K : List α → Bool), snocK x l K = K (l ++ [x])
  | [], K => rfl
  | y :: l, K => by
    have e : snocK x (y :: l) K = snocK x l (fun l => K (y :: l)) := rfl
    rw [e, snocK_eq x l]
    rfl
theorem view_next (mask M : Nat) (C : Heap) (rs : List Rec) (i : Nat) : (view mask M C rs i).next = C.next := by
  rw [view_eq, viewP_next]
theorem viewK_eq (mask M : Nat) : ∀ (rs : List Rec) (C : Heap) (i : Nat) (K : HT → Bool), viewK mask M (mksOf rs i) C.t K = K (view mask M C rs i).t
  | [], C, i, K => rfl
  | r :: l, C, i, K => by
    unfold mksOf view
    cases r.kd with
    | mk id k =>
      simp only []
      have e : viewK mask M (⟨i, id, k⟩ :: mksOf l (i + 1)) C.t K = fB (Nat.testBit mask i && !Nat.testBit M i) (putBlk C.t id k fun ht => viewK mask M (mksOf l (i + 1)) ht K) (viewK mask M (mksOf l (i + 1)) C.t K) := rfl
      rw [e]
      cases (Nat.testBit mask i && !Nat.testBit M i) with
      | true =>
        show putBlk C.t id k (fun ht => viewK mask M (mksOf l (i + 1)) ht K) = _
        unfold putBlk
        rw [T.setN_eq]
        exact viewK_eq mask M l (C.put id k) (i + 1) K
      | false => exact viewK_eq mask M l C (i + 1) K
    | _ => exact viewK_eq mask M l C (i + 1) K
theorem lastK_eq (M : Nat) : ∀ (rs : List Rec) (C : Heap) (i : Nat) (K : HT → Bool), lastK M (mksOf rs i) C.t K = K (lastView M C rs i).t
  | [], C, i, K => rfl
  | r :: l, C, i, K => by
    unfold mksOf lastView
    cases r.kd with
    | mk id k =>
      simp only []
      have e : lastK M (⟨i, id, k⟩ :: mksOf l (i + 1)) C.t K = fB (Nat.testBit M i) (lastK M (mksOf l (i + 1)) C.t K) (putBlk C.t id k fun ht => lastK M (mksOf l (i + 1)) ht K) := rfl
      rw [e]
      cases Nat.testBit M i with
      | true => exact lastK_eq M l C (i + 1) K
      | false =>
        show putBlk C.t id k (fun ht => lastK M (mksOf l (i + 1)) ht K) = _
        unfold putBlk
        rw [T.setN_eq]
        exact lastK_eq M l (C.put id k) (i + 1) K
    | _ => exact lastK_eq M l C (i + 1) K
noncomputable def latesOf (bm : T Nat) : List Rec → Nat → List Lt
  | [], _ => []
  | r :: l, i => match r.kd with
    | .late id k => ⟨i, bm.get i, id, k⟩ :: latesOf bm l (i + 1)
    | _ => latesOf bm l (i + 1)
theorem latesOf_snoc (bm : T Nat) : ∀ (l : List Rec) (r : Rec) (i : Nat), latesOf bm (l ++ [r]) i = latesOf bm l i ++ (match r.kd with
    | .late id k => [⟨i + l.length, bm.get (i + l.length), id, k⟩]
    | _ => [])
  | [], r, i => by
    show latesOf bm [r] i = _
    unfold latesOf
    cases r.kd <;> rfl
  | x :: l, r, i => by
    have ih := latesOf_snoc bm l r (i + 1)
    show latesOf bm (x :: (l ++ [r])) i = _
    unfold latesOf
    rw [ih, List.length_cons, show i + 1 + l.length = i + (l.length + 1) by omega]
    cases x.kd <;> rfl
theorem latesOf_mem {bm : T Nat} : ∀ (l : List Rec) (i j : Nat) (r : Rec) (id : Nat) (k : ABlk), l[j]? = some r → r.kd = .late id k → (⟨i + j, bm.get (i + j), id, k⟩ : Lt) ∈ latesOf bm l i
  | x :: l, i, 0, r, id, k, hr, hk => by
    cases hr
    unfold latesOf
    rw [hk]
    simp
  | x :: l, i, j + 1, r, id, k, hr, hk => by
    have := latesOf_mem (bm := bm) l (i + 1) j r id k (by simpa using hr) hk
    rw [show i + 1 + j = i + (j + 1) by omega] at this
    unfold latesOf
    cases x.kd <;> first | exact this | exact List.mem_cons_of_mem _ this
theorem mksOf_mem : ∀ (l : List Rec) (i j : Nat) (r : Rec) (id : Nat) (k : ABlk), l[j]? = some r → r.kd = .mk id k → (⟨i + j, id, k⟩ : Mk) ∈ mksOf l i
  | x :: l, i, 0, r, id, k, hr, hk => by
    cases hr
    unfold mksOf
    rw [hk]
    simp
  | x :: l, i, j + 1, r, id, k, hr, hk => by
    have := mksOf_mem l (i + 1) j r id k (by simpa using hr) hk
    rw [show i + 1 + j = i + (j + 1) by omega] at this
    unfold mksOf
    cases x.kd <;> first | exact this | exact List.mem_cons_of_mem _ this
theorem latesK_eq (bm : T Nat) : ∀ (rs : List Rec) (i : Nat) (H : Heap) (K : HT → Bool), latesK (latesOf bm rs i) H.t K = K (lateH rs H).t
  | [], _, _, _ => rfl
  | r :: l, i, H, K => by
    have ih := fun H => latesK_eq bm l (i + 1) H K
    unfold latesOf lateH
    cases r.kd with
    | late id k =>
      simp only []
      show putBlk H.t id k (fun ht => latesK (latesOf bm l (i + 1)) ht K) = _
      unfold putBlk
      rw [T.setN_eq]
      exact ih (H.put id k)
    | _ => exact ih _
theorem lateH_next : ∀ (rs : List Rec) (H : Heap), (lateH rs H).next = H.next
  | [], _ => rfl
  | r :: l, H => by
    have ih := fun H => lateH_next l H
    unfold lateH
    cases r.kd <;> exact ih _
theorem lateChk_spec {A : Nat} {mks : List Mk} {fs : List Flt} {all : List Lt} : ∀ (ls : List Lt), lateChk A mks fs all ls = true → ∀ x, x ∈ ls → Nat.land x.m A = A ∧ (∀ y, y ∈ mks → Nat.testBit x.m y.i = true) ∧ (∀ y, y ∈ fs → Nat.testBit x.m y.i = true) ∧ (∀ y, y ∈ all → y.i = x.i ∨ y.id ≠ x.id)
  | z :: l, h, x, hx => by
    have h : (Nat.beq (Nat.land z.m A) A && (mks.all fun y => Nat.testBit z.m y.i) && (fs.all fun y => Nat.testBit z.m y.i) && (all.all fun y => Nat.beq y.i z.i || !Nat.beq y.id z.id) && lateChk A mks fs all l) = true := h
    simp only [Bool.and_eq_true] at h
    obtain ⟨⟨⟨⟨h1, h2⟩, h3⟩, h4⟩, h5⟩ := h
    rcases List.mem_cons.1 hx with rfl | hx
    · refine ⟨Nat.eq_of_beq_eq_true h1, fun y hy => List.all_eq_true.1 h2 y hy, fun y hy => List.all_eq_true.1 h3 y hy, fun y hy => ?_⟩
      have := List.all_eq_true.1 h4 y hy
      rw [Bool.or_eq_true] at this
      rcases this with e | e
      · exact .inl (Nat.eq_of_beq_eq_true e)
      · refine .inr (fun q => ?_)
        rw [q, Nat.beq_refl] at e
        cases e
    · exact lateChk_spec l h5 x hx
theorem lateOne_of {mask id i0 : Nat} : ∀ (ol : List Oper) (rl : List Rec) (k : Nat), ol.length = rl.length → (∀ j o r, ol[j]? = some o → rl[j]? = some r → lateFact mask id i0 o r (k + j)) → lateOne mask id i0 ol rl k = true
  | [], [], _, _, _ => rfl
  | [], _ :: _, _, h, _ => by cases h
  | _ :: _, [], _, h, _ => by cases h
  | o :: ol, r :: rl, k, hl, h => by
    have ih := lateOne_of (mask := mask) (id := id) (i0 := i0) ol rl (k + 1) (by simpa using hl) (fun j o' r' h1 h2 => by
      have := h (j + 1) o' r' (by simpa using h1) (by simpa using h2)
      rw [show k + 1 + j = k + (j + 1) by omega]; exact this)
    have h0 := h 0 o r rfl rfl
    rw [Nat.add_zero] at h0
    rw [lateOne_cons, ih, Bool.and_true]
    unfold lateFact at h0
    generalize r.kd = kd at h0
    cases kd with
    | skip => rfl
    | flt =>
      simp only []
      cases hd : hdep o.op with
      | true => simp [h0 hd]
      | false => rfl
    | mk a b => exact h0
    | act => exact h0
    | late a b =>
      simp only []
      rcases h0 with e | e
      · subst e; simp
      · have : Nat.beq a id = false := by
          cases hb : Nat.beq a id with
          | false => rfl
          | true => exact absurd (Nat.eq_of_beq_eq_true hb) e
        rw [this]; simp
theorem lateAll_of {bm : T Nat} {ops : List Oper} {rs : List Rec} : ∀ (l : List Rec) (i : Nat), (∀ (j : Nat) (r : Rec) (id : Nat) (k : ABlk), l[j]? = some r → r.kd = .late id k → lateOne (bm.get (i + j)) id (i + j) ops rs 0 = true) → lateAll bm ops rs l i = true
  | [], _, _ => rfl
  | r :: l, i, h => by
    have ih := lateAll_of (bm := bm) (ops := ops) (rs := rs) l (i + 1) (fun j r' id k h1 h2 => by
      have := h (j + 1) r' id k (by simpa using h1) h2
      rw [show i + 1 + j = i + (j + 1) by omega]; exact this)
    unfold lateAll
    rw [ih, Bool.and_true]
    cases hk : r.kd with
    | late id k => exact h 0 r id k rfl hk
    | _ => rfl
theorem stages_of : ∀ {l : List Rec} {s : Stage}, s ∈ stages l → ∃ (j : Nat) (r : Rec), l[j]? = some r ∧ r.kd = .act ∧ s = ⟨r.C, r.M, r.A⟩
  | [], s, h => by cases h
  | r :: l, s, h => by
    have rest : s ∈ stages l → ∃ (j : Nat) (r' : Rec), (r :: l)[j]? = some r' ∧ r'.kd = .act ∧ s = ⟨r'.C, r'.M, r'.A⟩ := fun h => by
      obtain ⟨j, r', h1, h2⟩ := stages_of h
      exact ⟨j + 1, r', by simpa using h1, h2⟩
    unfold stages at h
    cases hk : r.kd with
    | act =>
      rw [hk] at h
      rcases List.mem_cons.1 h with h | h
      · exact ⟨0, r, rfl, hk, h⟩
      · exact rest h
    | _ => rw [hk] at h; exact rest h

section
variable {P : Program} {G : Nat → Option Nat} {sz : Nat} {call : CallF} {callk : CallK} {ops : Array Oper} {bm : T Nat}

theorem fltAt_of {o : Oper} {r : Rec} {i mask At : Nat} {rs : List Rec} : ∀ {ss : List Stage}, (∀ s, s ∈ ss → Nat.beq (Nat.land (Nat.land mask At) s.A) (Nat.land mask At) = true → Nat.testBit s.M i = false → ∃ v, fop P r.f o (view mask s.M s.C rs 0) = some (.val v) ∧ abeq v r.v = true) →
    fltAt P o r i mask At rs ss = true
  | [], _ => rfl
  | s :: l, h => by
    have ih := fltAt_of (ss := l) (fun s hs => h s (List.mem_cons_of_mem _ hs))
    unfold fltAt
    split
    · rename_i hc
      rw [Bool.and_eq_true, Bool.not_eq_true'] at hc
      obtain ⟨v, h1, h2⟩ := h s (by simp) hc.1 hc.2
      rw [h1]
      simp only [h2, ih, Bool.and_self]
    · exact ih
theorem fltAll_of {At : Nat} {rs : List Rec} {ss : List Stage} : ∀ {ol : List Oper} {rl : List Rec} {k : Nat}, ol.length = rl.length → (∀ i o r, ol[i]? = some o → rl[i]? = some r → r.kd = .flt → hdep o.op = true → fltAt P o r (k + i) (bm.get (k + i)) At rs ss = true) → fltAll P bm At rs ss ol rl k = true
  | [], [], k, _, _ => rfl
  | [], _ :: _, k, h, _ => by cases h
  | _ :: _, [], k, h, _ => by cases h
  | o :: ol, r :: rl, k, hl, h => by
    have ih := fltAll_of (ol := ol) (rl := rl) (k := k + 1) (by simpa using hl) (fun i o' r' h1 h2 h3 h4 => by
      have := h (i + 1) o' r' (by simpa using h1) (by simpa using h2) h3 h4
      rw [show k + 1 + i = k + (i + 1) by omega]; exact this)
    have h0 := h 0 o r rfl rfl
    unfold fltAll
    rw [ih, Bool.and_true]
    cases hk : r.kd with
    | flt =>
      simp only []
      cases hd : hdep o.op with
      | true => exact h0 hk hd
      | false => rfl
    | _ => rfl

/-- One floating operation at all stages. -/
theorem fltK_ok (hs : sz ≤ 512) {o : Oper} {t : T AV} {v : AV} {i m At : Nat} {rs : List Rec} : ∀ (ss : List Stg) (K : Bool), fltK P G sz At (mksOf rs 0) (cvOf P sz o) t v i m ss K = true →
    K = true ∧ ∀ s, s ∈ ss → Nat.beq (Nat.land (Nat.land m At) s.A) (Nat.land m At) = true → Nat.testBit s.M i = false → ∃ w, fop P ⟨t, sz, G⟩ o (view m s.M ⟨s.ht, s.nx⟩ rs 0) = some (.val w) ∧ abeq w v = true
  | [], K, h => ⟨h, fun s hs => by cases hs⟩
  | s :: l, K, h => by
    have h : fB (Nat.beq (Nat.land (Nat.land m At) s.A) (Nat.land m At) && !Nat.testBit s.M i) (viewK m s.M (mksOf rs 0) s.ht fun ht => cvK P G sz (cvOf P sz o) t ht s.nx (fun w => fB (abeq w v) (fltK P G sz At (mksOf rs 0) (cvOf P sz o) t v i m l K) false) (fun _ _ => false))
      (fltK P G sz At (mksOf rs 0) (cvOf P sz o) t v i m l K) = true := h
    cases hc : (Nat.beq (Nat.land (Nat.land m At) s.A) (Nat.land m At) && !Nat.testBit s.M i) with
    | false =>
      rw [hc] at h
      obtain ⟨h1, h2⟩ := fltK_ok hs l K h
      refine ⟨h1, fun s' hs' g1 g2 => ?_⟩
      rcases List.mem_cons.1 hs' with rfl | hs'
      · rw [g1, g2] at hc; cases hc
      · exact h2 s' hs' g1 g2
    | true =>
      rw [hc] at h
      have h : viewK m s.M (mksOf rs 0) (⟨s.ht, s.nx⟩ : Heap).t (fun ht => cvK P G sz (cvOf P sz o) t ht s.nx (fun w => fB (abeq w v) (fltK P G sz At (mksOf rs 0) (cvOf P sz o) t v i m l K) false) (fun _ _ => false)) = true := h
      rw [viewK_eq] at h
      rcases cvK_ok hs h with ⟨w, g1, g2⟩ | ⟨k, n, w, g1, g2⟩
      · obtain ⟨g3, g4⟩ := fB_ok g2
        obtain ⟨h1, h2⟩ := fltK_ok hs l K g4
        refine ⟨h1, fun s' hs' g5 g6 => ?_⟩
        rcases List.mem_cons.1 hs' with rfl | hs'
        · refine ⟨w, ?_, g3⟩
          have e : (⟨(view m s'.M ⟨s'.ht, s'.nx⟩ rs 0).t, s'.nx⟩ : Heap) = view m s'.M ⟨s'.ht, s'.nx⟩ rs 0 := by
            have := view_next m s'.M ⟨s'.ht, s'.nx⟩ rs 0
            cases hv : view m s'.M ⟨s'.ht, s'.nx⟩ rs 0 with
            | mk tt nn => rw [hv] at this; simp only at this; rw [this]
          rw [← e]; exact g1
        · exact h2 s' hs' g5 g6
      · cases g2
theorem fltsK_ok (hs : sz ≤ 512) {At : Nat} {rs : List Rec} {ss : List Stg} : ∀ (fs : List Flt) (K : Bool), (∀ x, x ∈ fs → ∃ o, x.c = cvOf P sz o) → fltsK P G sz At (mksOf rs 0) ss fs K = true →
    K = true ∧ ∀ x, x ∈ fs → ∀ o, x.c = cvOf P sz o → ∀ s, s ∈ ss → Nat.beq (Nat.land (Nat.land x.m At) s.A) (Nat.land x.m At) = true → Nat.testBit s.M x.i = false → ∃ w, fop P ⟨x.t, sz, G⟩ o (view x.m s.M ⟨s.ht, s.nx⟩ rs 0) = some (.val w) ∧ abeq w x.v = true
  | [], K, _, h => ⟨h, fun x hx => by cases hx⟩
  | x :: l, K, hf, h => by
    have h : fltK P G sz At (mksOf rs 0) x.c x.t x.v x.i x.m ss (fltsK P G sz At (mksOf rs 0) ss l K) = true := h
    obtain ⟨o, ho⟩ := hf x (by simp)
    have h1 := (fltK_ok hs ss _ (ho ▸ h)).1
    obtain ⟨h2, h3⟩ := fltsK_ok hs l K (fun y hy => hf y (List.mem_cons_of_mem _ hy)) h1
    refine ⟨h2, fun y hy o' ho' => ?_⟩
    rcases List.mem_cons.1 hy with rfl | hy
    · exact (fltK_ok hs ss _ (ho' ▸ h)).2
    · exact h3 y hy o' ho'

/-- What the run hands on at its end. -/
structure RunTo (P : Program) (G : Nat → Option Nat) (sz : Nat) (bm : T Nat) (K : T AV → HT → Nat → Bool) (l : List Oper) (rs : List Rec) (ss : List Stg) (fs : List Flt) (rs' : List Rec) (t' : T AV) (C' : Heap) (M' A' : Nat) : Prop where
  tail : ∃ tl, rs' = rs ++ tl ∧ tl.length = l.length
  fin : ∃ ss' fs', endK P G sz K t' C'.t C'.next M' A' (mksOf rs' 0) ss' fs' (latesOf bm rs' 0) = true ∧ (∀ s, s ∈ ss → s ∈ ss') ∧ (∀ x, x ∈ fs → x ∈ fs') ∧ (∀ x, x ∈ fs' → x ∈ fs ∨ ∃ o, x.c = cvOf P sz o) ∧
    (∀ (j : Nat) (r : Rec), rs.length ≤ j → rs'[j]? = some r → r.kd = .act → (⟨r.C.t, r.C.next, r.M, r.A⟩ : Stg) ∈ ss') ∧
    (∀ (j : Nat) (o : Oper) (r : Rec), l[j]? = some o → rs'[rs.length + j]? = some r → r.kd = .flt → hdep o.op = true → (⟨cvOf P sz o, r.f.t, r.v, rs.length + j, bm.get (rs.length + j)⟩ : Flt) ∈ fs' ∧ r.f = ⟨r.f.t, sz, G⟩)

theorem mk_eta (V : Heap) (n : Nat) (h : V.next = n) : (⟨V.t, n⟩ : Heap) = V := by
  cases V with
  | mk t m => cases h; rfl

theorem RunTo.cons {K : T AV → HT → Nat → Bool} {o : Oper} {l : List Oper} {rs : List Rec} {r : Rec} {ss ss1 : List Stg} {fs fs1 : List Flt} {rs' : List Rec} {t' : T AV} {C' : Heap} {M' A' : Nat}
    (h : RunTo P G sz bm K l (rs ++ [r]) ss1 fs1 rs' t' C' M' A') (h1 : ∀ s, s ∈ ss → s ∈ ss1) (h2 : ∀ x, x ∈ fs → x ∈ fs1) (h3 : ∀ x, x ∈ fs1 → x ∈ fs ∨ ∃ o, x.c = cvOf P sz o)
    (h4 : r.kd = .act → (⟨r.C.t, r.C.next, r.M, r.A⟩ : Stg) ∈ ss1) (h5 : r.kd = .flt → hdep o.op = true → (⟨cvOf P sz o, r.f.t, r.v, rs.length, bm.get rs.length⟩ : Flt) ∈ fs1 ∧ r.f = ⟨r.f.t, sz, G⟩) :
    RunTo P G sz bm K (o :: l) rs ss fs rs' t' C' M' A' := by
  obtain ⟨⟨tl, e1, e2⟩, ss', fs', g1, g2, g3, g4, g5, g6⟩ := h
  have hget : rs'[rs.length]? = some r := by rw [e1]; simp
  refine ⟨⟨r :: tl, by rw [e1]; simp, by simp [e2]⟩, ss', fs', g1, fun s hs => g2 s (h1 s hs), fun x hx => g3 x (h2 x hx), fun x hx => ?_, fun j r' hj hr' hk => ?_, fun j o' r' ho' hr' hk hd => ?_⟩
  · rcases g4 x hx with h | h
    · exact h3 x h
    · exact .inr h
  · by_cases hj' : j = rs.length
    · subst hj'
      rw [hget] at hr'; cases hr'
      exact g2 _ (h4 hk)
    · exact g5 j r' (by simp; omega) hr' hk
  · cases j with
    | zero =>
      rw [Nat.add_zero] at hr'
      rw [hget] at hr'; cases hr'
      simp only [List.getElem?_cons_zero, Option.some.injEq] at ho'
      subst ho'
      obtain ⟨q1, q2⟩ := h5 hk hd
      exact ⟨g3 _ q1, q2⟩
    | succ j =>
      have hlen : (rs ++ [r]).length = rs.length + 1 := by simp
      have := g6 j o' r' (by simpa using ho') (by rw [hlen, show rs.length + 1 + j = rs.length + (j + 1) by omega]; exact hr') hk hd
      rw [hlen, show rs.length + 1 + j = rs.length + (j + 1) by omega] at this
      exact this

def apNO : Option (Nat × Option (Nat × ABlk)) → Option Nat
  | none => none
  | some (ia, _) => some ia
def apOldO : Option (Nat × Option (Nat × ABlk)) → Option (Nat × ABlk)
  | none => none
  | some (_, old) => old
def apN (ap : AP) : Option Nat := apNO ap.app
def apOld (ap : AP) : Option (Nat × ABlk) := apOldO ap.app
theorem apHere_none {ap : AP} {i : Nat} (h : apHere ap i = none) : apNat (apN ap) i = false := by
  unfold apHere at h
  unfold apN
  generalize ap.app = x at h ⊢
  unfold apAt at h
  split at h
  · rfl
  · rename_i ia old i
    split at h
    · cases h
    · rename_i hb; exact hb
theorem apHere_some {ap : AP} {i : Nat} {old : Option (Nat × ABlk)} (h : apHere ap i = some old) : apNat (apN ap) i = true ∧ apOld ap = old := by
  unfold apHere at h
  unfold apN apOld
  generalize ap.app = x at h ⊢
  unfold apAt at h
  split at h
  · cases h
  · rename_i ia old i
    split at h
    · rename_i hb; cases h; exact ⟨hb, rfl⟩
    · cases h

theorem runK_ok (hs : sz ≤ 512) (hc : CallKOK call callk) {ap : AP} {n0 : Nat} {K : T AV → HT → Nat → Bool} : ∀ (l : List Oper) (rs : List Rec) (t : T AV) (C : Heap) (M A : Nat) (ss : List Stg) (fs : List Flt),
    runK P G callk sz n0 (apOld ap) K (diOf P sz ops (apN ap) ap.lt bm l rs.length) t C.t C.next M A (mksOf rs 0) ss fs (latesOf bm rs 0) = true →
    ∃ rs' t' C' M' A', runD P call ops bm ap n0 l rs.length ⟨t, sz, G⟩ C M A rs = some (rs', ⟨t', sz, G⟩, C', M', A') ∧ RunTo P G sz bm K l rs ss fs rs' t' C' M' A'
  | [], rs, t, C, M, A, ss, fs, h =>
    ⟨rs, t, C, M, A, rfl, ⟨[], by simp, rfl⟩, ss, fs, h, (fun _ h => h), (fun _ h => h), (fun _ h => .inl h), (fun j r hj hr _ => by rw [List.getElem?_eq_none hj] at hr; cases hr), (fun j o r ho => by simp at ho)⟩
  | o :: l, rs, t, C, M, A, ss, fs, h => by
    have hlen : ∀ r : Rec, (rs ++ [r]).length = rs.length + 1 := fun r => by simp
    -- a record more
    have go : ∀ (r : Rec) (t1 : T AV) (C1 : Heap) (M1 A1 : Nat) (ss1 : List Stg) (fs1 : List Flt) (mks : List Mk) (ls : List Lt), mks = mksOf (rs ++ [r]) 0 → ls = latesOf bm (rs ++ [r]) 0 →
        runK P G callk sz n0 (apOld ap) K (diOf P sz ops (apN ap) ap.lt bm l (rs.length + 1)) t1 C1.t C1.next M1 A1 mks ss1 fs1 ls = true → (∀ s, s ∈ ss → s ∈ ss1) → (∀ x, x ∈ fs → x ∈ fs1) → (∀ x, x ∈ fs1 → x ∈ fs ∨ ∃ o, x.c = cvOf P sz o) →
        (r.kd = .act → (⟨r.C.t, r.C.next, r.M, r.A⟩ : Stg) ∈ ss1) → (r.kd = .flt → hdep o.op = true → (⟨cvOf P sz o, r.f.t, r.v, rs.length, bm.get rs.length⟩ : Flt) ∈ fs1 ∧ r.f = ⟨r.f.t, sz, G⟩) →
        ∃ rs' t' C' M' A', runD P call ops bm ap n0 l (rs.length + 1) ⟨t1, sz, G⟩ C1 M1 A1 (rs ++ [r]) = some (rs', ⟨t', sz, G⟩, C', M', A') ∧ RunTo P G sz bm K (o :: l) rs ss fs rs' t' C' M' A' := by
      intro r t1 C1 M1 A1 ss1 fs1 mks ls hmks hls hrun h1 h2 h3 h4 h5
      subst hmks
      subst hls
      obtain ⟨rs', t', C', M', A', g1, g2⟩ := runK_ok hs hc l (rs ++ [r]) t1 C1 M1 A1 ss1 fs1 (by rw [hlen]; exact hrun)
      rw [hlen] at g1
      exact ⟨rs', t', C', M', A', g1, g2.cons h1 h2 h3 h4 h5⟩
    have keep : ∀ r : Rec, (∀ id k, r.kd ≠ .mk id k) → mksOf rs 0 = mksOf (rs ++ [r]) 0 := fun r hr => by
      rw [mksOf_snoc]
      cases hk : r.kd with
      | mk id k => exact (hr id k hk).elim
      | _ => simp
    have keepL : ∀ r : Rec, (∀ id k, r.kd ≠ .late id k) → latesOf bm rs 0 = latesOf bm (rs ++ [r]) 0 := fun r hr => by
      rw [latesOf_snoc]
      cases hk : r.kd with
      | late id k => exact (hr id k hk).elim
      | _ => simp
    have hview := view_next (bm.get rs.length) M C rs 0
    unfold runD
    unfold diOf dcOf at h
    cases hap : apHere ap rs.length with
    | some old =>
      obtain ⟨hap1, hap2⟩ := apHere_some hap
      rw [hap1] at h
      have h : gdK (gdOf sz ops o) t (fN (Nat.add n0 rs.length) fun id => viewK (bm.get rs.length) 0 (mksOf rs 0) (.leaf none) fun V => onO (fappA P ⟨t, sz, G⟩ o id (apOld ap) ⟨V, id⟩) fun r => Prod.rec (motive := fun _ => Bool) (fun k v => fV0 v fun v => dsK (dsOf sz o.dst) t v fun t => snocK ⟨rs.length, id, k⟩ (mksOf rs 0) fun mks => runK P G callk sz n0 (apOld ap) K (diOf P sz ops (apN ap) ap.lt bm l (rs.length + 1)) t C.t C.next M A mks ss fs (latesOf bm rs 0)) r)
        (dsK (dsOf sz o.dst) t undefA fun t => runK P G callk sz n0 (apOld ap) K (diOf P sz ops (apN ap) ap.lt bm l (rs.length + 1)) t C.t C.next M A (mksOf rs 0) ss fs (latesOf bm rs 0)) = true := h
      rcases gdK_ok (G := G) hs h with ⟨hw, h⟩ | ⟨hw, h⟩
      · rw [fN_eq, show (T.leaf none : HT) = (⟨.leaf none, n0 + rs.length⟩ : Heap).t from rfl, viewK_eq] at h
        obtain ⟨⟨k, v⟩, h1, h2⟩ := onO_ok h
        have h2 : fV0 v (fun v => dsK (dsOf sz o.dst) t v fun t => snocK ⟨rs.length, n0 + rs.length, k⟩ (mksOf rs 0) fun mks => runK P G callk sz n0 (apOld ap) K (diOf P sz ops (apN ap) ap.lt bm l (rs.length + 1)) t C.t C.next M A mks ss fs (latesOf bm rs 0)) = true := h2
        rw [fV0_eq] at h2
        obtain ⟨t1, h3, h4⟩ := dsK_ok (G := G) h2
        rw [snocK_eq] at h4
        have h1 : fappA P ⟨t, sz, G⟩ o (n0 + rs.length) (apOld ap) ⟨(view (bm.get rs.length) 0 ⟨.leaf none, n0 + rs.length⟩ rs 0).t, n0 + rs.length⟩ = some (k, v) := h1
        rw [mk_eta _ _ (view_next _ _ _ _ _), hap2] at h1
        simp only [hw, h1, h3]
        exact go ⟨v, .mk (n0 + rs.length) k, ⟨t, sz, G⟩, C, M, A⟩ t1 C _ _ _ _ _ _ (by rw [mksOf_snoc, Nat.zero_add]) (keepL _ (fun _ _ h => by cases h)) h4 (fun _ h => h) (fun _ h => h) (fun _ h => .inl h) (fun h => by cases h) (fun h => by cases h)
      · obtain ⟨t1, h3, h4⟩ := dsK_ok (G := G) h
        simp only [hw, h3]
        exact go ⟨undefA, .skip, ⟨t, sz, G⟩, C, M, A⟩ t1 C _ _ _ _ _ _ (keep _ (fun _ _ h => by cases h)) (keepL _ (fun _ _ h => by cases h)) h4 (fun _ h => h) (fun _ h => h) (fun _ h => .inl h) (fun h => by cases h) (fun h => by cases h)
    | none =>
    rw [apHere_none hap] at h
    simp only [] at h
    cases hlt : ltHere ap rs.length with
    | true =>
      have hlt' : Nat.testBit ap.lt rs.length = true := hlt
      rw [hlt'] at h
      have h : gdK (gdOf sz ops o) t (viewK (bm.get rs.length) M (mksOf rs 0) C.t fun V => onO (lateA P ⟨t, sz, G⟩ o ⟨V, C.next⟩) fun r => Prod.rec (motive := fun _ => Bool) (fun id r => Prod.rec (motive := fun _ => Bool) (fun k v => fN id fun id => fV0 v fun v => dsK (dsOf sz o.dst) t v fun t => snocK ⟨rs.length, bm.get rs.length, id, k⟩ (latesOf bm rs 0) fun ls => runK P G callk sz n0 (apOld ap) K (diOf P sz ops (apN ap) ap.lt bm l (rs.length + 1)) t C.t C.next M A (mksOf rs 0) ss fs ls) r) r)
        (dsK (dsOf sz o.dst) t undefA fun t => runK P G callk sz n0 (apOld ap) K (diOf P sz ops (apN ap) ap.lt bm l (rs.length + 1)) t C.t C.next M A (mksOf rs 0) ss fs (latesOf bm rs 0)) = true := h
      rcases gdK_ok (G := G) hs h with ⟨hw, h⟩ | ⟨hw, h⟩
      · rw [viewK_eq] at h
        obtain ⟨⟨id, k, v⟩, h1, h2⟩ := onO_ok h
        have h2 : (fN id fun id => fV0 v fun v => dsK (dsOf sz o.dst) t v fun t => snocK ⟨rs.length, bm.get rs.length, id, k⟩ (latesOf bm rs 0) fun ls => runK P G callk sz n0 (apOld ap) K (diOf P sz ops (apN ap) ap.lt bm l (rs.length + 1)) t C.t C.next M A (mksOf rs 0) ss fs ls) = true := h2
        rw [fN_eq, fV0_eq] at h2
        obtain ⟨t1, h3, h4⟩ := dsK_ok (G := G) h2
        rw [snocK_eq] at h4
        rw [mk_eta _ _ hview] at h1
        simp only [hw, h1, h3]
        exact go ⟨v, .late id k, ⟨t, sz, G⟩, C, M, A⟩ t1 C _ _ _ _ _ _ (keep _ (fun _ _ h => by cases h)) (by rw [latesOf_snoc, Nat.zero_add]) h4 (fun _ h => h) (fun _ h => h) (fun _ h => .inl h) (fun h => by cases h) (fun h => by cases h)
      · obtain ⟨t1, h3, h4⟩ := dsK_ok (G := G) h
        simp only [hw, h3]
        exact go ⟨undefA, .skip, ⟨t, sz, G⟩, C, M, A⟩ t1 C _ _ _ _ _ _ (keep _ (fun _ _ h => by cases h)) (keepL _ (fun _ _ h => by cases h)) h4 (fun _ h => h) (fun _ h => h) (fun _ h => .inl h) (fun h => by cases h) (fun h => by cases h)
    | false =>
    have hlt' : Nat.testBit ap.lt rs.length = false := hlt
    rw [hlt'] at h
    simp only [] at h
    rw [ciOf_eq] at h
    by_cases ha : isAct o.op = true
    · rw [if_pos ha] at h
      have h : gdK (gdOf sz ops o) t (fB (Nat.beq (Nat.land (bm.get rs.length) A) A) (viewK (bm.get rs.length) M (mksOf rs 0) C.t fun htv => caK P G callk sz (caOf P sz o) t htv C.next fun v ht' nx' => dsK (dsOf sz o.dst) t v fun t =>
            fN (Nat.lor M (bm.get rs.length)) fun M' => fN (Nat.lor A (2 ^ rs.length)) fun A' => runK P G callk sz n0 (apOld ap) K (diOf P sz ops (apN ap) ap.lt bm l (rs.length + 1)) t ht' nx' M' A' (mksOf rs 0) (⟨C.t, C.next, M, A⟩ :: ss) fs (latesOf bm rs 0)) false)
          (dsK (dsOf sz o.dst) t undefA fun t => runK P G callk sz n0 (apOld ap) K (diOf P sz ops (apN ap) ap.lt bm l (rs.length + 1)) t C.t C.next M A (mksOf rs 0) ss fs (latesOf bm rs 0)) = true := h
      rcases gdK_ok (G := G) hs h with ⟨hw, h⟩ | ⟨hw, h⟩
      · obtain ⟨hA, h⟩ := fB_ok h
        rw [viewK_eq] at h
        obtain ⟨v, C1, h1, h2⟩ := caK_ok hs hc h
        rw [mk_eta _ _ hview] at h1
        obtain ⟨t1, h3, h4⟩ := dsK_ok (G := G) h2
        rw [fN_eq, fN_eq] at h4
        simp only [hw, ha, hA, h1, force_eq, h3]
        exact go ⟨v, .act, ⟨t, sz, G⟩, C, M, A⟩ t1 C1 _ _ _ _ _ _ (keep _ (fun _ _ h => by cases h)) (keepL _ (fun _ _ h => by cases h)) h4 (fun s hs => List.mem_cons_of_mem _ hs) (fun _ h => h) (fun _ h => .inl h) (fun _ => by simp) (fun h => by cases h)
      · obtain ⟨t1, h3, h4⟩ := dsK_ok (G := G) h
        simp only [hw, h3]
        exact go ⟨undefA, .skip, ⟨t, sz, G⟩, C, M, A⟩ t1 C _ _ _ _ _ _ (keep _ (fun _ _ h => by cases h)) (keepL _ (fun _ _ h => by cases h)) h4 (fun _ h => h) (fun _ h => h) (fun _ h => .inl h) (fun h => by cases h) (fun h => by cases h)
    · rw [if_neg ha] at h
      have ha : isAct o.op = false := by simpa using ha
      have mk_ok : ∀ (k : ABlk) (v : Nat → AV), mkK n0 rs.length k v (dsOf sz o.dst) t (mksOf rs 0) (fun t mks => runK P G callk sz n0 (apOld ap) K (diOf P sz ops (apN ap) ap.lt bm l (rs.length + 1)) t C.t C.next M A mks ss fs (latesOf bm rs 0)) = true →
          ∃ t1, (⟨t, sz, G⟩ : Fr).put o.dst (v (n0 + rs.length)) = some ⟨t1, sz, G⟩ ∧ ∃ rs' t' C' M' A', runD P call ops bm ap n0 l (rs.length + 1) ⟨t1, sz, G⟩ C M A (rs ++ [⟨v (n0 + rs.length), .mk (n0 + rs.length) k, ⟨t, sz, G⟩, C, M, A⟩]) = some (rs', ⟨t', sz, G⟩, C', M', A') ∧ RunTo P G sz bm K (o :: l) rs ss fs rs' t' C' M' A' := fun k v h => by
        unfold mkK at h
        rw [fN_eq, fV0_eq] at h
        obtain ⟨t1, h3, h4⟩ := dsK_ok (G := G) h
        rw [snocK_eq] at h4
        exact ⟨t1, h3, go _ t1 C _ _ _ _ _ _ (by rw [mksOf_snoc, Nat.zero_add]; rfl) (keepL _ (fun _ _ h => by cases h)) h4 (fun _ h => h) (fun _ h => h) (fun _ h => .inl h) (fun h => by cases h) (fun h => by cases h)⟩
      have h : gdK (gdOf sz ops o) t (fB (hdep o.op) (viewK (bm.get rs.length) M (mksOf rs 0) C.t fun htv => cvK P G sz (cvOf P sz o) t htv C.next (fun v => dsK (dsOf sz o.dst) t v fun t' => runK P G callk sz n0 (apOld ap) K (diOf P sz ops (apN ap) ap.lt bm l (rs.length + 1)) t' C.t C.next M A (mksOf rs 0) ss (⟨cvOf P sz o, t, v, rs.length, bm.get rs.length⟩ :: fs) (latesOf bm rs 0))
              (fun k v => mkK n0 rs.length k v (dsOf sz o.dst) t (mksOf rs 0) fun t mks => runK P G callk sz n0 (apOld ap) K (diOf P sz ops (apN ap) ap.lt bm l (rs.length + 1)) t C.t C.next M A mks ss fs (latesOf bm rs 0)))
            (cvK P G sz (cvOf P sz o) t C.t C.next (fun v => dsK (dsOf sz o.dst) t v fun t => runK P G callk sz n0 (apOld ap) K (diOf P sz ops (apN ap) ap.lt bm l (rs.length + 1)) t C.t C.next M A (mksOf rs 0) ss fs (latesOf bm rs 0))
              (fun k v => mkK n0 rs.length k v (dsOf sz o.dst) t (mksOf rs 0) fun t mks => runK P G callk sz n0 (apOld ap) K (diOf P sz ops (apN ap) ap.lt bm l (rs.length + 1)) t C.t C.next M A mks ss fs (latesOf bm rs 0))))
          (dsK (dsOf sz o.dst) t undefA fun t => runK P G callk sz n0 (apOld ap) K (diOf P sz ops (apN ap) ap.lt bm l (rs.length + 1)) t C.t C.next M A (mksOf rs 0) ss fs (latesOf bm rs 0)) = true := h
      rcases gdK_ok (G := G) hs h with ⟨hw, h⟩ | ⟨hw, h⟩
      · cases hd : hdep o.op with
        | true =>
          rw [hd] at h
          have h := (show viewK (bm.get rs.length) M (mksOf rs 0) C.t _ = true from h)
          rw [viewK_eq] at h
          rcases cvK_ok hs h with ⟨v, h1, h2⟩ | ⟨k, n, v, h1, h2⟩
          · rw [mk_eta _ _ hview] at h1
            obtain ⟨t1, h3, h4⟩ := dsK_ok (G := G) h2
            simp only [hw, ha, h1, force_eq, h3]
            exact go ⟨v, .flt, ⟨t, sz, G⟩, C, M, A⟩ t1 C _ _ _ _ _ _ (keep _ (fun _ _ h => by cases h)) (keepL _ (fun _ _ h => by cases h)) h4 (fun _ h => h) (fun _ h => List.mem_cons_of_mem _ h) (fun x hx => by
              rcases List.mem_cons.1 hx with rfl | hx
              · exact .inr ⟨o, rfl⟩
              · exact .inl hx) (fun h => by cases h) (fun _ _ => ⟨by simp, rfl⟩)
          · rw [mk_eta _ _ hview] at h1
            obtain ⟨t1, h3, h4⟩ := mk_ok k v h2
            simp only [hw, ha, h1, h3]
            exact h4
        | false =>
          rw [hd] at h
          have h := (show cvK P G sz (cvOf P sz o) t C.t C.next _ _ = true from h)
          have hind : ∀ r, fop P ⟨t, sz, G⟩ o ⟨C.t, C.next⟩ = some r → fop P ⟨t, sz, G⟩ o (view (bm.get rs.length) M C rs 0) = some r := fun r hr => by
            rw [fop_indep hd _ ⟨C.t, C.next⟩]; exact hr
          rcases cvK_ok hs h with ⟨v, h1, h2⟩ | ⟨k, n, v, h1, h2⟩
          · have h1 := hind _ h1
            obtain ⟨t1, h3, h4⟩ := dsK_ok (G := G) h2
            simp only [hw, ha, h1, force_eq, h3]
            exact go ⟨v, .flt, ⟨t, sz, G⟩, C, M, A⟩ t1 C _ _ _ _ _ _ (keep _ (fun _ _ h => by cases h)) (keepL _ (fun _ _ h => by cases h)) h4 (fun _ h => h) (fun _ h => h) (fun _ h => .inl h) (fun h => by cases h) (fun _ h => by rw [hd] at h; cases h)
          · have h1 := hind _ h1
            obtain ⟨t1, h3, h4⟩ := mk_ok k v h2
            simp only [hw, ha, h1, h3]
            exact h4
      · obtain ⟨t1, h3, h4⟩ := dsK_ok (G := G) h
        simp only [hw, h3]
        exact go ⟨undefA, .skip, ⟨t, sz, G⟩, C, M, A⟩ t1 C _ _ _ _ _ _ (keep _ (fun _ _ h => by cases h)) (keepL _ (fun _ _ h => by cases h)) h4 (fun _ h => h) (fun _ h => h) (fun _ h => .inl h) (fun h => by cases h) (fun h => by cases h)

theorem drawB_ok (hs : sz ≤ 512) (hc : CallKOK call callk) {ap : AP} {t : T AV} {C0 : Heap} {nx : Nat} {K : T AV → HT → Nat → Bool} (ho : orderly ops = true) (h : runK P G callk sz nx (apOld ap) K (diOf P sz ops (apN ap) ap.lt (maskTree ops) ops.toList 0) t C0.t C0.next 0 0 [] [] [] [] = true) :
    ∃ t' H', drawB P call ops ap ⟨t, sz, G⟩ nx C0 = some (⟨t', sz, G⟩, H') ∧ K t' H'.t H'.next = true := by
  obtain ⟨rs, t', C, M, A, h3, ⟨tl, e1, e2⟩, ss, fs, h4, h5, h6, h7, h8, h9⟩ := runK_ok (ops := ops) (ap := ap) (n0 := nx) (K := K) hs hc ops.toList [] t C0 0 0 [] [] h
  obtain ⟨h10, h11⟩ := fltsK_ok hs fs _ (fun x hx => by
    rcases h7 x hx with h | h
    · cases h
    · exact h) h4
  obtain ⟨hchk, h10⟩ := fB_ok h10
  rw [lastK_eq, latesK_eq] at h10
  have h3 : runD P call ops (maskTree ops) ap nx ops.toList 0 ⟨t, sz, G⟩ C0 0 0 [] = some (rs, ⟨t', sz, G⟩, C, M, A) := h3
  have hall : fltAll P (maskTree ops) A rs (stages rs ++ [⟨C, M, A⟩]) ops.toList rs 0 = true := by
    refine fltAll_of (by rw [e1]; simp [e2]) (fun i o r ho hr hk hd => ?_)
    rw [Nat.zero_add]
    have := h9 i o r ho (by simpa using hr) hk hd
    simp only [List.length_nil, Nat.zero_add] at this
    obtain ⟨q1, q2⟩ := this
    refine fltAt_of (fun s hs' g1 g2 => ?_)
    have hmem : (⟨s.C.t, s.C.next, s.M, s.A⟩ : Stg) ∈ (⟨C.t, C.next, M, A⟩ :: ss : List Stg) := by
      rcases List.mem_append.1 hs' with hs' | hs'
      · obtain ⟨j, r', k1, k2, rfl⟩ := stages_of hs'
        exact List.mem_cons_of_mem _ (h8 j r' (Nat.zero_le _) k1 k2)
      · have : s = ⟨C, M, A⟩ := by simpa using hs'
        subst this
        simp
    obtain ⟨w, g3, g4⟩ := h11 _ q1 o rfl _ hmem g1 g2
    refine ⟨w, ?_, g4⟩
    rw [q2]
    exact g3
  have hlen : rs.length = ops.size := by rw [e1]; simp [e2]
  obtain ⟨_, hz, hL⟩ := runD_laid (n0 := nx) ops.toList ⟨t, sz, G⟩ C0 0 0 [] rs (⟨t', sz, G⟩, C, M, A) h3 (fun i => by simp)
  have hlates : lateAll (maskTree ops) ops.toList rs rs 0 = true := by
    refine lateAll_of rs 0 (fun i r id k hr hk => ?_)
    rw [Nat.zero_add]
    have hmem := latesOf_mem (bm := maskTree ops) rs 0 i r id k hr hk
    rw [Nat.zero_add] at hmem
    obtain ⟨q1, q2, q3, q4⟩ := lateChk_spec _ hchk _ hmem
    refine lateOne_of _ _ 0 (by simp [hlen]) (fun j o' r' ho' hr' => ?_)
    rw [Nat.zero_add]
    unfold lateFact
    cases hk' : r'.kd with
    | skip => trivial
    | flt =>
      intro hd
      have := h9 j o' r' ho' (by simpa using hr') hk' hd
      simp only [List.length_nil, Nat.zero_add] at this
      exact q3 _ this.1
    | mk a b =>
      have := mksOf_mem rs 0 j r' a b hr' hk'
      rw [Nat.zero_add] at this
      exact q2 _ this
    | act =>
      have hbits := (st_bits hL hlen (by simp only [List.length_nil] at hz; rw [hz]) ops.size (Nat.le_refl _)).1 j
      have hfin : stAt rs (⟨t', sz, G⟩, C, M, A) ops.size = (⟨t', sz, G⟩, C, M, A) := by unfold stAt; rw [List.getElem?_eq_none (by rw [hlen]; exact Nat.le_refl _)]
      rw [hfin] at hbits
      simp only at hbits
      have hj : j < ops.size := by rw [← hlen]; exact (List.getElem?_eq_some_iff.1 hr').1
      have hact : isActR rs j = true := by simp [isActR, hr', hk']
      rw [hact] at hbits
      simp only [hj, decide_true, Bool.and_true] at hbits
      rw [← q1, bit_land, Bool.and_eq_true] at hbits
      exact hbits.1
    | late a b =>
      have := latesOf_mem (bm := maskTree ops) rs 0 j r' a b hr' hk'
      rw [Nat.zero_add] at this
      exact q4 _ this
  refine ⟨t', lateH rs (lastView M C rs 0), ?_, ?_⟩
  · unfold drawB
    simp only [h3, hall, hlates]
  · have : (lateH rs (lastView M C rs 0)).next = C.next := by rw [lateH_next, lastView_eq, viewP_next]
    rw [this]; exact h10
theorem drawK_ok (hs : sz ≤ 512) (hc : CallKOK call callk) (ho : orderly ops = true) {t : T AV} {ht : HT} {nx : Nat} {K : T AV → HT → Nat → Bool} (h : drawK P G callk sz (diOf P sz ops (appAt ops) (lateBits ops) (maskTree ops) ops.toList 0) ops.size (appAt ops) ops t ht nx K = true) :
    ∃ t' H', drawA P call ops ⟨t, sz, G⟩ ⟨ht, nx⟩ = some (⟨t', sz, G⟩, H') ∧ K t' H'.t H'.next = true := by
  obtain ⟨h1, h2⟩ := fB_ok h
  rw [fN_eq] at h2
  have h1 : Nat.ble (nx + ops.size) 65536 = true := h1
  unfold drawA
  simp only [ho, h1]
  cases hap : appAt ops with
  | none =>
    rw [hap] at h2
    exact drawB_ok (ap := ⟨none, lateBits ops⟩) (C0 := ⟨ht, nx + ops.size⟩) hs hc ho h2
  | some ia =>
    rw [hap] at h2
    obtain ⟨r, h3, h4⟩ := onO_ok (show onO (hintA P ops ia ⟨t, sz, G⟩ ⟨ht, nx⟩) _ = true from h2)
    simp only [h3]
    cases r with
    | none => exact drawB_ok (ap := ⟨some (ia, none), lateBits ops⟩) (C0 := ⟨ht, nx + ops.size⟩) hs hc ho h4
    | some id =>
      obtain ⟨h5, h6⟩ := fB_ok (show fB (Nat.blt id nx) _ false = true from h4)
      rw [T.getN_eq] at h6
      simp only []
      have hg : (⟨ht, nx⟩ : Heap).get id = T.get ht id := rfl
      cases hk : T.get ht id with
      | none => rw [hk] at h6; cases h6
      | some k =>
        rw [hk] at h6
        have h6 : T.setN 16 ht id none (fun ht => runK P G callk sz nx (some (id, k)) K (diOf P sz ops (some ia) (lateBits ops) (maskTree ops) ops.toList 0) t ht (nx + ops.size) 0 0 [] [] [] []) = true := h6
        rw [T.setN_eq] at h6
        rw [hg, hk]
        simp only [h5]
        exact drawB_ok (ap := ⟨some (ia, some (id, k)), lateBits ops⟩) (C0 := ⟨((⟨ht, nx⟩ : Heap).drop id).t, nx + ops.size⟩) hs hc ho h6
end
end Ev
end Go.Proofs.YtpppaheennkkpaaGreatDoor

/- The compiled run: bodies, loops, calls. -/
namespace Go.Proofs.YtpppaheennkkpaaGreatDoor
namespace Ev

section
variable {P : Program} {G : Nat → Option Nat} {sz fuel : Nat} {L : Lore} {X : XK} {call : CallF} {callk : CallK}

/-- A statement in its compiled form. -/
def GoesTo (G : Nat → Option Nat) (sz : Nat) (r : Option (Ex × St)) (K : KC) : Prop := ∃ e t' H' ds', r = some (e, ⟨⟨t', sz, G⟩, H', ds'⟩) ∧ K e t' H'.t H'.next ds' = true

def XOK (G : Nat → Option Nat) (L : Lore) (X : XK) : Prop := ∀ sz call callk, sz ≤ 512 → CallKOK call callk → ∀ c t ht nx ds K, X sz callk c t ht nx ds K = true → GoesTo G sz (L.X call c ⟨⟨t, sz, G⟩, ⟨ht, nx⟩, ds⟩) K

theorem loopK_ok {body : T AV → HT → Nat → DL → KC → Bool} {g : St → Option (Ex × St)} (hb : ∀ t ht nx ds K, body t ht nx ds K = true → GoesTo G sz (g ⟨⟨t, sz, G⟩, ⟨ht, nx⟩, ds⟩) K) : ∀ n t ht nx ds K, loopK body n t ht nx ds K = true →
    GoesTo G sz (loopA n g ⟨⟨t, sz, G⟩, ⟨ht, nx⟩, ds⟩) K
  | 0, t, ht, nx, ds, K, h => nomatch (show false = true from h)
  | n + 1, t, ht, nx, ds, K, h => by
    obtain ⟨e, t1, H1, ds1, h1, h2⟩ := hb _ _ _ _ _ (show body t ht nx ds (fun e t ht nx ds => Ex.rec (motive := fun _ => Bool) (loopK body n t ht nx ds K) (fun id => K (.exit id) t ht nx ds) (K .ret t ht nx ds) e) = true from h)
    unfold loopA
    rw [h1]
    cases e with
    | norm => exact loopK_ok hb n t1 H1.t H1.next ds1 K h2
    | exit id => exact ⟨_, t1, H1, ds1, rfl, h2⟩
    | ret => exact ⟨_, t1, H1, ds1, rfl, h2⟩

theorem codeK_ok (hs : sz ≤ 512) (hc : CallKOK call callk) (hX : XOK G L X) : ∀ (c : Code) (t : T AV) (ht : HT) (nx : Nat) (ds : DL) (K : KC), codeK P G X callk fuel sz (ccOf P sz c) t ht nx ds K = true →
    GoesTo G sz (codeA P L call fuel c ⟨⟨t, sz, G⟩, ⟨ht, nx⟩, ds⟩) K := by
  intro c
  induction c with
  | skip => intro t ht nx ds K h; exact ⟨_, t, ⟨ht, nx⟩, ds, rfl, h⟩
  | label l => intro t ht nx ds K h; exact ⟨_, t, ⟨ht, nx⟩, ds, rfl, h⟩
  | ret => intro t ht nx ds K h; exact ⟨_, t, ⟨ht, nx⟩, ds, rfl, h⟩
  | exit id => intro t ht nx ds K h; exact ⟨_, t, ⟨ht, nx⟩, ds, rfl, h⟩
  | seq x y ihx ihy =>
    intro t ht nx ds K h
    obtain ⟨e, t1, H1, ds1, h1, h2⟩ := ihx _ _ _ _ _ (show codeK P G X callk fuel sz (ccOf P sz x) t ht nx ds (fun e t ht nx ds => Ex.rec (motive := fun _ => Bool) (codeK P G X callk fuel sz (ccOf P sz y) t ht nx ds K) (fun id => K (.exit id) t ht nx ds) (K .ret t ht nx ds) e) = true from h)
    unfold codeA
    rw [h1]
    cases e with
    | norm => exact ihy t1 H1.t H1.next ds1 K h2
    | exit id => exact ⟨_, t1, H1, ds1, rfl, h2⟩
    | ret => exact ⟨_, t1, H1, ds1, rfl, h2⟩
  | cond c x y ihx ihy =>
    intro t ht nx ds K h
    obtain ⟨v, h1, h2⟩ := srcK_ok (G := G) hs (show srcK G (srcOf sz c) t _ = true from h)
    unfold codeA
    simp only [h1]
    cases v with
    | bool b =>
      cases b with
      | true => exact ihx t ht nx ds K h2
      | false => exact ihy t ht nx ds K h2
    | _ => exact nomatch (show false = true from h2)
  | block id c ih =>
    intro t ht nx ds K h
    obtain ⟨e, t1, H1, ds1, h1, h2⟩ := ih _ _ _ _ _ (show codeK P G X callk fuel sz (ccOf P sz c) t ht nx ds (fun e t ht nx ds => Ex.rec (motive := fun _ => Bool) (K .norm t ht nx ds) (fun id' => fB (Nat.beq id' id) (K .norm t ht nx ds) (K (.exit id') t ht nx ds)) (K .ret t ht nx ds) e) = true from h)
    unfold codeA
    rw [h1]
    cases e with
    | norm => exact ⟨_, t1, H1, ds1, rfl, h2⟩
    | exit id' =>
      have h2 : fB (Nat.beq id' id) (K .norm t1 H1.t H1.next ds1) (K (.exit id') t1 H1.t H1.next ds1) = true := h2
      simp only []
      cases hb : Nat.beq id' id with
      | true => rw [hb] at h2; exact ⟨_, t1, H1, ds1, rfl, h2⟩
      | false => rw [hb] at h2; exact ⟨_, t1, H1, ds1, rfl, h2⟩
    | ret => exact ⟨_, t1, H1, ds1, rfl, h2⟩
  | loop c ih =>
    intro t ht nx ds K h
    exact loopK_ok ih fuel t ht nx ds K h
  | region id ops draw =>
    intro t ht nx ds K h
    unfold codeA
    cases draw with
    | true =>
      cases ho : orderly ops with
      | false =>
        have h : codeK P G X callk fuel sz (match orderly ops with
          | true => .draw (diOf P sz ops (appAt ops) (lateBits ops) (maskTree ops) ops.toList 0) ops.size (appAt ops) ops
          | false => .bad) t ht nx ds K = true := h
        rw [ho] at h
        exact nomatch (show false = true from h)
      | true =>
        have h : codeK P G X callk fuel sz (match orderly ops with
          | true => .draw (diOf P sz ops (appAt ops) (lateBits ops) (maskTree ops) ops.toList 0) ops.size (appAt ops) ops
          | false => .bad) t ht nx ds K = true := h
        rw [ho] at h
        obtain ⟨t', H', h1, h2⟩ := drawK_ok hs hc ho (show drawK P G callk sz (diOf P sz ops (appAt ops) (lateBits ops) (maskTree ops) ops.toList 0) ops.size (appAt ops) ops t ht nx (fun t ht nx => K .norm t ht nx ds) = true from h)
        exact ⟨_, t', H', ds, by simp only [h1], h2⟩
    | false =>
      have h : codeK P G X callk fuel sz (match deferOf ops.toList with
        | none => .ops (ops.toList.map (ciOf P sz ops))
        | some (pre, o, x, args) => .dfr (pre.map (ciOf P sz ops)) (srcOf sz x) (args.map (srcOf sz)) (dsOf sz o.dst) (gdOf sz ops o)) t ht nx ds K = true := h
      simp only []
      cases hd : deferOf ops.toList with
      | none =>
        rw [hd] at h
        obtain ⟨t', H', h1, h2⟩ := opsK_ok hs hc ops.toList _ _ _ _ (show opsK P G callk sz (ops.toList.map (ciOf P sz ops)) t ht nx (fun t ht nx => K .norm t ht nx ds) = true from h)
        exact ⟨_, t', H', ds, by simp only [h1], h2⟩
      | some q =>
        obtain ⟨pre, o, x, args⟩ := q
        rw [hd] at h
        obtain ⟨t1, H1, h1, h2⟩ := opsK_ok hs hc pre _ _ _ _ (show opsK P G callk sz (pre.map (ciOf P sz ops)) t ht nx (fun t ht nx => gdK (gdOf sz ops o) t _ false) = true from h)
        rcases gdK_ok (G := G) hs h2 with ⟨hw, h2⟩ | ⟨_, h2⟩
        · obtain ⟨v, h3, h4⟩ := srcK_ok (G := G) hs h2
          obtain ⟨l, h5, h6⟩ := srcsK_ok (G := G) hs h4
          cases v with
          | fn f a b =>
            cases f with
            | func g =>
              obtain ⟨h7, h8⟩ := fB_ok (show fB (entersA P g) (dsK (dsOf sz o.dst) t1 undefA fun t => K .norm t H1.t H1.next (Df.call g (a ++ (l ++ b)) :: ds)) false = true from h6)
              obtain ⟨t', h9, h10⟩ := dsK_ok (G := G) h8
              exact ⟨_, t', H1, _, by simp only [h1, hw, h3, h5, h9, h7], h10⟩
            | _ => exact nomatch (show false = true from h6)
          | _ => exact nomatch (show false = true from h6)
        · cases h2
  | _ =>
    intro t ht nx ds K h
    exact hX sz call callk hs hc _ t ht nx ds K h

theorem resK_ok (hs : sz ≤ 512) {t : T AV} {ht : HT} {nx : Nat} : ∀ (l : List ResultVar) (K : List AV → Bool), resK P (l.map (crOf sz)) t ht nx K = true → ∃ vs, resA P ⟨t, sz, G⟩ ⟨ht, nx⟩ l = some vs ∧ K vs = true
  | [], K, h => ⟨[], rfl, h⟩
  | .tmp i :: l, K, h => by
    rw [List.map_cons, crOf] at h
    split at h
    · rename_i p hp
      obtain ⟨h1, rfl, hb⟩ := slotOf_some hp
      have h : T.getK t (pathOf 9 i) (fun v => resK P (l.map (crOf sz)) t ht nx fun l => K (v :: l)) = true := h
      rw [T.getK_eq _ t 9 i (by omega)] at h
      obtain ⟨vs, h2, h3⟩ := resK_ok hs l _ h
      exact ⟨_, by simp only [resA, Fr.get, hb, h2], h3⟩
    · exact nomatch (show false = true from h)
  | .cell i ty :: l, K, h => by
    rw [List.map_cons, crOf] at h
    split at h
    · rename_i p hp
      obtain ⟨h1, rfl, hb⟩ := slotOf_some hp
      have h : T.getK t (pathOf 9 i) (fun v => onPtr v fun id off => onO (loadA P ty ⟨ht, nx⟩ id off) fun v => fV v fun v => resK P (l.map (crOf sz)) t ht nx fun l => K (v :: l)) = true := h
      rw [T.getK_eq _ t 9 i (by omega)] at h
      obtain ⟨id, off, h4, h⟩ := onPtr_ok h
      obtain ⟨v, h5, h⟩ := onO_ok h
      rw [fV_eq] at h
      obtain ⟨vs, h2, h3⟩ := resK_ok hs l _ h
      exact ⟨_, by simp only [resA, Fr.get, hb, h4, h5, h2], h3⟩
    · exact nomatch (show false = true from h)
theorem leaveK_ok : ∀ (l : DL) (ht : HT) (nx : Nat) (K : HT → Nat → Bool), leaveK L.D l ht nx K = true → ∃ H', leaveA L l ⟨ht, nx⟩ = some H' ∧ K H'.t H'.next = true
  | [], ht, nx, K, h => ⟨_, rfl, h⟩
  | .coll :: l, ht, nx, K, h => by
    obtain ⟨H', h3, h4⟩ := leaveK_ok l ht nx K h
    exact ⟨H', by simp only [leaveA]; exact h3, h4⟩
  | .call g args :: l, ht, nx, K, h => by
    have h : onO (L.D g) (fun d => onO (d args ⟨ht, nx⟩) fun H => Heap.rec (motive := fun _ => Bool) (fun ht nx => fN nx fun nx => leaveK L.D l ht nx K) H) = true := h
    obtain ⟨d, h1, h⟩ := onO_ok h
    obtain ⟨H1, h2, h⟩ := onO_ok h
    obtain ⟨H', h3, h4⟩ := leaveK_ok l H1.t H1.next K h
    exact ⟨H', by simp only [leaveA, h1, h2]; exact h3, h4⟩

theorem bodyK_ok (hc : CallKOK call callk) (hX : XOK G L X) {g : Nat} {fn : Func} (hfn : P.funcs[g]? = some fn) {args : List AV} {ht : HT} {nx : Nat} {K : KA} (h : bodyK P G X L.D callk fuel (cfOf P g) args ht nx K = true) :
    ∃ r H', bodyA P G L call fuel fn args ⟨ht, nx⟩ = some (r, H') ∧ K r H'.t H'.next = true := by
  unfold cfOf at h
  rw [hfn] at h
  simp only at h
  split at h
  · rename_i c hb hsz
    have hs := Nat.le_of_ble_eq_true hsz
    obtain ⟨h1, h2⟩ := fB_ok (show fB (Nat.ble args.length fn.ntmps) (T.layK 9 args (.leaf undefA) 0 fun t => codeK P G X callk fuel fn.ntmps (ccOf P fn.ntmps c) t ht nx [] fun e t ht nx ds => Ex.rec (motive := fun _ => Bool)
      (leaveK L.D ds ht nx fun ht nx => resK P (fn.results.toList.map (crOf fn.ntmps)) t ht nx fun l => K (oneOr l) ht nx) (fun _ => false) (leaveK L.D ds ht nx fun ht nx => resK P (fn.results.toList.map (crOf fn.ntmps)) t ht nx fun l => K (oneOr l) ht nx) e) false = true from h)
    rw [T.layK_eq] at h2
    obtain ⟨e, t1, H1, ds, h3, h4⟩ := codeK_ok hs hc hX c _ _ _ _ _ h2
    have fin : (leaveK L.D ds H1.t H1.next fun ht nx => resK P (fn.results.toList.map (crOf fn.ntmps)) t1 ht nx fun l => K (oneOr l) ht nx) = true → (∀ id, e ≠ .exit id) → ∃ r H', bodyA P G L call fuel fn args ⟨ht, nx⟩ = some (r, H') ∧ K r H'.t H'.next = true := fun h he => by
      obtain ⟨H2, h5, h6⟩ := leaveK_ok ds _ _ _ h
      obtain ⟨vs, h7, h8⟩ := resK_ok (G := G) hs _ _ h6
      refine ⟨oneOr vs, H2, ?_, h8⟩
      have h5 : leaveA L ds H1 = some H2 := h5
      have h7 : resA P ⟨t1, fn.ntmps, G⟩ H2 fn.results.toList = some vs := h7
      unfold bodyA
      simp only [hb, h1, hsz, Bool.and_self, h3]
      cases e with
      | exit id => exact (he id rfl).elim
      | norm =>
        simp only [h5, h7]
        unfold oneOr
        split <;> first | rfl | simp_all
      | ret =>
        simp only [h5, h7]
        unfold oneOr
        split <;> first | rfl | simp_all
    cases e with
    | norm => exact fin h4 (fun _ h => by cases h)
    | ret => exact fin h4 (fun _ h => by cases h)
    | exit id => exact nomatch (show false = true from h4)
  · exact nomatch (show false = true from h)

theorem callK_ok (hX : XOK G L X) : ∀ n, CallKOK (callA P G L fuel n) (callK P G X L.D L.K fuel n)
  | 0 => fun g args ht nx K h => nomatch (show false = true from h)
  | n + 1 => fun g args ht nx K h => by
    have ih := callK_ok hX n
    have h : Option.rec (motive := fun _ => Bool) (bodyK P G X L.D (callK P G X L.D L.K fuel n) fuel (cfOf P g) args ht nx K) (fun s => knownK s ht nx K) (L.K g args) = true := h
    unfold callA
    cases hk : L.K g args with
    | some s =>
      rw [hk] at h
      obtain ⟨⟨r, H'⟩, h1, h2⟩ := onO_ok (show knownK s ht nx K = true from h)
      have h2 : fV r (fun v => K v H'.t H'.next) = true := h2
      rw [fV_eq] at h2
      exact ⟨r, H', h1, h2⟩
    | none =>
      rw [hk] at h
      simp only []
      cases hfn : P.funcs[g]? with
      | none =>
        have h : bodyK P G X L.D (callK P G X L.D L.K fuel n) fuel (cfOf P g) args ht nx K = true := h
        unfold cfOf at h
        rw [hfn] at h
        exact nomatch (show false = true from h)
      | some fn => exact bodyK_ok ih hX hfn h
end
end Ev
end Go.Proofs.YtpppaheennkkpaaGreatDoor
