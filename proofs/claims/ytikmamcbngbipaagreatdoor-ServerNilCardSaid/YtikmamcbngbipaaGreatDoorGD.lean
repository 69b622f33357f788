/- The compiled run: operations that turn memory; operations one behind the other. -/
import Derived.Test.YtikmamcbngbipaaGreatDoorGC
namespace Go.Proofs.YtikmamcbngbipaaGreatDoor
namespace Ev

section
variable {P : Program} {G : Nat → Option Nat} {sz : Nat} {t : T AV} {ht : HT} {nx : Nat} {call : CallF} {callk : CallK}

def CallKOK (call : CallF) (callk : CallK) : Prop := ∀ g args ht nx K, callk g args ht nx K = true → ∃ r H', call g args ⟨ht, nx⟩ = some (r, H') ∧ K r H'.t H'.next = true

theorem aop_none {f : Fr} {o : Oper} {H : Heap} {r : AV × Heap} (h : aop P (fun _ _ _ => none) f o H = some r) : aop P call f o H = some r := by
  unfold aop at h ⊢
  split at h
  case h_7 =>
    split at h <;> cases h
  case h_8 =>
    split at h
    · split at h <;> cases h
    · cases h
  all_goals exact h

theorem stores_one {H : Heap} {id off m : Nat} {c : T AV} {ty : TypeId} {w : AV} (hw : cellsOf w = [w]) (hp : w.plain = true) (hg : H.get id = some (.cells c m ty)) (hb : Nat.blt off m = true) :
    H.stores id off (cellsOf w) = some ⟨T.set 16 H.t id (some (.cells (T.set (dep m) c off w) m ty)), H.next⟩ := by
  have hb' : Nat.ble (off + [w].length) m = true := hb
  have hall : [w].all AV.plain = true := by simp [hp]
  unfold Heap.stores
  rw [hw, hg]
  simp only [hb', hall]
  rfl

theorem caK_ok (hs : sz ≤ 512) (hc : CallKOK call callk) {o : Oper} {K : KA} (h : caK P G callk sz (caOf P sz o) t ht nx K = true) :
    ∃ v H', aop P call ⟨t, sz, G⟩ o ⟨ht, nx⟩ = some (v, H') ∧ K v H'.t H'.next = true := by
  have old : hOldA P G sz o t ht nx K = true → ∃ v H', aop P call ⟨t, sz, G⟩ o ⟨ht, nx⟩ = some (v, H') ∧ K v H'.t H'.next = true := fun h => by
    obtain ⟨⟨v, H'⟩, h1, h2⟩ := onO_ok h
    have h2 : fV v (fun v => K v H'.t H'.next) = true := h2
    rw [fV_eq] at h2
    exact ⟨v, H', aop_none h1, h2⟩
  unfold caOf at h
  split at h
  · -- store
    rename_i ty a x hop
    split at h
    · rename_i s hsz
      obtain ⟨v, h1, h2⟩ := srcK_ok hs h
      obtain ⟨w, h3, h2⟩ := srcK_ok hs h2
      obtain ⟨id, off, rfl, h2⟩ := onPtr_ok h2
      obtain ⟨c, m, e, h4, h2⟩ := onCells_ok (nx := nx) h2
      have one : ∀ (w : AV), ev ⟨t, sz, G⟩ x = some w → cellsOf w = [w] → w.plain = true → storeOne s c m e id off w ht nx K = true → ∃ v H', aop P call ⟨t, sz, G⟩ o ⟨ht, nx⟩ = some (v, H') ∧ K v H'.t H'.next = true := fun w h3 g1 g2 g3 => by
        obtain ⟨g4, g5⟩ := fB_ok g3
        rw [Bool.and_eq_true] at g4
        rw [T.setN_eq] at g5
        unfold putBlk at g5
        rw [T.setN_eq] at g5
        refine ⟨undefA, ⟨T.set 16 ht id (some (.cells (T.set (dep m) c off w) m e)), nx⟩, ?_, g5⟩
        · unfold aop
          rw [hop]
          have g6 : Nat.beq (cellsOf w).length s = true := by
            rw [g1]
            have := Nat.eq_of_beq_eq_true g4.1
            rw [this]; rfl
          simp only [h1, h3, hsz, g6, stores_one g1 g2 h4 g4.2]
      cases w with
      | agg l =>
        obtain ⟨g1, g2⟩ := fB_ok (show fB (Nat.beq l.length s && Nat.ble (Nat.add off s) m && l.all AV.plain) (T.layK (dep m) l c off fun c => putBlk ht id (.cells c m e) fun ht => K undefA ht nx) false = true from h2)
        rw [Bool.and_eq_true, Bool.and_eq_true] at g1
        obtain ⟨⟨g3, g4⟩, g5⟩ := g1
        rw [T.layK_eq] at g2
        unfold putBlk at g2
        rw [T.setN_eq] at g2
        refine ⟨undefA, ⟨T.set 16 ht id (some (.cells (T.lay (dep m) c off l) m e)), nx⟩, ?_, g2⟩
        · have hl := Nat.eq_of_beq_eq_true g3
          have g6 : Nat.ble (off + l.length) m = true := by rw [hl]; exact g4
          unfold aop
          rw [hop]
          have hst : (⟨ht, nx⟩ : Heap).stores id off (cellsOf (.agg l)) = some ⟨T.set 16 ht id (some (.cells (T.lay (dep m) c off l) m e)), nx⟩ := by
            unfold Heap.stores
            simp only [cellsOf, h4, g6, g5]
            rfl
          have g7 : Nat.beq (cellsOf (.agg l)).length s = true := g3
          simp only [h1, h3, hsz, g7, hst]
      | tup l => exact nomatch (show false = true from h2)
      | _ => exact one _ h3 rfl rfl h2
    · exact old h
  · -- a call of a function
    rename_i g args argTypes hop
    obtain ⟨l, h1, h2⟩ := srcsK_ok hs h
    obtain ⟨r, H', h3, h4⟩ := hc _ _ _ _ _ h2
    refine ⟨r, H', ?_, h4⟩
    unfold aop
    rw [hop]
    simp only [ev, h1, List.nil_append, List.append_nil, h3]
  · -- a call of a value
    rename_i x args argTypes _ hop
    obtain ⟨v, h1, h2⟩ := srcK_ok hs h
    obtain ⟨l, h3, h2⟩ := srcsK_ok hs h2
    cases v with
    | fn f a b =>
      cases f with
      | func g =>
        obtain ⟨r, H', h4, h5⟩ := hc _ _ _ _ _ (show callk g (a ++ (l ++ b)) ht nx K = true from h2)
        refine ⟨r, H', ?_, h5⟩
        unfold aop
        rw [hop]
        simp only [h1, h3, h4]
      | _ => exact nomatch (show false = true from h2)
    | _ => exact nomatch (show false = true from h2)
  · -- a call of a method
    rename_i r name args argTypes hop
    obtain ⟨v, h1, h2⟩ := srcK_ok hs h
    obtain ⟨l, h3, h2⟩ := srcsK_ok hs h2
    cases v with
    | iface ty w =>
      obtain ⟨⟨g, recv⟩, h4, h5⟩ := onO_ok (show (onO (methodA P ty w name) fun m => Prod.rec (motive := fun _ => Bool) (fun g recv => callk g (recv :: l) ht nx K) m) = true from h2)
      obtain ⟨r', H', h6, h7⟩ := hc _ _ _ _ _ (show callk g (recv :: l) ht nx K = true from h5)
      refine ⟨r', H', ?_, h7⟩
      unfold aop
      rw [hop]
      simp only [h1, h3, h4, h6]
    | _ => exact nomatch (show false = true from h2)
  · exact old h

theorem ciOf_eq {ops : Array Oper} {o : Oper} : ciOf P sz ops o = if isAct o.op then .a (caOf P sz o) (dsOf sz o.dst) (gdOf sz ops o) else .v (cvOf P sz o) (dsOf sz o.dst) (gdOf sz ops o) := by
  unfold ciOf
  cases isAct o.op <;> rfl

/-- Operations one behind the other. -/
theorem opsK_ok (hs : sz ≤ 512) (hc : CallKOK call callk) {ops : Array Oper} : ∀ (l : List Oper) (t : T AV) (ht : HT) (nx : Nat) (K : T AV → HT → Nat → Bool), opsK P G callk sz (l.map (ciOf P sz ops)) t ht nx K = true →
    ∃ t' H', seqA P call ops l ⟨t, sz, G⟩ ⟨ht, nx⟩ = some (⟨t', sz, G⟩, H') ∧ K t' H'.t H'.next = true
  | [], t, ht, nx, K, h => ⟨t, ⟨ht, nx⟩, rfl, h⟩
  | o :: l, t, ht, nx, K, h => by
    rw [List.map_cons, ciOf_eq] at h
    unfold seqA
    by_cases ha : isAct o.op = true
    · rw [if_pos ha] at h
      have h : gdK (gdOf sz ops o) t (caK P G callk sz (caOf P sz o) t ht nx fun v ht nx => dsK (dsOf sz o.dst) t v fun t => opsK P G callk sz (l.map (ciOf P sz ops)) t ht nx K)
        (dsK (dsOf sz o.dst) t undefA fun t => opsK P G callk sz (l.map (ciOf P sz ops)) t ht nx K) = true := h
      rcases gdK_ok (G := G) hs h with ⟨hw, h⟩ | ⟨hw, h⟩
      · obtain ⟨v, H1, h1, h2⟩ := caK_ok hs hc h
        obtain ⟨t1, h3, h4⟩ := dsK_ok (G := G) h2
        obtain ⟨t', H', h5, h6⟩ := opsK_ok hs hc l _ _ _ _ h4
        refine ⟨t', H', ?_, h6⟩
        simp only [hw, ha, h1, force_eq, h3]
        exact h5
      · obtain ⟨t1, h3, h4⟩ := dsK_ok (G := G) h
        obtain ⟨t', H', h5, h6⟩ := opsK_ok hs hc l _ _ _ _ h4
        refine ⟨t', H', ?_, h6⟩
        simp only [hw, h3]
        exact h5
    · rw [if_neg ha] at h
      have ha : isAct o.op = false := by simpa using ha
      have h : gdK (gdOf sz ops o) t (cvK P G sz (cvOf P sz o) t ht nx (fun v => dsK (dsOf sz o.dst) t v fun t => opsK P G callk sz (l.map (ciOf P sz ops)) t ht nx K)
          (fun k v => fB (Nat.blt nx 65536) (putBlk ht nx k fun ht => fV0 (v nx) fun v => dsK (dsOf sz o.dst) t v fun t => fN (Nat.succ nx) fun nx => opsK P G callk sz (l.map (ciOf P sz ops)) t ht nx K) false))
        (dsK (dsOf sz o.dst) t undefA fun t => opsK P G callk sz (l.map (ciOf P sz ops)) t ht nx K) = true := h
      rcases gdK_ok (G := G) hs h with ⟨hw, h⟩ | ⟨hw, h⟩
      · rcases cvK_ok hs h with ⟨v, h1, h2⟩ | ⟨k, n, v, h1, h2⟩
        · obtain ⟨t1, h3, h4⟩ := dsK_ok (G := G) h2
          obtain ⟨t', H', h5, h6⟩ := opsK_ok hs hc l _ _ _ _ h4
          refine ⟨t', H', ?_, h6⟩
          simp only [hw, ha, h1, force_eq, h3]
          exact h5
        · obtain ⟨hb, h2⟩ := fB_ok h2
          unfold putBlk at h2
          rw [T.setN_eq, fV0_eq] at h2
          obtain ⟨t1, h3, h4⟩ := dsK_ok (G := G) h2
          rw [fN_eq] at h4
          obtain ⟨t', H', h5, h6⟩ := opsK_ok hs hc l _ _ _ _ h4
          refine ⟨t', H', ?_, h6⟩
          simp only [hw, ha, h1, hb, h3]
          exact h5
      · obtain ⟨t1, h3, h4⟩ := dsK_ok (G := G) h
        obtain ⟨t', H', h5, h6⟩ := opsK_ok hs hc l _ _ _ _ h4
        refine ⟨t', H', ?_, h6⟩
        simp only [hw, h3]
        exact h5
end
end Ev
end Go.Proofs.YtikmamcbngbipaaGreatDoor
