/- The compiled run: bodies, loops, calls. -/
import Derived.Test.YtikmamcbngbipaaGreatDoorGE
namespace Go.Proofs.YtikmamcbngbipaaGreatDoor
namespace Ev

section
variable {P : Program} {G : Nat → Option Nat} {sz fuel : Nat} {L : Lore} {X : XK} {call : CallF} {callk : CallK}

/-- A statement in its compiled form. -/
def GoesTo (G : Nat → Option Nat) (sz : Nat) (r : Option (Ex × St)) (K : KC) : Prop := ∃ e t' H' ds', r = some (e, ⟨⟨t', sz, G⟩, H', ds'⟩) ∧ K e t' H'.t H'.next ds' = true

def XOK (G : Nat → Option Nat) (L : Lore) (X : XK) : Prop := ∀ sz call callk, sz ≤ 512 → CallKOK call callk → ∀ c t ht nx ds K, X sz callk c t ht nx ds K = true → GoesTo G sz (L.X call c ⟨⟨t, sz, G⟩, ⟨ht, nx⟩, ds⟩) K

theorem loopK_ok {body : T AV → HT → Nat → DL → KC → Bool} {g : St → Option (Ex × St)} (hb : ∀ t ht nx ds K, body t ht nx ds K = true → GoesTo G sz (g ⟨⟨t, sz, G⟩, ⟨ht, nx⟩, ds⟩) K) : ∀ n t ht nx ds K, loopK body n t ht nx ds K = true →
    GoesTo G sz (loopA n g ⟨⟨t, sz, G⟩, ⟨ht, nx⟩, ds⟩) K
  | 0, t, ht, nx, ds, K, h => nomatch (show false = true from h)
  | n + 1, t, ht, nx, ds, K, h => by
    obtain ⟨e, t1, H1, ds1, h1, h2⟩ := hb _ _ _ _ _ (show body t ht nx ds (fun e t ht nx ds => Ex.rec (motive := fun _ => Bool) (loopK body n t ht nx ds K) (fun id => K (.exit id) t ht nx ds) (K .ret t ht nx ds) e) = true from h)
    unfold loopA
    rw [h1]
    cases e with
    | norm => exact loopK_ok hb n t1 H1.t H1.next ds1 K h2
    | exit id => exact ⟨_, t1, H1, ds1, rfl, h2⟩
    | ret => exact ⟨_, t1, H1, ds1, rfl, h2⟩

theorem codeK_ok (hs : sz ≤ 512) (hc : CallKOK call callk) (hX : XOK G L X) : ∀ (c : Code) (t : T AV) (ht : HT) (nx : Nat) (ds : DL) (K : KC), codeK P G X callk fuel sz (ccOf P sz c) t ht nx ds K = true →
    GoesTo G sz (codeA P L call fuel c ⟨⟨t, sz, G⟩, ⟨ht, nx⟩, ds⟩) K := by
  intro c
  induction c with
  | skip => intro t ht nx ds K h; exact ⟨_, t, ⟨ht, nx⟩, ds, rfl, h⟩
  | label l => intro t ht nx ds K h; exact ⟨_, t, ⟨ht, nx⟩, ds, rfl, h⟩
  | ret => intro t ht nx ds K h; exact ⟨_, t, ⟨ht, nx⟩, ds, rfl, h⟩
  | exit id => intro t ht nx ds K h; exact ⟨_, t, ⟨ht, nx⟩, ds, rfl, h⟩
  | seq x y ihx ihy =>
    intro t ht nx ds K h
    obtain ⟨e, t1, H1, ds1, h1, h2⟩ := ihx _ _ _ _ _ (show codeK P G X callk fuel sz (ccOf P sz x) t ht nx ds (fun e t ht nx ds => Ex.rec (motive := fun _ => Bool) (codeK P G X callk fuel sz (ccOf P sz y) t ht nx ds K) (fun id => K (.exit id) t ht nx ds) (K .ret t ht nx ds) e) = true from h)
    unfold codeA
    rw [h1]
    cases e with
    | norm => exact ihy t1 H1.t H1.next ds1 K h2
    | exit id => exact ⟨_, t1, H1, ds1, rfl, h2⟩
    | ret => exact ⟨_, t1, H1, ds1, rfl, h2⟩
  | cond c x y ihx ihy =>
    intro t ht nx ds K h
    obtain ⟨v, h1, h2⟩ := srcK_ok (G := G) hs (show srcK G (srcOf sz c) t _ = true from h)
    unfold codeA
    simp only [h1]
    cases v with
    | bool b =>
      cases b with
      | true => exact ihx t ht nx ds K h2
      | false => exact ihy t ht nx ds K h2
    | _ => exact nomatch (show false = true from h2)
  | block id c ih =>
    intro t ht nx ds K h
    obtain ⟨e, t1, H1, ds1, h1, h2⟩ := ih _ _ _ _ _ (show codeK P G X callk fuel sz (ccOf P sz c) t ht nx ds (fun e t ht nx ds => Ex.rec (motive := fun _ => Bool) (K .norm t ht nx ds) (fun id' => fB (Nat.beq id' id) (K .norm t ht nx ds) (K (.exit id') t ht nx ds)) (K .ret t ht nx ds) e) = true from h)
    unfold codeA
    rw [h1]
    cases e with
    | norm => exact ⟨_, t1, H1, ds1, rfl, h2⟩
    | exit id' =>
      have h2 : fB (Nat.beq id' id) (K .norm t1 H1.t H1.next ds1) (K (.exit id') t1 H1.t H1.next ds1) = true := h2
      simp only []
      cases hb : Nat.beq id' id with
      | true => rw [hb] at h2; exact ⟨_, t1, H1, ds1, rfl, h2⟩
      | false => rw [hb] at h2; exact ⟨_, t1, H1, ds1, rfl, h2⟩
    | ret => exact ⟨_, t1, H1, ds1, rfl, h2⟩
  | loop c ih =>
    intro t ht nx ds K h
    exact loopK_ok ih fuel t ht nx ds K h
  | region id ops draw =>
    intro t ht nx ds K h
    unfold codeA
    cases draw with
    | true =>
      cases ho : orderly ops with
      | false =>
        have h : codeK P G X callk fuel sz (match orderly ops with
          | true => .draw (diOf P sz ops (maskTree ops) ops.toList 0) ops.size
          | false => .bad) t ht nx ds K = true := h
        rw [ho] at h
        exact nomatch (show false = true from h)
      | true =>
        have h : codeK P G X callk fuel sz (match orderly ops with
          | true => .draw (diOf P sz ops (maskTree ops) ops.toList 0) ops.size
          | false => .bad) t ht nx ds K = true := h
        rw [ho] at h
        obtain ⟨t', H', h1, h2⟩ := drawK_ok hs hc ho (show drawK P G callk sz (diOf P sz ops (maskTree ops) ops.toList 0) ops.size t ht nx (fun t ht nx => K .norm t ht nx ds) = true from h)
        exact ⟨_, t', H', ds, by simp only [h1], h2⟩
    | false =>
      have h : codeK P G X callk fuel sz (match deferOf ops.toList with
        | none => .ops (ops.toList.map (ciOf P sz ops))
        | some (pre, o, x, args) => .dfr (pre.map (ciOf P sz ops)) (srcOf sz x) (args.map (srcOf sz)) (dsOf sz o.dst) (gdOf sz ops o)) t ht nx ds K = true := h
      simp only []
      cases hd : deferOf ops.toList with
      | none =>
        rw [hd] at h
        obtain ⟨t', H', h1, h2⟩ := opsK_ok hs hc ops.toList _ _ _ _ (show opsK P G callk sz (ops.toList.map (ciOf P sz ops)) t ht nx (fun t ht nx => K .norm t ht nx ds) = true from h)
        exact ⟨_, t', H', ds, by simp only [h1], h2⟩
      | some q =>
        obtain ⟨pre, o, x, args⟩ := q
        rw [hd] at h
        obtain ⟨t1, H1, h1, h2⟩ := opsK_ok hs hc pre _ _ _ _ (show opsK P G callk sz (pre.map (ciOf P sz ops)) t ht nx (fun t ht nx => gdK (gdOf sz ops o) t _ false) = true from h)
        rcases gdK_ok (G := G) hs h2 with ⟨hw, h2⟩ | ⟨_, h2⟩
        · obtain ⟨v, h3, h4⟩ := srcK_ok (G := G) hs h2
          obtain ⟨l, h5, h6⟩ := srcsK_ok (G := G) hs h4
          cases v with
          | fn f a b =>
            cases f with
            | func g =>
              obtain ⟨h7, h8⟩ := fB_ok (show fB (entersA P g) (dsK (dsOf sz o.dst) t1 undefA fun t => K .norm t H1.t H1.next (Df.call g (a ++ (l ++ b)) :: ds)) false = true from h6)
              obtain ⟨t', h9, h10⟩ := dsK_ok (G := G) h8
              exact ⟨_, t', H1, _, by simp only [h1, hw, h3, h5, h9, h7], h10⟩
            | _ => exact nomatch (show false = true from h6)
          | _ => exact nomatch (show false = true from h6)
        · cases h2
  | _ =>
    intro t ht nx ds K h
    exact hX sz call callk hs hc _ t ht nx ds K h

theorem resK_ok (hs : sz ≤ 512) {t : T AV} {ht : HT} {nx : Nat} : ∀ (l : List ResultVar) (K : List AV → Bool), resK P (l.map (crOf sz)) t ht nx K = true → ∃ vs, resA P ⟨t, sz, G⟩ ⟨ht, nx⟩ l = some vs ∧ K vs = true
  | [], K, h => ⟨[], rfl, h⟩
  | .tmp i :: l, K, h => by
    rw [List.map_cons, crOf] at h
    split at h
    · rename_i p hp
      obtain ⟨h1, rfl, hb⟩ := slotOf_some hp
      have h : T.getK t (pathOf 9 i) (fun v => resK P (l.map (crOf sz)) t ht nx fun l => K (v :: l)) = true := h
      rw [T.getK_eq _ t 9 i (by omega)] at h
      obtain ⟨vs, h2, h3⟩ := resK_ok hs l _ h
      exact ⟨_, by simp only [resA, Fr.get, hb, h2], h3⟩
    · exact nomatch (show false = true from h)
  | .cell i ty :: l, K, h => by
    rw [List.map_cons, crOf] at h
    split at h
    · rename_i p hp
      obtain ⟨h1, rfl, hb⟩ := slotOf_some hp
      have h : T.getK t (pathOf 9 i) (fun v => onPtr v fun id off => onO (loadA P ty ⟨ht, nx⟩ id off) fun v => fV v fun v => resK P (l.map (crOf sz)) t ht nx fun l => K (v :: l)) = true := h
      rw [T.getK_eq _ t 9 i (by omega)] at h
      obtain ⟨id, off, h4, h⟩ := onPtr_ok h
      obtain ⟨v, h5, h⟩ := onO_ok h
      rw [fV_eq] at h
      obtain ⟨vs, h2, h3⟩ := resK_ok hs l _ h
      exact ⟨_, by simp only [resA, Fr.get, hb, h4, h5, h2], h3⟩
    · exact nomatch (show false = true from h)
theorem leaveK_ok : ∀ (l : DL) (ht : HT) (nx : Nat) (K : HT → Nat → Bool), leaveK L.D l ht nx K = true → ∃ H', leaveA L l ⟨ht, nx⟩ = some H' ∧ K H'.t H'.next = true
  | [], ht, nx, K, h => ⟨_, rfl, h⟩
  | .coll :: l, ht, nx, K, h => by
    obtain ⟨H', h3, h4⟩ := leaveK_ok l ht nx K h
    exact ⟨H', by simp only [leaveA]; exact h3, h4⟩
  | .call g args :: l, ht, nx, K, h => by
    have h : onO (L.D g) (fun d => onO (d args ⟨ht, nx⟩) fun H => Heap.rec (motive := fun _ => Bool) (fun ht nx => fN nx fun nx => leaveK L.D l ht nx K) H) = true := h
    obtain ⟨d, h1, h⟩ := onO_ok h
    obtain ⟨H1, h2, h⟩ := onO_ok h
    obtain ⟨H', h3, h4⟩ := leaveK_ok l H1.t H1.next K h
    exact ⟨H', by simp only [leaveA, h1, h2]; exact h3, h4⟩

theorem bodyK_ok (hc : CallKOK call callk) (hX : XOK G L X) {g : Nat} {fn : Func} (hfn : P.funcs[g]? = some fn) {args : List AV} {ht : HT} {nx : Nat} {K : KA} (h : bodyK P G X L.D callk fuel (cfOf P g) args ht nx K = true) :
    ∃ r H', bodyA P G L call fuel fn args ⟨ht, nx⟩ = some (r, H') ∧ K r H'.t H'.next = true := by
  unfold cfOf at h
  rw [hfn] at h
  simp only at h
  split at h
  · rename_i c hb hsz
    have hs := Nat.le_of_ble_eq_true hsz
    obtain ⟨h1, h2⟩ := fB_ok (show fB (Nat.ble args.length fn.ntmps) (T.layK 9 args (.leaf undefA) 0 fun t => codeK P G X callk fuel fn.ntmps (ccOf P fn.ntmps c) t ht nx [] fun e t ht nx ds => Ex.rec (motive := fun _ => Bool)
      (leaveK L.D ds ht nx fun ht nx => resK P (fn.results.toList.map (crOf fn.ntmps)) t ht nx fun l => K (oneOr l) ht nx) (fun _ => false) (leaveK L.D ds ht nx fun ht nx => resK P (fn.results.toList.map (crOf fn.ntmps)) t ht nx fun l => K (oneOr l) ht nx) e) false = true from h)
    rw [T.layK_eq] at h2
    obtain ⟨e, t1, H1, ds, h3, h4⟩ := codeK_ok hs hc hX c _ _ _ _ _ h2
    have fin : (leaveK L.D ds H1.t H1.next fun ht nx => resK P (fn.results.toList.map (crOf fn.ntmps)) t1 ht nx fun l => K (oneOr l) ht nx) = true → (∀ id, e ≠ .exit id) → ∃ r H', bodyA P G L call fuel fn args ⟨ht, nx⟩ = some (r, H') ∧ K r H'.t H'.next = true := fun h he => by
      obtain ⟨H2, h5, h6⟩ := leaveK_ok ds _ _ _ h
      obtain ⟨vs, h7, h8⟩ := resK_ok (G := G) hs _ _ h6
      refine ⟨oneOr vs, H2, ?_, h8⟩
      have h5 : leaveA L ds H1 = some H2 := h5
      have h7 : resA P ⟨t1, fn.ntmps, G⟩ H2 fn.results.toList = some vs := h7
      unfold bodyA
      simp only [hb, h1, hsz, Bool.and_self, h3]
      cases e with
      | exit id => exact (he id rfl).elim
      | norm =>
        simp only [h5, h7]
        unfold oneOr
        split <;> first | rfl | simp_all
      | ret =>
        simp only [h5, h7]
        unfold oneOr
        split <;> first | rfl | simp_all
    cases e with
    | norm => exact fin h4 (fun _ h => by cases h)
    | ret => exact fin h4 (fun _ h => by cases h)
    | exit id => exact nomatch (show false = true from h4)
  · exact nomatch (show false = true from h)

theorem callK_ok (hX : XOK G L X) : ∀ n, CallKOK (callA P G L fuel n) (callK P G X L.D L.K fuel n)
  | 0 => fun g args ht nx K h => nomatch (show false = true from h)
  | n + 1 => fun g args ht nx K h => by
    have ih := callK_ok hX n
    have h : Option.rec (motive := fun _ => Bool) (bodyK P G X L.D (callK P G X L.D L.K fuel n) fuel (cfOf P g) args ht nx K) (fun s => knownK s ht nx K) (L.K g args) = true := h
    unfold callA
    cases hk : L.K g args with
    | some s =>
      rw [hk] at h
      obtain ⟨⟨r, H'⟩, h1, h2⟩ := onO_ok (show knownK s ht nx K = true from h)
      have h2 : fV r (fun v => K v H'.t H'.next) = true := h2
      rw [fV_eq] at h2
      exact ⟨r, H', h1, h2⟩
    | none =>
      rw [hk] at h
      simp only []
      cases hfn : P.funcs[g]? with
      | none =>
        have h : bodyK P G X L.D (callK P G X L.D L.K fuel n) fuel (cfOf P g) args ht nx K = true := h
        unfold cfOf at h
        rw [hfn] at h
        exact nomatch (show false = true from h)
      | some fn => exact bodyK_ok ih hX hfn h
end
end Ev
end Go.Proofs.YtikmamcbngbipaaGreatDoor
