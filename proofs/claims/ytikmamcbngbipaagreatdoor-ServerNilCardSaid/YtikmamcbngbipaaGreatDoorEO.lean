/- append, copy, clear, delete; a map written. -/
import Derived.Test.YtikmamcbngbipaaGreatDoorEN
namespace Go.Proofs.YtikmamcbngbipaaGreatDoor
namespace Ev

section
variable {σ : Nat → Value} {ρ : Place} {P : Program} {H H' : Heap} {w : World}

/-- What an operation leaves. -/
def Leaves (σ : Nat → Value) (ρ : Place) (P : Program) (H H' : Heap) (w : World) (s : Sem Value) (v : AV) : Prop :=
  ∃ ρ' v' w', s.run P w = .ok v' w' ∧ HR σ ρ' H' w'.heap ∧ Step ρ H w ρ' H' w' ∧ conc σ ρ' v = some v'
theorem Leaves.still (hr : HR σ ρ H w.heap) {s : Sem Value} {v : AV} {v' : Value} (h : s.run P w = .ok v' w) (hv : conc σ ρ v = some v') : Leaves σ ρ P H H w s v :=
  ⟨ρ, v', w, h, hr, .refl, hv⟩

theorem zero_mul_cells (a : Addr) (size : Nat) : (loadCells a (0 * size)).run P w = .ok #[] w := by simp [loadCells, loadCellsFrom]
theorem srcA_run (hr : HR σ ρ H w.heap) {size n : Nat} {x : AV} {xs : List AV} {x' : Value} (h : srcA H size x = some (xs, n)) (hx : conc σ ρ x = some x') :
    (Builtin.lenOf x').run P w = .ok n w ∧ ∃ cv, concs σ ρ xs = some cv ∧ (Builtin.firstCells size n x').run P w = .ok cv.toArray w := by
  unfold srcA at h
  split at h
  · rename_i s
    cases h
    simp only [conc, Option.some.injEq] at hx
    subst hx
    have hsz : (⟨s.toArray⟩ : ByteArray).size = s.length := by simp [ByteArray.size]
    refine ⟨by simp [Builtin.lenOf, hsz], _, bytesOf_conc s, ?_⟩
    simp [Builtin.firstCells, ByteArray.extract_mk]
  · split at h
    · rename_i n' hsl
      cases h
      rcases sliceOf_conc hsl hx with ⟨_, rfl, rfl⟩ | ⟨id, off, p, a, cap, e1, _⟩
      · exact ⟨by simp [Builtin.lenOf], [], rfl, by simp [Builtin.firstCells]⟩
      · cases e1
    · rename_i y hsl
      cases h
      rcases sliceOf_conc hsl hx with ⟨e1, _⟩ | ⟨id, off, p, a, cap, e1, hp, rfl, ha⟩
      · cases e1
      · exact ⟨by simp [Builtin.lenOf], [], rfl, by simp only [Builtin.firstCells, zero_mul_cells]⟩
    · rename_i id off n' hne hsl
      split at h
      · rename_i l hl
        cases h
        rcases sliceOf_conc hsl hx with ⟨e1, _⟩ | ⟨id', off', p, a, cap, e1, hp, rfl, ha⟩
        · cases e1
        · cases e1
          have ha := ha (Nat.pos_of_ne_zero hne)
          subst ha
          obtain ⟨vs, c1, c2, c3⟩ := loads_run (P := P) hr hp hl
          exact ⟨by simp [Builtin.lenOf], vs, c1, by simpa [Builtin.firstCells] using c3⟩
      · cases h
    · cases h

theorem srcA_zero {size : Nat} {x : AV} {xs : List AV} (h : srcA H size x = some (xs, 0)) : xs = [] := by
  unfold srcA at h
  split at h
  · rename_i s
    simp only [Option.some.injEq, Prod.mk.injEq] at h
    have : s = [] := List.length_eq_zero_iff.1 h.2
    subst this; exact h.1.symm
  · split at h
    · cases h; rfl
    · cases h; rfl
    · rename_i hne _
      split at h
      · cases h; exact (hne rfl).elim
      · cases h
    · cases h

/-- A fresh block, known from its head on. -/
theorem BR_open {l : List AV} {vs : List Value} (h : concs σ ρ l = some vs) (c : Array Value) (rest : Array Value) (hc : c = vs.toArray ++ rest) (b : Nat) (t : TypeId) :
    BR σ ρ ⟨b, 0, c.size⟩ (some (.cells c t)) (.cells (T.lay (dep l.length) (.leaf default) 0 l) l.length t) := by
  have hl := concs_length h
  refine ⟨c, (0, 0), rfl, .inl rfl, by simp, by rw [hc]; simp; omega, fun i hi => ?_⟩
  have := T.get_lay_in (d := dep l.length) l (.leaf default) 0 i (by have := lt_dep l.length; omega) (by omega) (by omega)
  obtain ⟨v, e1, e2⟩ := concs_get h this
  refine ⟨v, ?_, e2⟩
  rw [hc]
  simp only [Nat.zero_add, Nat.sub_zero] at e1 ⊢
  rw [Array.getElem?_append_left (by simp; omega)]
  simpa using e1

/-- A slice that grew into a block of its own. -/
theorem grown (hr : HR σ ρ H w.heap) {l : List AV} {vs : List Value} (hl : concs σ ρ l = some vs) {e : TypeId} {H' : Heap} (h : newCells H l e = some H') {need size cap : Nat} {rest : Array Value} {w1 : World}
    (hsz : vs.length = need * size) (hs0 : 0 < size) (hcap : need ≤ cap) (hrest : vs.length + rest.size = cap * size) (h1 : w1.heap = w.heap.push (.cells (vs.toArray ++ rest) e)) (h2 : w1.os = w.os ∧ w1.output = w.output ∧ w1.tape = w.tape) :
    ∃ ρ', HR σ ρ' H' w1.heap ∧ Step ρ H w ρ' H' w1 ∧ conc σ ρ' (.osl H.next 0 0 need size) = some (.slice (some ⟨w.heap.size, 0, none⟩) need cap) := by
  unfold newCells at h
  split at h
  · rename_i hn
    cases h
    have hn := bl hn
    have hN : (vs.toArray ++ rest).size = cap * size := by simp; exact hrest
    have hne := hr.fresh H.next (Nat.le_refl _)
    have hb := BR_open (σ := σ) (ρ := ρ.with H.next ⟨w.heap.size, 0, (vs.toArray ++ rest).size⟩) (concs_mono (Place.with_le hne) _ _ hl) (vs.toArray ++ rest) rest rfl w.heap.size e
    refine ⟨ρ.with H.next ⟨w.heap.size, 0, (vs.toArray ++ rest).size⟩, ?_, Step.new hr hn rfl rfl h1 h2, ?_⟩
    · rw [h1]; exact HR.new hr hn rfl hb
    · simp only [conc, Place.with_self]
      have : need * size ≤ cap * size := Nat.mul_le_mul_right _ hcap
      rw [if_pos ⟨hs0, by rw [hN]; omega, by rw [hN]; simp⟩, hN]
      simp [hs0]
  · cases h

theorem zeroCells_size (z : Array Value) (n : Nat) : (Builtin.zeroCells z n).size = n * z.size := by simp [Builtin.zeroCells]

/-- Is the second argument a slice, or a text? -/
def plainArg (P : Program) (u : TypeId) : Prop := (∃ e, P.underlying u = some (.slice e)) ∨ P.underlying u = some .string
theorem bind_ok {α β : Type} {x : Sem α} {f : α → Sem β} {a : α} {w1 : World} (h : x.run P w = .ok a w1) : (x >>= f).run P w = (f a).run P w1 := by
  rw [Sem.run_bind, h]; rfl

theorem append_head {ty t u e : TypeId} {size n : Nat} {base : Option Addr} {sLen sCap : Nat} {x' : Value} (hu : P.underlying t = some (.slice e)) (hsz : sizeA P e = some size)
    (ht2 : plainArg P u) (hn : (Builtin.lenOf x').run P w = .ok n w) :
    (Builtin.append_ #[t, u] ty #[.slice base sLen sCap, x']).run P w = ((if sLen + n ≤ sCap then do
        let new ← Builtin.firstCells size n x'
        if let some a := base then storeCells (a.add (sLen * size)) new.toList
        pure (.slice base (sLen + n) sCap)
      else do
        if ((sLen + n : Nat) : Int) > IntKind.i64.max ∧ (false = true ∨ (← typeInfo e).bytes = 0) then runtimePanic (.error "growslice: len out of range")
        if Builtin.nextslicecap (sLen + n) sCap * (← typeInfo e).bytes > 2 ^ 48 then (if false = true then runtimePanic (.error "growslice: len out of range") else do
          if !(← Builtin.mayShare size sLen n base x') then mark .noRoom
          unsupported (.resourceLimit "append: a slice or a string whose bytes no memory bears"))
        let newCap ← choose (.appendCap (sLen + n) sCap e)
        askRoom (newCap * (← typeInfo e).bytes)
        let old ← Builtin.firstCells size sLen (.slice base sLen sCap)
        let new ← Builtin.firstCells size n x'
        let rest := Builtin.zeroCells (← zeroValue e).cells (newCap - (sLen + n))
        pure (.slice (some (← newRow e (old ++ new ++ rest))) (sLen + n) newCap) : Sem Value)).run P w := by
  unfold Builtin.append_
  simp only [show (#[t, u] : Array TypeId)[0]? = some t from rfl, show (#[t, u] : Array TypeId)[1]? = some u from rfl, show (#[Value.slice base sLen sCap, x'] : Array Value)[0]? = some (Value.slice base sLen sCap) from rfl,
    show (#[Value.slice base sLen sCap, x'] : Array Value)[1]? = some x' from rfl]
  rw [bind_ok (run_und hu w)]
  dsimp only
  rw [bind_ok (run_size hsz w)]
  rcases ht2 with ⟨e2, h2⟩ | h2
  · rw [bind_ok (run_und h2 w)]
    dsimp only
    rw [pure_bind, if_neg (by simp), bind_ok hn]
    rfl
  · rw [bind_ok (run_und h2 w)]
    dsimp only
    rw [pure_bind, if_neg (by simp), bind_ok hn]
    rfl

/-- The program's append, where there is room. -/
theorem append_room {ty t u e : TypeId} {size sLen n sCap : Nat} {base : Option Addr} {x' : Value} {cv : List Value} {w1 : World} (hu : P.underlying t = some (.slice e)) (hsz : sizeA P e = some size)
    (ht2 : plainArg P u) (hn : (Builtin.lenOf x').run P w = .ok n w) (hc : (Builtin.firstCells size n x').run P w = .ok cv.toArray w) (hroom : sLen + n ≤ sCap)
    (hst : ∀ a, base = some a → (storeCells (a.add (sLen * size)) cv).run P w = .ok () w1) (hnone : base = none → w1 = w) :
    (Builtin.append_ #[t, u] ty #[.slice base sLen sCap, x']).run P w = .ok (.slice base (sLen + n) sCap) w1 := by
  rw [append_head hu hsz ht2 hn, if_pos hroom, bind_ok hc]
  cases base with
  | none => rw [hnone rfl]; rfl
  | some a =>
    show (storeCells (a.add (sLen * size)) cv >>= _).run P w = _
    rw [bind_ok (hst a rfl)]; rfl

theorem bytesA_info {t : TypeId} {s : Nat} (h : bytesA P t = some s) : ∃ i, P.info? t = some i ∧ i.bytes = s := by
  unfold bytesA at h
  split at h
  · rename_i i hi; cases h; exact ⟨i, hi, rfl⟩
  · cases h

/-- The program's append, where there is none. -/
theorem append_grow {ty t u e : TypeId} {size by_ sLen n sCap : Nat} {base : Option Addr} {x' zv : Value} {ov cv : List Value} (hu : P.underlying t = some (.slice e)) (hsz : sizeA P e = some size) (hby : bytesA P e = some by_)
    (hz : ∀ w, (zeroValue e).run P w = .ok zv w) (ht2 : plainArg P u) (hn : (Builtin.lenOf x').run P w = .ok n w) (hc : (Builtin.firstCells size n x').run P w.drew = .ok cv.toArray w.drew)
    (ho : (Builtin.firstCells size sLen (.slice base sLen sCap)).run P w.drew = .ok ov.toArray w.drew) (hroom : sCap < sLen + n) (hb : (sLen + n) * by_ ≤ 1000000000) (hl : sLen + n ≤ 1000000) :
    ∃ cap, sLen + n ≤ cap ∧ (Builtin.append_ #[t, u] ty #[.slice base sLen sCap, x']).run P w =
      .ok (.slice (some ⟨w.heap.size, 0, none⟩) (sLen + n) cap) (w.drew.alloc (.cells ((ov ++ cv).toArray ++ Builtin.zeroCells zv.cells (cap - (sLen + n))) e)) := by
  obtain ⟨i, hi, hib⟩ := bytesA_info hby
  refine ⟨grownCap w (sLen + n) sCap e, by simp [grownCap, Question.cut], ?_⟩
  have hfit : Builtin.nextslicecap (sLen + n) sCap * i.bytes ≤ 281474976710656 := growslice_fits hroom (by rw [hib]; omega)
  have h48 : ¬ (Builtin.nextslicecap (sLen + n) sCap * i.bytes > 2 ^ 48) := by omega
  have h63 : ¬ (((sLen + n : Nat) : Int) > IntKind.i64.max ∧ (false = true ∨ i.bytes = 0)) := by
    simp only [IntKind.max, IntKind.signed, IntKind.bits]
    simp
    omega
  have hro : ¬ (sLen + n ≤ sCap) := by omega
  have hty : ∀ w, (typeInfo e).run P w = .ok i w := fun w => run_info hi w
  have hch : (choose (.appendCap (sLen + n) sCap e)).run P w = .ok (grownCap w (sLen + n) sCap e) w.drew := by
    simp [Question.forced, grownCap]
  rw [append_head hu hsz ht2 hn, if_neg hro, bind_ok (hty w), if_neg h63]
  rw [bind_ok (hty w), if_neg h48]
  rw [bind_ok hch, bind_ok (hty _), bind_ok (run_askRoom _ _ _), bind_ok ho, bind_ok hc, bind_ok (hz _)]
  simp [newRow]
  rfl

theorem cells_oneCell (hs : ∀ i, (σ i).oneCell' = true) {l : List AV} {vs : List Value} (hl : concs σ ρ l = some vs) (hp : l.all AV.plain = true) : ∀ v ∈ vs, v.oneCell' = true := fun v hv => by
  obtain ⟨i, hi⟩ := List.mem_iff_getElem?.1 hv
  have hlen := concs_length hl
  have hil : i < l.length := by
    have := (List.getElem?_eq_some_iff.1 hi).1; omega
  obtain ⟨v', e1, e2⟩ := concs_get hl (List.getElem?_eq_getElem hil)
  rw [hi] at e1; cases e1
  exact plain_one e2 hs (List.all_eq_true.1 hp _ (List.getElem_mem hil))

theorem growT_get {off m old all : Nat} {t : T AV} {xs : List AV} (h : off = 0 → m = old) (hall : old + xs.length = all) : ∀ i, i < all →
    (t.list off old ++ xs)[i]? = some ((growT off m old all t xs).get i) := fun i hi => by
  have hll : (t.list off old).length = old := t.list_length _ _
  cases off with
  | zero =>
    have hm := h rfl
    subst hm
    have hlt := lt_dep (m + xs.length)
    show _ = some ((T.lay (dep (m + xs.length)) t m xs).get i)
    by_cases him : i < m
    · rw [List.getElem?_append_left (by omega), T.get_lay_out xs t m i (by omega) (by omega) (by omega), t.list_get _ _ _ (by omega), Nat.zero_add]
    · rw [List.getElem?_append_right (by omega), hll, ← T.get_lay_in (d := dep (m + xs.length)) xs t m i (by omega) (by omega) (by omega)]
  | succ off =>
    have hlt := lt_dep all
    have := T.get_lay_in (d := dep all) (t.list (off + 1) old ++ xs) (.leaf default) 0 i (by rw [List.length_append, hll]; omega) (by omega) (by rw [List.length_append, hll]; omega)
    show _ = some ((T.lay (dep all) (.leaf default) 0 (t.list (off + 1) old ++ xs)).get i)
    simpa using this

/-- A slice that goes on in its own block, or in a new one. -/
theorem appendA_run (hs : ∀ i, (σ i).oneCell' = true) (hr : HR σ ρ H w.heap) {t u ty : TypeId} {s x v : AV} {s' x' : Value} (h : appendA P t u s x H = some (v, H')) (hx1 : conc σ ρ s = some s') (hx2 : conc σ ρ x = some x') :
    Leaves σ ρ P H H' w (Builtin.append_ #[t, u] ty #[s', x']) v := by
  unfold appendA at h
  split at h
  · rename_i e hu
    split at h
    · rename_i k by_ z hsz hby hz
      have hzw : ∃ zv, (∀ w, (zeroValue e).run P w = .ok zv w) ∧ conc σ ρ z = some zv := by
        obtain ⟨zv, h1, h2⟩ := run_zero (P := P) (σ := σ) (ρ := ρ) hz w
        refine ⟨zv, fun w2 => ?_, h2⟩
        obtain ⟨zv', h1', h2'⟩ := run_zero (P := P) (σ := σ) (ρ := ρ) hz w2
        rw [h2] at h2'; cases h2'; exact h1'
      obtain ⟨zv, hz1, hz2⟩ := hzw
      have hzc := cells_size hz2 hs
      dsimp only at h
      split at h
      · rename_i xs n hsrc hnum
        rw [Bool.or_eq_false_iff] at hnum
        obtain ⟨hnum, hzl⟩ := hnum
        have hzl : (cellsOf z).length = k + 1 := by
          have : Nat.beq (cellsOf z).length (k + 1) = true := by simpa using hzl
          exact Nat.eq_of_beq_eq_true this
        have hpa : plainArg P u := by
          split at hnum
          · rename_i e2 h2; exact .inl ⟨e2, h2⟩
          · rename_i h2; exact .inr h2
          · cases hnum
        obtain ⟨hn, cv, hcv, hfc⟩ := srcA_run (P := P) hr hsrc hx2
        have hfcd : (Builtin.firstCells (k + 1) n x').run P w.drew = .ok cv.toArray w.drew := by
          have hr' : HR σ ρ H w.drew.heap := hr
          obtain ⟨_, cv', hcv', hfc'⟩ := srcA_run (P := P) (w := w.drew) hr' hsrc hx2
          rw [hcv] at hcv'; cases hcv'; exact hfc'
        have hcl := concs_length hcv
        -- growing into a new block
        have grow : ∀ (H1 : Heap) (base : Option Addr) (sLen sCap : Nat) (old : List AV) (ov : List Value), HR σ ρ H1 w.heap → Step ρ H w ρ H1 w → H1.next = H.next → concs σ ρ old = some ov → old.length = sLen * (k + 1) →
            (Builtin.firstCells (k + 1) sLen (.slice base sLen sCap)).run P w.drew = .ok ov.toArray w.drew → sCap < sLen + n → (sLen + n) * by_ ≤ 1000000000 → sLen + n ≤ 1000000 → xs.length = n * (k + 1) →
            newCells H1 (old ++ xs) e = some H' → v = .osl H.next 0 0 (sLen + n) (k + 1) → Leaves σ ρ P H H' w (Builtin.append_ #[t, u] ty #[.slice base sLen sCap, x']) v := by
          intro H1 base sLen sCap old ov hr1 hst1 hnx hov hol hfo hroom hb1 hb2 hxl hnew hv
          obtain ⟨cap, hc1, hc2⟩ := append_grow (ty := ty) hu hsz hby hz1 hpa hn hfcd hfo hroom hb1 hb2
          have hovl := concs_length hov
          have hall := concs_append hov hcv
          have hzs : (Builtin.zeroCells zv.cells (cap - (sLen + n))).size = (cap - (sLen + n)) * (k + 1) := by
            rw [zeroCells_size, hzc, hzl]
          have e1 : (ov ++ cv).length = (sLen + n) * (k + 1) := by
            rw [List.length_append, Nat.add_mul]; omega
          obtain ⟨ρ', g1, g2, g3⟩ := grown (w1 := w.drew.alloc (.cells ((ov ++ cv).toArray ++ Builtin.zeroCells zv.cells (cap - (sLen + n))) e)) hr1 hall hnew (size := k + 1) (need := sLen + n) (cap := cap) e1 (by omega) hc1
            (by rw [e1, hzs, ← Nat.add_mul]; congr 1; omega) rfl ⟨rfl, rfl, rfl⟩
          rw [hnx] at g3
          exact ⟨ρ', _, _, hc2, g1, hst1.trans g2, by rw [hv]; exact g3⟩
        split at h
        · -- nil
          simp only [conc, Option.some.injEq] at hx1
          subst hx1
          split at h
          · cases h
            refine Leaves.still hr (append_room (ty := ty) (cv := cv) (w1 := w) hu hsz hpa hn hfc (by omega) (fun a ha => by cases ha) (fun _ => rfl)) ?_
            rfl
          · rename_i hn0
            split at h
            · rename_i H1 hc1 hnew
              cases h
              simp only [Bool.and_eq_true] at hc1
              obtain ⟨⟨c1, c2⟩, c3⟩ := hc1
              have c1 := Nat.le_of_ble_eq_true c1
              have c2 := Nat.le_of_ble_eq_true c2
              have c3 := Nat.eq_of_beq_eq_true c3
              have hn0 : 0 < n := Nat.pos_of_ne_zero hn0
              exact grow H none 0 0 [] [] hr .refl rfl rfl (by simp) (by simp [Builtin.firstCells]) (by omega) (by simpa using c1) (by simpa using c2) c3 (by simpa using hnew) (by simp)
            · cases h
        · -- a slice whose room is known
          rename_i id off len cap
          obtain ⟨p, hp, rfl⟩ := conc_slice hx1
          split at h
          · split at h
            · rename_i hle
              cases h
              have hle := Nat.le_of_ble_eq_true hle
              have hx0 := srcA_zero hsrc
              subst hx0
              cases hcv
              exact Leaves.still hr (v' := .slice (some ⟨p.b, p.o + off, none⟩) (len + 0) cap) (append_room (ty := ty) (cv := []) (w1 := w) hu hsz hpa hn hfc (by omega) (fun a ha => rfl) (fun ha => by cases ha)) (by simp [conc, hp])
            · cases h
          · rename_i hn0
            have hn0 : 0 < n := Nat.pos_of_ne_zero hn0
            split at h
            · rename_i hle
              have hle := Nat.le_of_ble_eq_true hle
              split at h
              · rename_i H1 hst
                cases h
                obtain ⟨s1, s2, s3⟩ := stores_run (P := P) hs hr hp hst hcv
                refine ⟨ρ, .slice (some ⟨p.b, p.o + off, none⟩) (len + n) cap, _, append_room (ty := ty) hu hsz hpa hn hfc hle (fun a ha => ?_) (fun ha => by cases ha), s2, s3, by simp [conc, hp]⟩
                cases ha
                rw [add_none, Nat.add_assoc]; exact s1
              · cases h
            · rename_i hle
              have hle : cap < len + n := by
                rcases Nat.lt_or_ge cap (len + n) with g | g
                · exact g
                · rw [Nat.ble_eq_true_of_le g] at hle; cases hle
              split at h
              · rename_i old hold
                split at h
                · rename_i H1 hc1 hnew
                  cases h
                  simp only [Bool.and_eq_true] at hc1
                  obtain ⟨⟨c1, c2⟩, c3⟩ := hc1
                  have c1 := Nat.le_of_ble_eq_true c1
                  have c2 := Nat.le_of_ble_eq_true c2
                  have c3 := Nat.eq_of_beq_eq_true c3
                  rw [List.length_append, Nat.add_mul] at c3
                  have ho : ∃ ov, concs σ ρ old = some ov ∧ old.length = len * (k + 1) ∧ (Builtin.firstCells (k + 1) len (.slice (some ⟨p.b, p.o + off, none⟩) len cap)).run P w.drew = .ok ov.toArray w.drew := by
                    split at hold
                    · cases hold
                      exact ⟨[], rfl, by simp, by simp only [Builtin.firstCells, zero_mul_cells]⟩
                    · have hr' : HR σ ρ H w.drew.heap := hr
                      obtain ⟨vs, q1, q2, q3⟩ := loads_run (P := P) (w := w.drew) hr' hp hold
                      exact ⟨vs, q1, by have := concs_length q1; omega, by simpa [Builtin.firstCells] using q3⟩
                  obtain ⟨ov, q1, q2, q3⟩ := ho
                  exact grow H _ len cap old ov hr .refl rfl q1 q2 q3 hle c1 c2 (by omega) hnew rfl
                · cases h
              · cases h
        · -- a slice that has room we do not know of
          rename_i id off0 off len k'
          obtain ⟨p, hp, hk, hl, hd, rfl⟩ := conc_osl hx1
          split at h
          · cases h
            have hx0 := srcA_zero hsrc
            subst hx0
            cases hcv
            refine Leaves.still hr (v' := .slice (some ⟨p.b, p.o + (if off = p.n then off0 else off), none⟩) (len + 0) ((p.n - off) / k')) (append_room (ty := ty) (cv := []) (w1 := w) hu hsz hpa hn hfc ?_ (fun a ha => rfl) (fun ha => by cases ha)) ?_
            · exact (Nat.le_div_iff_mul_le hk).2 (by simp; omega)
            · simp only [conc, hp]
              rw [if_pos ⟨hk, hl, hd⟩]; rfl
          · rename_i hn0
            have hn0 : 0 < n := Nat.pos_of_ne_zero hn0
            split at h
            · rename_i t' m ty' hg hkk
              have hkk := Nat.eq_of_beq_eq_true hkk
              subst hkk
              obtain ⟨q, hq, hb⟩ := hr.live id _ (hr.lt hp) hg
              rw [hp] at hq; cases hq
              obtain ⟨c, fz, b1, b2, b3, b4, b5⟩ := hb
              have hnk : 1 * (k + 1) ≤ n * (k + 1) := Nat.mul_le_mul_right _ hn0
              have hadd : (len + n) * (k + 1) = len * (k + 1) + n * (k + 1) := Nat.add_mul _ _ _
              split at h
              · rename_i hle
                have hle := Nat.le_of_ble_eq_true hle
                split at h
                · rename_i H1 hst
                  cases h
                  obtain ⟨s1, s2, s3⟩ := stores_run (P := P) hs hr hp hst hcv
                  have hne : ¬ off = p.n := by omega
                  refine ⟨ρ, .slice (some ⟨p.b, p.o + (if off = p.n then off0 else off), none⟩) (len + n) ((p.n - off) / (k + 1)), _, append_room (ty := ty) hu hsz hpa hn hfc ((Nat.le_div_iff_mul_le hk).2 (by omega)) (fun a ha => ?_) (fun ha => by cases ha), s2, s3, ?_⟩
                  · cases ha
                    rw [if_neg hne, add_none, Nat.add_assoc]; exact s1
                  · simp only [conc, hp]
                    rw [if_pos ⟨hk, by omega, hd⟩]
                · cases h
              · split at h
                · rename_i hc1
                  cases h
                  simp only [Bool.and_eq_true] at hc1
                  obtain ⟨⟨⟨⟨⟨⟨c1, c2⟩, c3⟩, c4⟩, c5⟩, c6⟩, c7⟩ := hc1
                  have c1 := Nat.eq_of_beq_eq_true c1
                  have c2 := Nat.le_of_ble_eq_true c2
                  have c3 := Nat.le_of_ble_eq_true c3
                  have c4 := Nat.eq_of_beq_eq_true c4
                  have c6 := bl c6
                  have c7 := Nat.eq_of_beq_eq_true c7
                  subst c7
                  -- the cells that the slice has
                  have hload : H.loads id off (len * (k + 1)) = some (t'.list off (len * (k + 1))) := by
                    unfold Heap.loads
                    rw [hg]
                    simp only [Nat.ble_eq_true_of_le (show off + len * (k + 1) ≤ m by omega)]
                  have hr' : HR σ ρ H w.drew.heap := hr
                  obtain ⟨vs, q1, q2, q3⟩ := loads_run (P := P) (w := w.drew) hr' hp hload
                  have hvl := concs_length q1
                  have hll : (t'.list off (len * (k + 1))).length = len * (k + 1) := t'.list_length _ _
                  have hfo : (Builtin.firstCells (k + 1) len (.slice (some ⟨p.b, p.o + (if off = p.n then off0 else off), none⟩) len ((p.n - off) / (k + 1)))).run P w.drew = .ok vs.toArray w.drew := by
                    simp only [Builtin.firstCells]
                    by_cases hl0 : len = 0
                    · subst hl0
                      have : vs = [] := List.length_eq_zero_iff.1 (by rw [hvl, hll]; simp)
                      subst this
                      rw [zero_mul_cells]
                    · have : 1 * (k + 1) ≤ len * (k + 1) := Nat.mul_le_mul_right _ (by omega)
                      rw [if_neg (by omega)]
                      exact q3
                  -- the tree of the cells, either way
                  have htree := growT_get (off := off) (m := m) (old := len * (k + 1)) (all := (len + n) * (k + 1)) (t := t') (xs := xs) (fun h0 => by omega) (by omega)
                  generalize growT off m (len * (k + 1)) ((len + n) * (k + 1)) t' xs = tree at htree ⊢
                  have hall := concs_append q1 hcv
                  by_cases hroom : len + n ≤ (p.n - off) / (k + 1)
                  · -- there was room
                    have hroom' : (len + n) * (k + 1) ≤ p.n - off := (Nat.le_div_iff_mul_le hk).1 hroom
                    have hne : ¬ off = p.n := by omega
                    obtain ⟨c', a1, a2, a3⟩ := setCells_block p.b cv (p.o + off + len * (k + 1)) w c ty' fz b1 (by omega)
                    have hrun : (storeCells ⟨p.b, p.o + off + len * (k + 1), none⟩ cv).run P w = .ok () (w.setCells p.b (p.o + off + len * (k + 1)) cv) := by
                      have := run_storeCells_cells (P := P) p.b (p.o + off + len * (k + 1)) cv 0 w (fun j hj => ?_) (fun j hj => not_frozen b1 b2 (by omega)) (cells_oneCell hs hcv c5)
                      · simpa using this
                      · have : p.o + off + len * (k + 1) + 0 + j < c.size := by omega
                        simp only [World.cell?, b1, Option.isSome_none, Bool.false_eq_true, if_false]
                        rw [Array.getElem?_eq_getElem this]; rfl
                    have hfresh := hr.fresh H.next (Nat.le_refl _)
                    have hB : BR σ (ρ.with H.next ⟨p.b, p.o + off, p.n - off⟩) ⟨p.b, p.o + off, p.n - off⟩ (w.setCells p.b (p.o + off + len * (k + 1)) cv).heap[p.b]? (.cells tree ((len + n) * (k + 1)) ty') := by
                      refine ⟨c', fz, a1, by rw [a2]; exact b2, by rw [a2, b3]; show p.o + p.n = p.o + off + (p.n - off); omega, hroom', fun i hi => ?_⟩
                      have ht := htree i hi
                      have hall' := concs_mono (Place.with_le (p := ⟨p.b, p.o + off, p.n - off⟩) hfresh) _ _ hall
                      obtain ⟨v', e1, e2⟩ := concs_get hall' ht
                      refine ⟨v', ?_, e2⟩
                      show c'[p.o + off + i]? = some v'
                      rw [a3]
                      by_cases hi1 : i < len * (k + 1)
                      · rw [if_neg (by omega)]
                        rw [List.getElem?_append_left (by omega)] at e1
                        obtain ⟨v2, f1, f2⟩ := b5 (off + i) (by omega)
                        rw [show p.o + off + i = p.o + (off + i) by omega, f1]
                        have hx := concs_get q1 (i := i) (t'.list_get _ _ _ hi1)
                        obtain ⟨v3, f3, f4⟩ := hx
                        rw [e1] at f3; cases f3
                        rw [f4] at f2; cases f2; rfl
                      · rw [if_pos (by omega)]
                        rw [List.getElem?_append_right (by omega)] at e1
                        rw [show p.o + off + i - (p.o + off + len * (k + 1)) = i - vs.length by omega]
                        exact e1
                    refine ⟨ρ.with H.next ⟨p.b, p.o + off, p.n - off⟩, .slice (some ⟨p.b, p.o + (if off = p.n then off0 else off), none⟩) (len + n) ((p.n - off) / (k + 1)), w.setCells p.b (p.o + off + len * (k + 1)) cv,
                      append_room (ty := ty) hu hsz hpa hn hfc hroom (fun a ha => ?_) (fun ha => by cases ha),
                      hr.rename c6 hp hg rfl (setCells_size _ _ _ _) (fun d hd => setCells_other _ _ _ _ d hd) hB,
                      Step.rename hr c6 hp hg rfl (setCells_size _ _ _ _) (fun d hd => setCells_other _ _ _ _ d hd) (setCells_rest _ _ _ _), ?_⟩
                    · cases ha
                      rw [if_neg hne, add_none]; exact hrun
                    · simp only [conc, Place.with_self]
                      rw [if_pos ⟨hk, by omega, by rw [Nat.sub_zero]; exact hd⟩, if_neg hne, if_neg (by omega), Nat.sub_zero, Nat.add_zero]
                  · -- there was none
                    have hidlt := hr.lt hp
                    have hr1 := hr.forget hidlt
                    have hst1 : Step ρ H w ρ (H.drop id) w := Step.forget hr hidlt
                    obtain ⟨cap, g1, g2⟩ := append_grow (ty := ty) hu hsz hby hz1 hpa hn hfcd hfo (by omega) c2 c3
                    have hzs : (Builtin.zeroCells zv.cells (cap - (len + n))).size = (cap - (len + n)) * (k + 1) := by
                      rw [zeroCells_size, hzc, hzl]
                    have hvs : (vs ++ cv).length = (len + n) * (k + 1) := by rw [List.length_append, hadd]; omega
                    generalize hrest : Builtin.zeroCells zv.cells (cap - (len + n)) = rest at *
                    have hN : ((vs ++ cv).toArray ++ rest).size = cap * (k + 1) := by
                      simp only [Array.size_append, List.size_toArray, hvs, hzs]
                      rw [← Nat.add_mul]; congr 1; omega
                    have hfresh := hr.fresh H.next (Nat.le_refl _)
                    have hB : BR σ (ρ.with H.next ⟨w.heap.size, 0, cap * (k + 1)⟩) ⟨w.heap.size, 0, cap * (k + 1)⟩ (some (.cells ((vs ++ cv).toArray ++ rest) ty')) (.cells tree ((len + n) * (k + 1)) ty') := by
                      refine ⟨_, (0, 0), rfl, .inl rfl, by rw [hN]; show cap * (k + 1) = 0 + cap * (k + 1); rw [Nat.zero_add], Nat.mul_le_mul_right _ g1, fun i hi => ?_⟩
                      have hall' := concs_mono (Place.with_le (p := ⟨w.heap.size, 0, cap * (k + 1)⟩) hfresh) _ _ hall
                      obtain ⟨v', e1, e2⟩ := concs_get hall' (htree i hi)
                      refine ⟨v', ?_, e2⟩
                      show ((vs ++ cv).toArray ++ rest)[0 + i]? = some v'
                      rw [Nat.zero_add, Array.getElem?_append_left (by simp only [List.size_toArray]; omega)]
                      simpa using e1
                    have hle : (len + n) * (k + 1) ≤ cap * (k + 1) := Nat.mul_le_mul_right _ g1
                    refine ⟨ρ.with H.next ⟨w.heap.size, 0, cap * (k + 1)⟩, _, _, g2, HR.new hr1 c6 rfl hB, hst1.trans (Step.new hr1 c6 rfl rfl rfl ⟨rfl, rfl, rfl⟩), ?_⟩
                    simp only [conc, Place.with_self]
                    rw [if_pos ⟨hk, by omega, by simp⟩]
                    simp
                · cases h
            · cases h
        · cases h
      · cases h
    · cases h
  · cases h
end
end Ev
end Go.Proofs.YtikmamcbngbipaaGreatDoor
