/- clear, delete, a map written, a store; calls. -/
import Derived.Test.YtikmamcbngbipaaGreatDoorEQ
namespace Go.Proofs.YtikmamcbngbipaaGreatDoor
namespace Ev

section
variable {σ : Nat → Value} {ρ : Place} {P : Program} {H H' : Heap} {w : World}

theorem all_reps {z : List AV} (h : z.all AV.plain = true) : ∀ n, (reps z n).all AV.plain = true
  | 0 => rfl
  | n + 1 => by rw [reps, List.all_append, h, all_reps h n]; rfl
theorem zeroCells_eq {zv : List Value} (h : 0 < zv.length) (n : Nat) : (Builtin.zeroCells zv.toArray n).toList = (List.replicate n zv).flatten := by
  have := range_reps zv h n
  unfold Builtin.zeroCells
  simp only [List.size_toArray] at this ⊢
  rw [this]

/-- An object that is no row is turned. -/
theorem turn_obj (hr : HR σ ρ H w.heap) {id : Nat} {p : Pl} {k0 k : ABlk} {o o' : Obj} (hp : ρ id = some p) (hg : H.get id = some k0) (ho : w.heap[p.b]? = some o) (hb : BR σ ρ p (some o') k) (hcl : ∀ (c : Array Value) (ty : TypeId) (f : Nat × Nat), o = .cells c ty f → ∃ c', o' = .cells c' ty f) :
    HR σ ρ (H.put id k) (w.heap.setIfInBounds p.b o') ∧ Step ρ H w ρ (H.put id k) { w with heap := w.heap.setIfInBounds p.b o' } := by
  have hlt : p.b < w.heap.size := by
    rcases Nat.lt_or_ge p.b w.heap.size with h | h
    · exact h
    · rw [Array.getElem?_eq_none h] at ho; cases ho
  have h1 : (w.heap.setIfInBounds p.b o')[p.b]? = some o' := by simp [hlt]
  have h2 : ∀ c, c ≠ p.b → (w.heap.setIfInBounds p.b o')[c]? = w.heap[c]? := fun c hc => Array.getElem?_setIfInBounds_ne (fun e => hc e.symm)
  exact ⟨hr.turn hp hg (by simp) h2 (by rw [h1]; exact hb), .turn hr hp hg (by simp) h2 ⟨rfl, rfl, rfl⟩ (fun c ty f h => by
    rw [ho] at h; cases h
    obtain ⟨c', h⟩ := hcl c ty f rfl
    exact ⟨c', by rw [← h]; exact h1⟩)⟩

theorem clearT_get {z : List AV} {off m n size : Nat} {t : T AV} (hz : z.length = size) (_h0 : 0 < size) (hm : off + n * size ≤ m) :
    (∀ i, off ≤ i → i < off + (reps z n).length → (reps z n)[i - off]? = some ((clearT z off m n size t).get i)) ∧
    (∀ i, i < m → ¬ (off ≤ i ∧ i < off + (reps z n).length) → (clearT z off m n size t).get i = t.get i) := by
  have hrl := reps_length z n
  have hlt := lt_dep m
  have gen : (∀ i, off ≤ i → i < off + (reps z n).length → (reps z n)[i - off]? = some ((T.lay (dep m) t off (reps z n)).get i)) ∧
    (∀ i, i < m → ¬ (off ≤ i ∧ i < off + (reps z n).length) → (T.lay (dep m) t off (reps z n)).get i = t.get i) :=
    ⟨fun i h1 h2 => T.get_lay_in (d := dep m) _ _ _ _ (by rw [hrl, hz]; omega) h1 h2, fun i hi hno => T.get_lay_out _ _ _ _ (by rw [hrl, hz]; omega) (by omega) hno⟩
  unfold clearT
  split
  · rename_i v hb
    have hb := Nat.eq_of_beq_eq_true hb
    refine ⟨fun i h1 h2 => ?_, fun i hi hno => ?_⟩
    · have := treeOf_get (z := [v]) (n := n) (i := i) (by simp) (by rw [hrl] at h2; omega)
      rw [Nat.sub_zero, this]
      rfl
    · rw [hrl, hz] at hno; exact absurd ⟨by omega, by omega⟩ hno
  · exact gen

theorem clearA_run (hs : ∀ i, (σ i).oneCell' = true) (hr : HR σ ρ H w.heap) {t ty : TypeId} {ts : Array TypeId} {x : AV} {x' : Value} (ht : ts[0]? = some t) (h : clearA P t x H = some H') (hx : conc σ ρ x = some x') :
    Leaves σ ρ P H H' w (Builtin.clear_ ts ty #[x']) undefA := by
  have hu0 : conc σ ρ undefA = some (.tuple #[]) := rfl
  unfold clearA at h
  split at h
  · rename_i e hu
    split at h
    · rename_i n hsl
      cases h
      rcases sliceOf_conc hsl hx with ⟨_, rfl, rfl⟩ | ⟨id, off, p, a, cap, e1, _⟩
      · exact Leaves.still hr (by simp [Builtin.clear_, ht, run_und hu]) hu0
      · cases e1
    · rename_i y hsl
      cases h
      rcases sliceOf_conc hsl hx with ⟨e1, _⟩ | ⟨id, off, p, a, cap, e1, hp, rfl, ha⟩
      · cases e1
      · exact Leaves.still hr (by simp [Builtin.clear_, ht, run_und hu]) hu0
    · rename_i id off n hn0 hsl
      split at h
      · rename_i z size t' m ty' hz hsz hg
        split at h
        · rename_i hc
          simp only [Bool.and_eq_true] at hc
          obtain ⟨⟨⟨c1, c2⟩, c3⟩, c4⟩ := hc
          have c4 := bl c4
          have c1 := Nat.eq_of_beq_eq_true c1
          have c3 := Nat.le_of_ble_eq_true c3
          rcases sliceOf_conc hsl hx with ⟨e1, _⟩ | ⟨id', off', p, a, cap, e1, hp, rfl, ha⟩
          · cases e1
          · cases e1
            have hpos : 0 < n := Nat.pos_of_ne_zero hn0
            have ha := ha hpos
            subst ha
            obtain ⟨zv, hz1, hz2⟩ := run_zero (P := P) (σ := σ) (ρ := ρ) hz w
            have hzc := concs_cells hz2 hs
            have hzl := concs_length hzc
            have hrc := reps_conc hzc n
            have hrl := reps_length (cellsOf z) n
            · have hzp : 0 < zv.cells.toList.length := by omega
              have hzz := zeroCells_eq hzp n
              rw [Array.toArray_toList] at hzz
              have fin : ∀ t2 : T AV, (∀ i, off ≤ i → i < off + (reps (cellsOf z) n).length → (reps (cellsOf z) n)[i - off]? = some (t2.get i)) → (∀ i, i < m → ¬ (off ≤ i ∧ i < off + (reps (cellsOf z) n).length) → t2.get i = t'.get i) →
                  H' = H.put id (.cells t2 m ty') → Leaves σ ρ P H H' w (Builtin.clear_ ts ty #[.slice (some ⟨p.b, p.o + off, none⟩) n cap]) undefA := by
                intro t2 hin hout hH
                subst hH
                obtain ⟨s1, s2, s3⟩ := stores_tree (P := P) hs hr hp hg (by rw [hrl, c1]; exact c3) (all_reps c2 n) hrc hin hout
                refine ⟨ρ, .tuple #[], _, ?_, s2, s3, hu0⟩
                have hne : ∀ k, n = k → k ≠ 0 := fun k hk h0 => hn0 (hk.trans h0)
                unfold Builtin.clear_
                simp only [ht, show (#[Value.slice (some ⟨p.b, p.o + off, none⟩) n cap] : Array Value)[0]? = some (Value.slice (some ⟨p.b, p.o + off, none⟩) n cap) from rfl]
                rw [bind_ok (run_und hu w)]
                obtain ⟨n', rfl⟩ : ∃ n', n = n' + 1 := ⟨n - 1, by omega⟩
                show (zeroValue e >>= _).run P w = _
                rw [bind_ok hz1]
                show (storeCells _ (Builtin.zeroCells zv.cells (n' + 1)).toList >>= _).run P w = _
                rw [hzz, bind_ok s1]
                rfl
              cases h
              obtain ⟨i1, i2⟩ := clearT_get (t := t') (off := off) (m := m) (n := n) (size := size) c1 c4 c3
              exact fin _ i1 i2 rfl
        · cases h
      · cases h
    · cases h
  · rename_i kt et hu
    cases h
    simp only [conc, Option.some.injEq] at hx
    subst hx
    exact Leaves.still hr (by simp [Builtin.clear_, ht, run_und hu]) hu0
  · rename_i kt et id hu
    split at h
    · rename_i es clock hg
      cases h
      obtain ⟨p, hp, rfl⟩ := conc_map hx
      obtain ⟨l, o1, o2⟩ := map_obj hr hp hg
      obtain ⟨s1, s2⟩ := turn_obj (k := .map [] clock) (o' := .map #[] clock) hr hp hg o1 ⟨[], rfl, trivial⟩ (fun _ _ _ h => by cases h)
      exact ⟨ρ, .tuple #[], _, by simp [Builtin.clear_, ht, run_und hu, getObj_map o1, setObj_map _ o1], s1, s2, hu0⟩
    · cases h
  · cases h

theorem idxA_key {t : TypeId} {k : AV} : ∀ {es : List (AV × AV × Nat)} {i j : Nat}, idxA P t k es i = some (some j) → i ≤ j ∧ ∃ e, es[j - i]? = some e ∧ keyEq P t k e.1 = some true
  | [], i, j, h => by cases h
  | e :: es, i, j, h => by
    unfold idxA at h
    split at h
    · rename_i hq
      cases h
      exact ⟨Nat.le_refl _, e, by simp, hq⟩
    · obtain ⟨h1, e', h2, h3⟩ := idxA_key h
      refine ⟨by omega, e', ?_, h3⟩
      rw [show j - i = (j - (i + 1)) + 1 by omega]; simpa using h2
    · cases h

theorem mapSet_run (hr : HR σ ρ H w.heap) {t : TypeId} {m k v : AV} {m' k' v' : Value} (h : mapSet P t m k v H = some H') (hm : conc σ ρ m = some m') (hk : conc σ ρ k = some k') (hv : conc σ ρ v = some v') :
    ∃ w', (Instr.mapUpdate t m' k' v').run P w = .ok () w' ∧ HR σ ρ H' w'.heap ∧ Step ρ H w ρ H' w' := by
  unfold mapSet at h
  split at h
  · rename_i kt et id hu
    obtain ⟨p, hp, rfl⟩ := conc_map hm
    split at h
    · rename_i es clock hg hko
      obtain ⟨l, o1, o2⟩ := map_obj hr hp hg
      split at h
      · rename_i i hi
        obtain ⟨q1, q2⟩ := findKey_run (P := P) (w := w) hk hko o2 hi
        split at h
        · rename_i e he
          cases h
          obtain ⟨me, m1, m2, m3, m4⟩ := ents_get o2 he
          have hkeq : keyEq P kt k e.1 = some true := by
            obtain ⟨_, e', h2, h3⟩ := idxA_key hi
            rw [Nat.sub_zero, he] at h2; cases h2; exact h3
          have hbits := keyEq_bits 9999 hkeq hk m2
          have hstay : (Instr.keyThatStays me.key k').run P w = .ok k' w := by simp [Instr.keyThatStays, hbits]
          have hb : BR σ ρ p (some (.map (l.toArray.modify i fun e => { e with key := k', val := v' }) clock)) (.map (es.set i (k, v, e.2.2)) clock) := by
            have hil : i < l.length := q2 i rfl
            have hilE : i < es.length := by rw [← ents_length o2]; exact hil
            refine ⟨l.modify i fun e => { e with key := k', val := v' }, by simp, ents_of (by simp [ents_length o2]) (fun j e' he' => ?_)⟩
            rw [List.getElem?_set] at he'
            rw [List.getElem?_modify]
            split at he'
            · rename_i hij
              subst hij
              cases he'
              exact ⟨{ me with key := k', val := v' }, by simp [m1], hk, hv, m4⟩
            · rename_i hij
              obtain ⟨m2', r1, r2, r3, r4⟩ := ents_get o2 he'
              exact ⟨m2', by simp [r1, hij], r2, r3, r4⟩
          obtain ⟨s1, s2⟩ := turn_obj hr hp hg o1 hb (fun _ _ _ h => by cases h)
          refine ⟨_, ?_, s1, s2⟩
          simp only [Instr.mapUpdate, Sem.run_bind, run_und hu, Result.andThen_ok, getObj_map o1, check_any _ hko hk, q1, Option.map_some, List.getElem?_toArray, m1, Option.getD_some, hstay, setObj_map _ o1]
        · cases h
      · rename_i hi
        obtain ⟨q1, q2⟩ := findKey_run (P := P) (w := w) hk hko o2 hi
        cases h
        have hb : BR σ ρ p (some (.map (l.toArray.push { key := k', val := v', born := clock }) (clock + 1))) (.map (es ++ [(k, v, clock)]) (clock + 1)) := by
          refine ⟨l ++ [{ key := k', val := v', born := clock }], by simp, ents_of (by simp [ents_length o2]) (fun i e he => ?_)⟩
          by_cases hil : i < es.length
          · rw [List.getElem?_append_left hil] at he
            rw [List.getElem?_append_left (by rw [ents_length o2]; exact hil)]
            exact ents_get o2 he
          · rw [List.getElem?_append_right (by omega)] at he
            rw [List.getElem?_append_right (by rw [ents_length o2]; omega), ents_length o2]
            cases hx : i - es.length with
            | zero =>
              rw [hx] at he
              simp only [List.getElem?_cons_zero, Option.some.injEq] at he
              subst he
              exact ⟨_, rfl, hk, hv, rfl⟩
            | succ j => rw [hx] at he; simp at he
        obtain ⟨s1, s2⟩ := turn_obj hr hp hg o1 hb (fun _ _ _ h => by cases h)
        refine ⟨_, ?_, s1, s2⟩
        simp only [Instr.mapUpdate, Sem.run_bind, run_und hu, Result.andThen_ok, getObj_map o1, check_any _ hko hk, q1, Option.map_none, setObj_map _ o1]
      · cases h
    · cases h
  · cases h

theorem mapDel_run (hr : HR σ ρ H w.heap) {t ty : TypeId} {ts : Array TypeId} {m k : AV} {m' k' : Value} (ht : ts[0]? = some t) (h : mapDel P t m k H = some H') (hm : conc σ ρ m = some m') (hk : conc σ ρ k = some k') :
    Leaves σ ρ P H H' w (Builtin.delete_ ts ty #[m', k']) undefA := by
  have hu0 : conc σ ρ undefA = some (.tuple #[]) := rfl
  unfold mapDel at h
  split at h
  · rename_i kt et hu
    split at h
    · rename_i hko
      cases h
      simp only [conc, Option.some.injEq] at hm
      subst hm
      exact Leaves.still hr (by simp [Builtin.delete_, ht, run_und hu, check_any _ hko hk]) hu0
    · cases h
  · rename_i kt et id hu
    obtain ⟨p, hp, rfl⟩ := conc_map hm
    split at h
    · rename_i es clock hg hko
      obtain ⟨l, o1, o2⟩ := map_obj hr hp hg
      split at h
      · rename_i i hi
        obtain ⟨q1, q2⟩ := findKey_run (P := P) (w := w) hk hko o2 hi
        cases h
        have hb : BR σ ρ p (some (.map (l.toArray.eraseIdxIfInBounds i) clock)) (.map (es.eraseIdx i) clock) := by
          have hil := q2 i rfl
          refine ⟨l.eraseIdx i, by simp [Array.eraseIdxIfInBounds, hil], ents_of ?_ (fun j e he => ?_)⟩
          · rw [List.length_eraseIdx, List.length_eraseIdx, ents_length o2]
          · rw [List.getElem?_eraseIdx] at he ⊢
            split at he
            · rename_i hji; rw [if_pos hji]; exact ents_get o2 he
            · rename_i hji; rw [if_neg hji]; exact ents_get o2 he
        obtain ⟨s1, s2⟩ := turn_obj hr hp hg o1 hb (fun _ _ _ h => by cases h)
        exact ⟨ρ, .tuple #[], _, by simp [Builtin.delete_, ht, run_und hu, check_any _ hko hk, getObj_map o1, q1, setObj_map _ o1], s1, s2, hu0⟩
      · rename_i hi
        obtain ⟨q1, q2⟩ := findKey_run (P := P) (w := w) hk hko o2 hi
        cases h
        obtain ⟨s1, s2⟩ := turn_obj hr hp hg o1 (k := .map es clock) (o' := .map l.toArray clock) ⟨l, rfl, o2⟩ (fun _ _ _ h => by cases h)
        exact ⟨ρ, .tuple #[], _, by simp [Builtin.delete_, ht, run_und hu, check_any _ hko hk, getObj_map o1, q1, setObj_map _ o1], s1, s2, hu0⟩
      · cases h
    · cases h
  · cases h

/-- A row is marked. -/
theorem mark_row (hr : HR σ ρ H w.heap) (hn : H.next < 65536) {id : Nat} {p : Pl} {t : T AV} {m : Nat} {ty : TypeId} (hp : ρ id = some p) (hg : H.get id = some (.cells t m ty)) :
    ∃ w', (∀ o, (markStringish ⟨p.b, o, none⟩).run P w = .ok () w') ∧ HR σ (ρ.with H.next p) ((H.drop id).add (.cells t m ty)) w'.heap ∧ Step ρ H w (ρ.with H.next p) ((H.drop id).add (.cells t m ty)) w' := by
  obtain ⟨q, hq, c, fz, h1, h2, h3, h4, h5⟩ := hr.live id _ (hr.lt hp) hg
  rw [hp] at hq; cases hq
  have hlt := hr.bound _ _ hp
  have hle := Place.with_le (p := p) (hr.fresh _ (Nat.le_refl _))
  have hsz : (w.freeze ⟨p.b, c.size, none⟩ 1).heap.size = w.heap.size := by simp [World.freeze]
  have hot : ∀ d, d ≠ p.b → (w.freeze ⟨p.b, c.size, none⟩ 1).heap[d]? = w.heap[d]? := fun d hd => by
    simp only [World.freeze, Nat.one_ne_zero, if_false, Array.getElem?_modify, if_neg (fun e : p.b = d => hd e.symm)]
  obtain ⟨lo, hi⟩ := fz
  have hat : ∃ fz' : Nat × Nat, (w.freeze ⟨p.b, c.size, none⟩ 1).heap[p.b]? = some (.cells c ty fz') ∧ (fz' = (0, 0) ∨ c.size ≤ fz'.1) := by
    refine ⟨if (lo == hi) = true then (c.size, c.size + 1) else (min lo c.size, max hi (c.size + 1)), ?_, .inr ?_⟩
    · simp only [World.freeze, Nat.one_ne_zero, if_false, Array.getElem?_modify, if_true, h1, Option.map_some]
    · rcases h2 with h2 | h2
      · cases h2; simp
      · have h2 : c.size ≤ lo := h2
        split
        · exact Nat.le_refl _
        · show c.size ≤ min lo c.size; omega
  obtain ⟨fz', ha, hf⟩ := hat
  refine ⟨w.freeze ⟨p.b, c.size, none⟩ 1, fun o => ?_, hr.rename hn hp hg rfl hsz hot ?_, Step.rename hr hn hp hg rfl hsz hot ⟨rfl, rfl, rfl⟩⟩
  · simp [markStringish, run_shape, World.shape?, h1]
  · rw [ha]
    exact BR.mono (k := .cells t m ty) hle ⟨c, fz', rfl, hf, h3, h4, h5⟩
theorem markA_run (hr : HR σ ρ H w.heap) {src dst : TypeId} {x v : AV} {x' : Value} (h : markA P src dst x H = some (v, H')) (hx : conc σ ρ x = some x') : Leaves σ ρ P H H' w (Go.convert src dst x') v := by
  unfold markA at h
  split at h
  · rename_i e0 e hs hd
    split at h
    · rename_i he hc
      rw [Bool.and_eq_true] at hc
      have hsd := Nat.eq_of_beq_eq_true hc.1
      have hn : H.next < 65536 := by simpa using hc.2
      subst hsd
      rw [hs] at hd; cases hd
      have run : ∀ (a : Addr) (l cp : Nat) (w' : World), (markStringish a).run P w = .ok () w' → (Go.convert src src (.slice (some a) l cp)).run P w = .ok (.slice (some a) l cp) w' := fun a l cp w' hm => by
        simp [Go.convert, run_und hs, run_und he, hm]
      split at h
      · rename_i id off len cap
        split at h
        · rename_i t m ty hg
          cases h
          obtain ⟨p, hp, rfl⟩ := conc_slice hx
          obtain ⟨w', h1, h2, h3⟩ := mark_row (P := P) hr hn hp hg
          exact ⟨_, _, w', run _ _ _ _ (h1 _), h2, h3, by simp [conc, Place.with_self]⟩
        · cases h
      · rename_i id off0 off len k
        split at h
        · rename_i t m ty hg
          cases h
          obtain ⟨p, hp, c1, c2, c3, rfl⟩ := conc_osl hx
          obtain ⟨w', h1, h2, h3⟩ := mark_row (P := P) hr hn hp hg
          exact ⟨_, _, w', run _ _ _ _ (h1 _), h2, h3, by simp [conc, Place.with_self, c1, c2, c3]⟩
        · cases h
      · cases h
    · cases h
  · cases h
end
end Ev
end Go.Proofs.YtikmamcbngbipaaGreatDoor
