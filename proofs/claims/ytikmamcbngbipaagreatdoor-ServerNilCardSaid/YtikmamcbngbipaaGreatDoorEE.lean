/- First laws of the run: constants, rows of values, frames, reads and writes. -/
import Derived.Test.YtikmamcbngbipaaGreatDoorED
import Derived.Laws.IdiomCopy
import Derived.Laws.Append
namespace Go.Proofs.YtikmamcbngbipaaGreatDoor
namespace Ev

section
variable {σ : Nat → Value} {ρ : Place}

theorem bl {a b : Nat} (h : Nat.blt a b = true) : a < b := Nat.le_of_ble_eq_true h
theorem ofS_conc {v : Value} {a : AV} (h : ofS v = some a) : conc σ ρ a = some v := by
  unfold ofS at h
  split at h <;> simp only [Option.some.injEq, reduceCtorEq] at h <;> subst h <;> simp [conc]
theorem ofSs_conc : ∀ {l : List Value} {a : List AV}, ofSs l = some a → concs σ ρ a = some l
  | [], a, h => by simp only [ofSs, Option.some.injEq] at h; subst h; rfl
  | v :: l, a, h => by
    simp only [ofSs] at h
    split at h
    · rename_i x y hx hy
      cases h
      simp [concs, ofS_conc hx, ofSs_conc hy]
    · cases h
theorem ofA_conc {v : Value} {a : AV} (h : ofA v = some a) : conc σ ρ a = some v := by
  unfold ofA at h
  split at h
  · split at h
    · rename_i l hl
      cases h
      simp [conc, ofSs_conc hl]
    · cases h
  · exact ofS_conc h
theorem ofAs_conc : ∀ {l : List Value} {a : List AV}, ofAs l = some a → concs σ ρ a = some l
  | [], a, h => by simp only [ofAs, Option.some.injEq] at h; subst h; rfl
  | v :: l, a, h => by
    simp only [ofAs] at h
    split at h
    · rename_i x y hx hy
      cases h
      simp [concs, ofA_conc hx, ofAs_conc hy]
    · cases h
theorem ofV_conc {v : Value} {a : AV} (h : ofV v = some a) : conc σ ρ a = some v := by
  unfold ofV at h
  split at h
  · split at h
    · rename_i l hl
      cases h
      simp [conc, ofAs_conc hl]
    · cases h
  · exact ofA_conc h

theorem concs_length : ∀ {l : List AV} {vs : List Value}, concs σ ρ l = some vs → vs.length = l.length
  | [], vs, h => by simp only [concs, Option.some.injEq] at h; subst h; rfl
  | a :: l, vs, h => by
    simp only [concs] at h
    split at h
    · rename_i x y hx hy
      cases h
      simp [concs_length hy]
    · cases h
theorem concs_get : ∀ {l : List AV} {vs : List Value} {i : Nat} {a : AV}, concs σ ρ l = some vs → l[i]? = some a → ∃ v, vs[i]? = some v ∧ conc σ ρ a = some v
  | [], vs, i, a, h, e => by simp at e
  | b :: l, vs, i, a, h, e => by
    simp only [concs] at h
    split at h
    · rename_i x y hx hy
      cases h
      cases i with
      | zero => simp only [List.getElem?_cons_zero, Option.some.injEq] at e; subst e; exact ⟨x, rfl, hx⟩
      | succ i =>
        have := concs_get (i := i) hy (by simpa using e)
        simpa using this
    · cases h
theorem concs_of : ∀ {l : List AV} {vs : List Value}, vs.length = l.length → (∀ (i : Nat) (a : AV), l[i]? = some a → ∃ v, vs[i]? = some v ∧ conc σ ρ a = some v) → concs σ ρ l = some vs
  | [], vs, h, _ => by
    have : vs = [] := List.length_eq_zero_iff.1 h
    subst this; rfl
  | a :: l, [], h, _ => by simp at h
  | a :: l, v :: vs, h, hg => by
    obtain ⟨x, h1, h2⟩ := hg 0 a rfl
    simp only [List.getElem?_cons_zero, Option.some.injEq] at h1
    subst h1
    have := concs_of (l := l) (vs := vs) (by simpa using h) (fun i b hb => hg (i + 1) b (by simpa using hb))
    simp [concs, h2, this]
theorem concs_append {a b : List AV} {x y : List Value} (h : concs σ ρ a = some x) (k : concs σ ρ b = some y) : concs σ ρ (a ++ b) = some (x ++ y) := by
  have l1 := concs_length h
  have l2 := concs_length k
  refine concs_of (by simp [l1, l2]) (fun i c hc => ?_)
  by_cases hi : i < a.length
  · rw [List.getElem?_append_left hi] at hc
    rw [List.getElem?_append_left (by omega)]
    exact concs_get h hc
  · rw [List.getElem?_append_right (by omega)] at hc
    rw [List.getElem?_append_right (by omega), l1]
    exact concs_get k hc
theorem concs_take {a : List AV} {x : List Value} (n : Nat) (h : concs σ ρ a = some x) : concs σ ρ (a.take n) = some (x.take n) := by
  have l := concs_length h
  refine concs_of (by simp [l]) (fun i c hc => ?_)
  rw [List.getElem?_take] at hc ⊢
  split at hc
  · rename_i hi
    rw [if_pos hi]
    exact concs_get h hc
  · cases hc
theorem concs_drop {a : List AV} {x : List Value} (n : Nat) (h : concs σ ρ a = some x) : concs σ ρ (a.drop n) = some (x.drop n) := by
  have l := concs_length h
  refine concs_of (by simp [l]) (fun i c hc => ?_)
  rw [List.getElem?_drop] at hc ⊢
  exact concs_get h hc
theorem concs_cells {a : AV} {v : Value} (h : conc σ ρ a = some v) (hs : ∀ i, (σ i).oneCell' = true) : concs σ ρ (cellsOf a) = some v.cells.toList := by
  cases a with
  | agg l =>
    simp only [conc] at h
    split at h
    · rename_i x hx
      cases h
      simpa [cellsOf, Value.cells] using hx
    · cases h
  | tup l =>
    simp only [conc] at h
    split at h
    · rename_i x hx
      cases h
      simp [cellsOf, Value.cells, concs, conc, hx]
    · cases h
  | sym i =>
    have := hs i
    simp only [conc, Option.some.injEq] at h
    subst h
    cases hv : σ i <;> rw [hv] at this <;> simp [Value.oneCell'] at this <;> simp [cellsOf, Value.cells, concs, conc, hv]
  | _ => (simp only [conc] at h; first
      | (cases h; simp [cellsOf, Value.cells, concs, conc]; done)
      | (split at h
         · rename_i x hx
           first
             | (cases h; simp [cellsOf, Value.cells, concs, conc, hx]; done)
             | (split at h
                · rename_i hy; cases h; simp [cellsOf, Value.cells, concs, conc, hx, hy]; done
                · cases h)
         · cases h)
      | (split at h
         · rename_i x y hx hy; cases h; simp [cellsOf, Value.cells, concs, conc, hx, hy]; done
         · cases h))
theorem plain_one {a : AV} {v : Value} (h : conc σ ρ a = some v) (hs : ∀ i, (σ i).oneCell' = true) (hp : a.plain = true) : v.oneCell' = true := by
  cases a with
  | agg l => simp [AV.plain] at hp
  | tup l => simp [AV.plain] at hp
  | sym i => simp only [conc, Option.some.injEq] at h; subst h; exact hs i
  | _ => (simp only [conc] at h; first
      | (cases h; rfl)
      | (split at h
         · first
             | (cases h; rfl)
             | (split at h
                · cases h; rfl
                · cases h)
         · cases h))

/-- What a frame says of the slots. -/
def FR (σ : Nat → Value) (ρ : Place) (f : Fr) (tmps : Array Value) : Prop :=
  f.sz ≤ 512 ∧ tmps.size = f.sz ∧ (∀ i, i < f.sz → ∃ v, tmps[i]? = some v ∧ conc σ ρ (f.t.get i) = some v) ∧ ∀ g id, f.g g = some id → ∃ n, ρ id = some ⟨g, 0, n⟩
theorem FR.mono {ρ' : Place} {f : Fr} {tmps : Array Value} (h : FR σ ρ f tmps) (e : ρ.le ρ') : FR σ ρ' f tmps :=
  ⟨h.1, h.2.1, fun i hi => let ⟨v, a, b⟩ := h.2.2.1 i hi; ⟨v, a, conc_mono e _ _ b⟩, fun g id hg => let ⟨n, hn⟩ := h.2.2.2 g id hg; ⟨n, e _ _ hn⟩⟩
theorem FR.get {f : Fr} {a : Act} (h : FR σ ρ f a.tmps) {i : Nat} {v : AV} (e : f.get i = some v) : conc σ ρ v = some (a.tmps.getD i undef) := by
  unfold Fr.get at e
  split at e
  · rename_i hi
    cases e
    obtain ⟨v, h1, h2⟩ := h.2.2.1 i (bl hi)
    simp [h2, Array.getD_eq_getD_getElem?, h1]
  · cases e
theorem ev_conc {f : Fr} {a : Act} (h : FR σ ρ f a.tmps) : ∀ {x : Operand} {v : AV}, ev f x = some v → conc σ ρ v = some (a.eval x)
  | .tmp t, v, e => h.get e
  | .const c, v, e => ofV_conc e
  | .global g, v, e => by
    cases hid : f.g g with
    | none => simp only [ev, hid] at e; cases e
    | some id =>
      simp only [ev, hid, Option.some.injEq] at e
      subst e
      obtain ⟨n, hn⟩ := h.2.2.2 g id hid
      simp [conc, hn, Act.eval]
  | .func g, v, e => by cases e; simp [conc, concs, Act.eval]
/-- What is known of the operands of an operation. -/
def EV (σ : Nat → Value) (ρ : Place) (f : Fr) (a : Act) (L : List Operand) : Prop := ∀ x, x ∈ L → ∀ v, ev f x = some v → conc σ ρ v = some (a.eval x)
theorem FR.ev {f : Fr} {a : Act} (h : FR σ ρ f a.tmps) (L : List Operand) : EV σ ρ f a L := fun _ _ _ e => ev_conc h e
theorem EV.one {f : Fr} {a : Act} {L : List Operand} (h : EV σ ρ f a L) {x : Operand} {v : AV} (hm : x ∈ L) (e : Ev.ev f x = some v) : conc σ ρ v = some (a.eval x) := h x hm v e
theorem FR.put {f f' : Fr} {a : Act} (h : FR σ ρ f a.tmps) {dst : Option Nat} {v : AV} {x : Value} (e : f.put dst v = some f') (hv : conc σ ρ v = some x) :
    FR σ ρ f' (a.put dst x).tmps := by
  unfold Fr.put at e
  split at e
  · cases e; exact h
  · rename_i d
    split at e
    · rename_i hd
      cases e
      have hd := bl hd
      refine ⟨h.1, by simp [Act.put, h.2.1], fun i hi => ?_, h.2.2.2⟩
      have hi' : i < f.sz := hi
      have s := h.1
      show ∃ v', (a.tmps.setIfInBounds d x)[i]? = some v' ∧ conc σ ρ ((T.set 9 f.t d v).get i) = some v'
      rw [T.get_set_lt (by omega) (by omega), Array.getElem?_setIfInBounds]
      by_cases hid : i = d
      · subst hid
        simp [hv, h.2.1, hi']
      · rw [if_neg hid, if_neg (fun e => hid e.symm)]
        exact h.2.2.1 i hi'
    · cases e

theorem setCells_block (b : Nat) : ∀ (vs : List Value) (o : Nat) (w : World) (c : Array Value) (ty : TypeId) (fz : Nat × Nat), w.heap[b]? = some (.cells c ty fz) → o + vs.length ≤ c.size →
    ∃ c', (w.setCells b o vs).heap[b]? = some (.cells c' ty fz) ∧ c'.size = c.size ∧ ∀ j, c'[j]? = if o ≤ j ∧ j < o + vs.length then vs[j - o]? else c[j]?
  | [], o, w, c, ty, fz, h, _ => ⟨c, h, rfl, fun j => by rw [if_neg (by simp only [List.length_nil]; omega)]⟩
  | v :: vs, o, w, c, ty, fz, h, hl => by
    simp only [List.length_cons] at hl
    have h1 : (w.setCell ⟨b, o, none⟩ v).heap[b]? = some (.cells (c.setIfInBounds o v) ty fz) := by
      simp [World.setCell, Array.getElem?_modify, h]
    obtain ⟨c', a1, a2, a3⟩ := setCells_block b vs (o + 1) _ _ ty fz h1 (by simp; omega)
    refine ⟨c', a1, by simpa using a2, fun j => ?_⟩
    rw [a3]
    simp only [List.length_cons]
    by_cases hj : j = o
    · subst hj
      rw [if_neg (by omega), if_pos (by omega), Nat.sub_self]
      simp [show j < c.size by omega]
    · by_cases hr : o + 1 ≤ j ∧ j < o + 1 + vs.length
      · rw [if_pos hr, if_pos (by omega), show j - o = (j - (o + 1)) + 1 by omega]
        simp
      · rw [if_neg hr, if_neg (by omega), Array.getElem?_setIfInBounds_ne (fun e => hj e.symm)]
theorem setCells_cells (b : Nat) : ∀ (vs : List Value) (o : Nat) (w : World) (c : Array Value) (ty : TypeId) (fz : Nat × Nat), w.heap[b]? = some (.cells c ty fz) → ∃ c', (w.setCells b o vs).heap[b]? = some (.cells c' ty fz)
  | [], _, _, c, _, _, h => ⟨c, h⟩
  | v :: vs, o, w, c, ty, fz, h => setCells_cells b vs (o + 1) (w.setCell ⟨b, o, none⟩ v) (c.setIfInBounds o v) ty fz (by simp [World.setCell, Array.getElem?_modify, h])
theorem setCells_other (b : Nat) : ∀ (vs : List Value) (o : Nat) (w : World) (d : Nat), d ≠ b → (w.setCells b o vs).heap[d]? = w.heap[d]?
  | [], _, _, _, _ => rfl
  | v :: vs, o, w, d, h => by
    rw [World.setCells, setCells_other b vs (o + 1) _ d h]
    have e : b ≠ d := fun e => h e.symm
    simp [World.setCell, Array.getElem?_modify, e]
theorem setCells_size (b : Nat) : ∀ (vs : List Value) (o : Nat) (w : World), (w.setCells b o vs).heap.size = w.heap.size
  | [], _, _ => rfl
  | v :: vs, o, w => by rw [World.setCells, setCells_size b vs]; simp
theorem setCells_rest (b : Nat) : ∀ (vs : List Value) (o : Nat) (w : World), (w.setCells b o vs).os = w.os ∧ (w.setCells b o vs).output = w.output ∧ (w.setCells b o vs).tape = w.tape
  | [], _, _ => ⟨rfl, rfl, rfl⟩
  | v :: vs, o, w => by rw [World.setCells]; exact setCells_rest b vs (o + 1) _

variable {P : Program} {H : Heap} {w : World}
theorem add_none (b o n : Nat) : (⟨b, o, none⟩ : Addr).add n = ⟨b, o + n, none⟩ := by unfold Addr.add; split <;> simp_all
theorem load_cell (hr : HR σ ρ H w.heap) {id off : Nat} {a : AV} {p : Pl} (hp : ρ id = some p) (h : H.load id off = some a) :
    ∃ v, w.cell? ⟨p.b, p.o + off, none⟩ = some v ∧ conc σ ρ a = some v := by
  unfold Heap.load at h
  split at h
  · rename_i t n ty hk
    split at h
    · rename_i hn
      cases h
      obtain ⟨q, hq, hb⟩ := hr.live id _ (hr.lt hp) hk
      rw [hp] at hq; cases hq
      obtain ⟨c, fz, h1, h2, h3, h4, h5⟩ := hb
      obtain ⟨v, e1, e2⟩ := h5 off (bl hn)
      exact ⟨v, by simp [World.cell?, h1, e1], e2⟩
    · cases h
  · cases h
theorem loads_cells (hr : HR σ ρ H w.heap) {id off n : Nat} {l : List AV} {p : Pl} (hp : ρ id = some p) (h : H.loads id off n = some l) :
    ∃ vs, l.length = n ∧ concs σ ρ l = some vs ∧ ∀ j v, vs[j]? = some v → w.cell? ⟨p.b, p.o + off + j, none⟩ = some v := by
  unfold Heap.loads at h
  split at h
  · rename_i t m ty hk
    split at h
    · rename_i hn
      cases h
      have hn := Nat.le_of_ble_eq_true hn
      obtain ⟨q, hq, hb⟩ := hr.live id _ (hr.lt hp) hk
      rw [hp] at hq; cases hq
      obtain ⟨c, fz, h1, h2, h3, h4, h5⟩ := hb
      have hc : ∀ j, j < n → ∃ v, c[p.o + off + j]? = some v ∧ conc σ ρ (t.get (off + j)) = some v := fun j hj => by
        obtain ⟨v, a, b⟩ := h5 (off + j) (by omega)
        exact ⟨v, by rw [show p.o + off + j = p.o + (off + j) by omega]; exact a, b⟩
      refine ⟨(List.range n).map fun j => (c[p.o + off + j]?).getD undef, t.list_length _ _, concs_of (by simp [t.list_length]) (fun i a ha => ?_), fun j v hv => ?_⟩
      · have hi : i < n := by
          rcases Nat.lt_or_ge i n with g | g
          · exact g
          · rw [List.getElem?_eq_none (by rw [t.list_length]; exact g)] at ha; cases ha
        rw [t.list_get _ _ _ hi] at ha
        cases ha
        obtain ⟨v, e1, e2⟩ := hc i hi
        exact ⟨v, by simp [hi, e1], e2⟩
      · have hj : j < n := by
          rcases Nat.lt_or_ge j n with g | g
          · exact g
          · rw [List.getElem?_eq_none (by simp; exact g)] at hv; cases hv
        obtain ⟨v', e1, _⟩ := hc j hj
        simp only [List.getElem?_map, List.getElem?_range hj, Option.map_some, Option.some.injEq, e1, Option.getD_some] at hv
        subst hv
        simp [World.cell?, h1, e1]
    · cases h
  · cases h
theorem loads_run (hr : HR σ ρ H w.heap) {id off n : Nat} {l : List AV} {p : Pl} (hp : ρ id = some p) (h : H.loads id off n = some l) :
    ∃ vs, concs σ ρ l = some vs ∧ vs.length = n ∧ (loadCells ⟨p.b, p.o + off, none⟩ n).run P w = .ok vs.toArray w := by
  obtain ⟨vs, h0, h1, h2⟩ := loads_cells hr hp h
  have hl := concs_length h1
  refine ⟨vs, h1, by omega, ?_⟩
  have := run_loadCells_list (P := P) w ⟨p.b, p.o + off, none⟩ vs (fun j v hv => by rw [add_none]; exact h2 j v hv)
  rwa [hl, h0] at this

theorem not_frozen {c : Array Value} {ty : TypeId} {fz : Nat × Nat} {b i : Nat} (h1 : w.heap[b]? = some (.cells c ty fz)) (h2 : fz = (0, 0) ∨ c.size ≤ fz.1) (hi : i < c.size) :
    w.frozen? ⟨b, i, none⟩ = false := by
  obtain ⟨lo, hi'⟩ := fz
  simp only [World.frozen?, h1]
  rcases h2 with e | e
  · cases e; simp
  · simp at e; simp; omega

theorem stores_run (hs : ∀ i, (σ i).oneCell' = true) (hr : HR σ ρ H w.heap) {id off : Nat} {l : List AV} {H' : Heap} {p : Pl} {vs : List Value} (hp : ρ id = some p) (h : H.stores id off l = some H')
    (hl : concs σ ρ l = some vs) : (storeCells ⟨p.b, p.o + off, none⟩ vs).run P w = .ok () (w.setCells p.b (p.o + off) vs) ∧
      HR σ ρ H' (w.setCells p.b (p.o + off) vs).heap ∧ Step ρ H w ρ H' (w.setCells p.b (p.o + off) vs) := by
  unfold Heap.stores at h
  split at h
  · rename_i t m ty hk
    split at h
    · rename_i hn hpl
      cases h
      have hn := Nat.le_of_ble_eq_true hn
      have hlen := concs_length hl
      obtain ⟨q, hq, hb⟩ := hr.live id _ (hr.lt hp) hk
      rw [hp] at hq; cases hq
      obtain ⟨c, fz, h1, h2, h3, h4, h5⟩ := hb
      obtain ⟨c', a1, a2, a3⟩ := setCells_block p.b vs (p.o + off) w c ty fz h1 (by omega)
      have hB : BR σ ρ p (w.setCells p.b (p.o + off) vs).heap[p.b]? (.cells (T.lay (dep m) t off l) m ty) := by
        refine ⟨c', fz, a1, by rw [a2]; exact h2, by rw [a2]; exact h3, h4, fun i hi => ?_⟩
        have hm := lt_dep m
        rw [a3]
        by_cases hr : off ≤ i ∧ i < off + l.length
        · rw [if_pos (by omega)]
          have := T.get_lay_in (d := dep m) l t off i (by omega) hr.1 hr.2
          obtain ⟨v, e1, e2⟩ := concs_get hl this
          exact ⟨v, by rw [show p.o + i - (p.o + off) = i - off by omega]; exact e1, e2⟩
        · rw [if_neg (by omega), T.get_lay_out l t off i (by omega) (by omega) hr]
          exact h5 i hi
      refine ⟨?_, hr.turn hp hk (setCells_size _ _ _ _) (fun d hd => setCells_other _ _ _ _ d hd) hB,
        .turn hr hp hk (setCells_size _ _ _ _) (fun d hd => setCells_other _ _ _ _ d hd) (setCells_rest _ _ _ _) (fun c ty f h => setCells_cells _ _ _ _ c ty f h)⟩
      have := run_storeCells_cells (P := P) p.b (p.o + off) vs 0 w (fun j hj => ?_) (fun j hj => ?_) (fun v hv => ?_)
      · simpa using this
      · have : p.o + off + 0 + j < c.size := by omega
        simp only [World.cell?, h1, Option.isSome_none, Bool.false_eq_true, if_false]
        rw [Array.getElem?_eq_getElem this]; rfl
      · exact not_frozen h1 h2 (by omega)
      · obtain ⟨i, hi⟩ := List.mem_iff_getElem?.1 hv
        have hil : i < l.length := by
          have := (List.getElem?_eq_some_iff.1 hi).1; omega
        obtain ⟨v', e1, e2⟩ := concs_get hl (List.getElem?_eq_getElem hil)
        rw [hi] at e1; cases e1
        exact plain_one e2 hs (List.all_eq_true.1 hpl _ (List.getElem_mem hil))
    · cases h
  · cases h
end
end Ev
end Go.Proofs.YtikmamcbngbipaaGreatDoor
