/- First laws of the run: constants, rows of values, frames, reads and writes. -/
import Derived.Test.YtpppaheennkkpaaGreatDoorEA
import Derived.Laws.IdiomCopy
import Derived.Laws.Append
import Derived.Laws.Strings2
import Derived.Laws.BytesString
import Derived.MapKept
namespace Go.Proofs.YtpppaheennkkpaaGreatDoor
namespace Ev

section
variable {σ : Nat → Value} {ρ : Place}

theorem bl {a b : Nat} (h : Nat.blt a b = true) : a < b := Nat.le_of_ble_eq_true h
theorem ofS_conc {v : Value} {a : AV} (h : ofS v = some a) : conc σ ρ a = some v := by
  unfold ofS at h
  split at h <;> simp only [Option.some.injEq, reduceCtorEq] at h <;> subst h <;> simp [conc]
theorem ofSs_conc : ∀ {l : List Value} {a : List AV}, ofSs l = some a → concs σ ρ a = some l
  | [], a, h => by simp only [ofSs, Option.some.injEq] at h; subst h; rfl
  | v :: l, a, h => by
    simp only [ofSs] at h
    split at h
    · rename_i x y hx hy
      cases h
      simp [concs, ofS_conc hx, ofSs_conc hy]
    · cases h
theorem ofA_conc {v : Value} {a : AV} (h : ofA v = some a) : conc σ ρ a = some v := by
  unfold ofA at h
  split at h
  · split at h
    · rename_i l hl
      cases h
      simp [conc, ofSs_conc hl]
    · cases h
  · exact ofS_conc h
theorem ofAs_conc : ∀ {l : List Value} {a : List AV}, ofAs l = some a → concs σ ρ a = some l
  | [], a, h => by simp only [ofAs, Option.some.injEq] at h; subst h; rfl
  | v :: l, a, h => by
    simp only [ofAs] at h
    split at h
    · rename_i x y hx hy
      cases h
      simp [concs, ofA_conc hx, ofAs_conc hy]
    · cases h
theorem ofV_conc {v : Value} {a : AV} (h : ofV v = some a) : conc σ ρ a = some v := by
  unfold ofV at h
  split at h
  · split at h
    · rename_i l hl
      cases h
      simp [conc, ofAs_conc hl]
    · cases h
  · exact ofA_conc h

theorem concs_length : ∀ {l : List AV} {vs : List Value}, concs σ ρ l = some vs → vs.length = l.length
  | [], vs, h => by simp only [concs, Option.some.injEq] at h; subst h; rfl
  | a :: l, vs, h => by
    simp only [concs] at h
    split at h
    · rename_i x y hx hy
      cases h
      simp [concs_length hy]
    · cases h
theorem concs_get : ∀ {l : List AV} {vs : List Value} {i : Nat} {a : AV}, concs σ ρ l = some vs → l[i]? = some a → ∃ v, vs[i]? = some v ∧ conc σ ρ a = some v
  | [], vs, i, a, h, e => by simp at e
  | b :: l, vs, i, a, h, e => by
    simp only [concs] at h
    split at h
    · rename_i x y hx hy
      cases h
      cases i with
      | zero => simp only [List.getElem?_cons_zero, Option.some.injEq] at e; subst e; exact ⟨x, rfl, hx⟩
      | succ i =>
        have := concs_get (i := i) hy (by simpa using e)
        simpa using this
    · cases h
theorem concs_of : ∀ {l : List AV} {vs : List Value}, vs.length = l.length → (∀ (i : Nat) (a : AV), l[i]? = some a → ∃ v, vs[i]? = some v ∧ conc σ ρ a = some v) → concs σ ρ l = some vs
  | [], vs, h, _ => by
    have : vs = [] := List.length_eq_zero_iff.1 h
    subst this; rfl
  | a :: l, [], h, _ => by simp at h
  | a :: l, v :: vs, h, hg => by
    obtain ⟨x, h1, h2⟩ := hg 0 a rfl
    simp only [List.getElem?_cons_zero, Option.some.injEq] at h1
    subst h1
    have := concs_of (l := l) (vs := vs) (by simpa using h) (fun i b hb => hg (i + 1) b (by simpa using hb))
    simp [concs, h2, this]
theorem concs_append {a b : List AV} {x y : List Value} (h : concs σ ρ a = some x) (k : concs σ ρ b = some y) : concs σ ρ (a ++ b) = some (x ++ y) := by
  have l1 := concs_length h
  have l2 := concs_length k
  refine concs_of (by simp [l1, l2]) (fun i c hc => ?_)
  by_cases hi : i < a.length
  · rw [List.getElem?_append_left hi] at hc
    rw [List.getElem?_append_left (by omega)]
    exact concs_get h hc
  · rw [List.getElem?_append_right (by omega)] at hc
    rw [List.getElem?_append_right (by omega), l1]
    exact concs_get k hc
theorem concs_take {a : List AV} {x : List Value} (n : Nat) (h : concs σ ρ a = some x) : concs σ ρ (a.take n) = some (x.take n) := by
  have l := concs_length h
  refine concs_of (by simp [l]) (fun i c hc => ?_)
  rw [List.getElem?_take] at hc ⊢
  split at hc
  · rename_i hi
    rw [if_pos hi]
    exact concs_get h hc
  · cases hc
theorem concs_drop {a : List AV} {x : List Value} (n : Nat) (h : concs σ ρ a = some x) : concs σ ρ (a.drop n) = some (x.drop n) := by
  have l := concs_length h
  refine concs_of (by simp [l]) (fun i c hc => ?_)
  rw [List.getElem?_drop] at hc ⊢
  exact concs_get h hc
theorem concs_cells {a : AV} {v : Value} (h : conc σ ρ a = some v) (hs : ∀ i, (σ i).oneCell' = true) : concs σ ρ (cellsOf a) = some v.cells.toList := by
  cases a with
  | agg l =>
    simp only [conc] at h
    split at h
    · rename_i x hx
      cases h
      simpa [cellsOf, Value.cells] using hx
    · cases h
  | tup l =>
    simp only [conc] at h
    split at h
    · rename_i x hx
      cases h
      simp [cellsOf, Value.cells, concs, conc, hx]
    · cases h
  | sym i =>
    have := hs i
    simp only [conc, Option.some.injEq] at h
    subst h
    cases hv : σ i <;> rw [hv] at this <;> simp [Value.oneCell'] at this <;> simp [cellsOf, Value.cells, concs, conc, hv]
  | _ => (simp only [conc] at h; first
      | (cases h; simp [cellsOf, Value.cells, concs, conc]; done)
      | (split at h
         · rename_i x hx
           first
             | (cases h; simp [cellsOf, Value.cells, concs, conc, hx]; done)
             | (split at h
                · rename_i hy; cases h; simp [cellsOf, Value.cells, concs, conc, hx, hy]; done
                · cases h)
         · cases h)
      | (split at h
         · rename_i x y hx hy; cases h; simp [cellsOf, Value.cells, concs, conc, hx, hy]; done
         · cases h))
theorem plain_one {a : AV} {v : Value} (h : conc σ ρ a = some v) (hs : ∀ i, (σ i).oneCell' = true) (hp : a.plain = true) : v.oneCell' = true := by
  cases a with
  | agg l => simp [AV.plain] at hp
  | tup l => simp [AV.plain] at hp
  | sym i => simp only [conc, Option.some.injEq] at h; subst h; exact hs i
  | _ => (simp only [conc] at h; first
      | (cases h; rfl)
      | (split at h
         · first
             | (cases h; rfl)
             | (split at h
                · cases h; rfl
                · cases h)
         · cases h))

/-- What a frame says of the slots. -/
def FR (σ : Nat → Value) (ρ : Place) (f : Fr) (tmps : Array Value) : Prop :=
  f.sz ≤ 512 ∧ tmps.size = f.sz ∧ (∀ i, i < f.sz → ∃ v, tmps[i]? = some v ∧ conc σ ρ (f.t.get i) = some v) ∧ ∀ g id, f.g g = some id → ∃ n, ρ id = some ⟨g, 0, n⟩
theorem FR.mono {ρ' : Place} {f : Fr} {tmps : Array Value} (h : FR σ ρ f tmps) (e : ρ.le ρ') : FR σ ρ' f tmps :=
  ⟨h.1, h.2.1, fun i hi => let ⟨v, a, b⟩ := h.2.2.1 i hi; ⟨v, a, conc_mono e _ _ b⟩, fun g id hg => let ⟨n, hn⟩ := h.2.2.2 g id hg; ⟨n, e _ _ hn⟩⟩
theorem FR.get {f : Fr} {a : Act} (h : FR σ ρ f a.tmps) {i : Nat} {v : AV} (e : f.get i = some v) : conc σ ρ v = some (a.tmps.getD i undef) := by
  unfold Fr.get at e
  split at e
  · rename_i hi
    cases e
    obtain ⟨v, h1, h2⟩ := h.2.2.1 i (bl hi)
    simp [h2, Array.getD_eq_getD_getElem?, h1]
  · cases e
theorem ev_conc {f : Fr} {a : Act} (h : FR σ ρ f a.tmps) : ∀ {x : Operand} {v : AV}, ev f x = some v → conc σ ρ v = some (a.eval x)
  | .tmp t, v, e => h.get e
  | .const c, v, e => ofV_conc e
  | .global g, v, e => by
    cases hid : f.g g with
    | none => simp only [ev, hid] at e; cases e
    | some id =>
      simp only [ev, hid, Option.some.injEq] at e
      subst e
      obtain ⟨n, hn⟩ := h.2.2.2 g id hid
      simp [conc, hn, Act.eval]
  | .func g, v, e => by cases e; simp [conc, concs, Act.eval]
/-- What is known of the operands of an operation. -/
def EV (σ : Nat → Value) (ρ : Place) (f : Fr) (a : Act) (L : List Operand) : Prop := ∀ x, x ∈ L → ∀ v, ev f x = some v → conc σ ρ v = some (a.eval x)
theorem FR.ev {f : Fr} {a : Act} (h : FR σ ρ f a.tmps) (L : List Operand) : EV σ ρ f a L := fun _ _ _ e => ev_conc h e
theorem EV.one {f : Fr} {a : Act} {L : List Operand} (h : EV σ ρ f a L) {x : Operand} {v : AV} (hm : x ∈ L) (e : Ev.ev f x = some v) : conc σ ρ v = some (a.eval x) := h x hm v e
theorem FR.put {f f' : Fr} {a : Act} (h : FR σ ρ f a.tmps) {dst : Option Nat} {v : AV} {x : Value} (e : f.put dst v = some f') (hv : conc σ ρ v = some x) :
    FR σ ρ f' (a.put dst x).tmps := by
  unfold Fr.put at e
  split at e
  · cases e; exact h
  · rename_i d
    split at e
    · rename_i hd
      cases e
      have hd := bl hd
      refine ⟨h.1, by simp [Act.put, h.2.1], fun i hi => ?_, h.2.2.2⟩
      have hi' : i < f.sz := hi
      have s := h.1
      show ∃ v', (a.tmps.setIfInBounds d x)[i]? = some v' ∧ conc σ ρ ((T.set 9 f.t d v).get i) = some v'
      rw [T.get_set_lt (by omega) (by omega), Array.getElem?_setIfInBounds]
      by_cases hid : i = d
      · subst hid
        simp [hv, h.2.1, hi']
      · rw [if_neg hid, if_neg (fun e => hid e.symm)]
        exact h.2.2.1 i hi'
    · cases e

theorem setCells_block (b : Nat) : ∀ (vs : List Value) (o : Nat) (w : World) (c : Array Value) (ty : TypeId) (fz : Nat × Nat), w.heap[b]? = some (.cells c ty fz) → o + vs.length ≤ c.size →
    ∃ c', (w.setCells b o vs).heap[b]? = some (.cells c' ty fz) ∧ c'.size = c.size ∧ ∀ j, c'[j]? = if o ≤ j ∧ j < o + vs.length then vs[j - o]? else c[j]?
  | [], o, w, c, ty, fz, h, _ => ⟨c, h, rfl, fun j => by rw [if_neg (by simp only [List.length_nil]; omega)]⟩
  | v :: vs, o, w, c, ty, fz, h, hl => by
    simp only [List.length_cons] at hl
    have h1 : (w.setCell ⟨b, o, none⟩ v).heap[b]? = some (.cells (c.setIfInBounds o v) ty fz) := by
      simp [World.setCell, Array.getElem?_modify, h]
    obtain ⟨c', a1, a2, a3⟩ := setCells_block b vs (o + 1) _ _ ty fz h1 (by simp; omega)
    refine ⟨c', a1, by simpa using a2, fun j => ?_⟩
    rw [a3]
    simp only [List.length_cons]
    by_cases hj : j = o
    · subst hj
      rw [if_neg (by omega), if_pos (by omega), Nat.sub_self]
      simp [show j < c.size by omega]
    · by_cases hr : o + 1 ≤ j ∧ j < o + 1 + vs.length
      · rw [if_pos hr, if_pos (by omega), show j - o = (j - (o + 1)) + 1 by omega]
        simp
      · rw [if_neg hr, if_neg (by omega), Array.getElem?_setIfInBounds_ne (fun e => hj e.symm)]
theorem setCells_cells (b : Nat) : ∀ (vs : List Value) (o : Nat) (w : World) (c : Array Value) (ty : TypeId) (fz : Nat × Nat), w.heap[b]? = some (.cells c ty fz) → ∃ c', (w.setCells b o vs).heap[b]? = some (.cells c' ty fz)
  | [], _, _, c, _, _, h => ⟨c, h⟩
  | v :: vs, o, w, c, ty, fz, h => setCells_cells b vs (o + 1) (w.setCell ⟨b, o, none⟩ v) (c.setIfInBounds o v) ty fz (by simp [World.setCell, Array.getElem?_modify, h])
theorem setCells_other (b : Nat) : ∀ (vs : List Value) (o : Nat) (w : World) (d : Nat), d ≠ b → (w.setCells b o vs).heap[d]? = w.heap[d]?
  | [], _, _, _, _ => rfl
  | v :: vs, o, w, d, h => by
    rw [World.setCells, setCells_other b vs (o + 1) _ d h]
    have e : b ≠ d := fun e => h e.symm
    simp [World.setCell, Array.getElem?_modify, e]
theorem setCells_size (b : Nat) : ∀ (vs : List Value) (o : Nat) (w : World), (w.setCells b o vs).heap.size = w.heap.size
  | [], _, _ => rfl
  | v :: vs, o, w => by rw [World.setCells, setCells_size b vs]; simp
theorem setCells_rest (b : Nat) : ∀ (vs : List Value) (o : Nat) (w : World), (w.setCells b o vs).os = w.os ∧ (w.setCells b o vs).output = w.output ∧ (w.setCells b o vs).tape = w.tape
  | [], _, _ => ⟨rfl, rfl, rfl⟩
  | v :: vs, o, w => by rw [World.setCells]; exact setCells_rest b vs (o + 1) _

variable {P : Program} {H : Heap} {w : World}
theorem add_none (b o n : Nat) : (⟨b, o, none⟩ : Addr).add n = ⟨b, o + n, none⟩ := by unfold Addr.add; split <;> simp_all
theorem load_cell (hr : HR σ ρ H w.heap) {id off : Nat} {a : AV} {p : Pl} (hp : ρ id = some p) (h : H.load id off = some a) :
    ∃ v, w.cell? ⟨p.b, p.o + off, none⟩ = some v ∧ conc σ ρ a = some v := by
  unfold Heap.load at h
  split at h
  · rename_i t n ty hk
    split at h
    · rename_i hn
      cases h
      obtain ⟨q, hq, hb⟩ := hr.live id _ (hr.lt hp) hk
      rw [hp] at hq; cases hq
      obtain ⟨c, fz, h1, h2, h3, h4, h5⟩ := hb
      obtain ⟨v, e1, e2⟩ := h5 off (bl hn)
      exact ⟨v, by simp [World.cell?, h1, e1], e2⟩
    · cases h
  · cases h
theorem loads_cells (hr : HR σ ρ H w.heap) {id off n : Nat} {l : List AV} {p : Pl} (hp : ρ id = some p) (h : H.loads id off n = some l) :
    ∃ vs, l.length = n ∧ concs σ ρ l = some vs ∧ ∀ j v, vs[j]? = some v → w.cell? ⟨p.b, p.o + off + j, none⟩ = some v := by
  unfold Heap.loads at h
  split at h
  · rename_i t m ty hk
    split at h
    · rename_i hn
      cases h
      have hn := Nat.le_of_ble_eq_true hn
      obtain ⟨q, hq, hb⟩ := hr.live id _ (hr.lt hp) hk
      rw [hp] at hq; cases hq
      obtain ⟨c, fz, h1, h2, h3, h4, h5⟩ := hb
      have hc : ∀ j, j < n → ∃ v, c[p.o + off + j]? = some v ∧ conc σ ρ (t.get (off + j)) = some v := fun j hj => by
        obtain ⟨v, a, b⟩ := h5 (off + j) (by omega)
        exact ⟨v, by rw [show p.o + off + j = p.o + (off + j) by omega]; exact a, b⟩
      refine ⟨(List.range n).map fun j => (c[p.o + off + j]?).getD undef, t.list_length _ _, concs_of (by simp [t.list_length]) (fun i a ha => ?_), fun j v hv => ?_⟩
      · have hi : i < n := by
          rcases Nat.lt_or_ge i n with g | g
          · exact g
          · rw [List.getElem?_eq_none (by rw [t.list_length]; exact g)] at ha; cases ha
        rw [t.list_get _ _ _ hi] at ha
        cases ha
        obtain ⟨v, e1, e2⟩ := hc i hi
        exact ⟨v, by simp [hi, e1], e2⟩
      · have hj : j < n := by
          rcases Nat.lt_or_ge j n with g | g
          · exact g
          · rw [List.getElem?_eq_none (by simp; exact g)] at hv; cases hv
        obtain ⟨v', e1, _⟩ := hc j hj
        simp only [List.getElem?_map, List.getElem?_range hj, Option.map_some, Option.some.injEq, e1, Option.getD_some] at hv
        subst hv
        simp [World.cell?, h1, e1]
    · cases h
  · cases h
theorem loads_run (hr : HR σ ρ H w.heap) {id off n : Nat} {l : List AV} {p : Pl} (hp : ρ id = some p) (h : H.loads id off n = some l) :
    ∃ vs, concs σ ρ l = some vs ∧ vs.length = n ∧ (loadCells ⟨p.b, p.o + off, none⟩ n).run P w = .ok vs.toArray w := by
  obtain ⟨vs, h0, h1, h2⟩ := loads_cells hr hp h
  have hl := concs_length h1
  refine ⟨vs, h1, by omega, ?_⟩
  have := run_loadCells_list (P := P) w ⟨p.b, p.o + off, none⟩ vs (fun j v hv => by rw [add_none]; exact h2 j v hv)
  rwa [hl, h0] at this

theorem not_frozen {c : Array Value} {ty : TypeId} {fz : Nat × Nat} {b i : Nat} (h1 : w.heap[b]? = some (.cells c ty fz)) (h2 : fz = (0, 0) ∨ c.size ≤ fz.1) (hi : i < c.size) :
    w.frozen? ⟨b, i, none⟩ = false := by
  obtain ⟨lo, hi'⟩ := fz
  simp only [World.frozen?, h1]
  rcases h2 with e | e
  · cases e; simp
  · simp at e; simp; omega

theorem stores_run (hs : ∀ i, (σ i).oneCell' = true) (hr : HR σ ρ H w.heap) {id off : Nat} {l : List AV} {H' : Heap} {p : Pl} {vs : List Value} (hp : ρ id = some p) (h : H.stores id off l = some H')
    (hl : concs σ ρ l = some vs) : (storeCells ⟨p.b, p.o + off, none⟩ vs).run P w = .ok () (w.setCells p.b (p.o + off) vs) ∧
      HR σ ρ H' (w.setCells p.b (p.o + off) vs).heap ∧ Step ρ H w ρ H' (w.setCells p.b (p.o + off) vs) := by
  unfold Heap.stores at h
  split at h
  · rename_i t m ty hk
    split at h
    · rename_i hn hpl
      cases h
      have hn := Nat.le_of_ble_eq_true hn
      have hlen := concs_length hl
      obtain ⟨q, hq, hb⟩ := hr.live id _ (hr.lt hp) hk
      rw [hp] at hq; cases hq
      obtain ⟨c, fz, h1, h2, h3, h4, h5⟩ := hb
      obtain ⟨c', a1, a2, a3⟩ := setCells_block p.b vs (p.o + off) w c ty fz h1 (by omega)
      have hB : BR σ ρ p (w.setCells p.b (p.o + off) vs).heap[p.b]? (.cells (T.lay (dep m) t off l) m ty) := by
        refine ⟨c', fz, a1, by rw [a2]; exact h2, by rw [a2]; exact h3, h4, fun i hi => ?_⟩
        have hm := lt_dep m
        rw [a3]
        by_cases hr : off ≤ i ∧ i < off + l.length
        · rw [if_pos (by omega)]
          have := T.get_lay_in (d := dep m) l t off i (by omega) hr.1 hr.2
          obtain ⟨v, e1, e2⟩ := concs_get hl this
          exact ⟨v, by rw [show p.o + i - (p.o + off) = i - off by omega]; exact e1, e2⟩
        · rw [if_neg (by omega), T.get_lay_out l t off i (by omega) (by omega) hr]
          exact h5 i hi
      refine ⟨?_, hr.turn hp hk (setCells_size _ _ _ _) (fun d hd => setCells_other _ _ _ _ d hd) hB,
        .turn hr hp hk (setCells_size _ _ _ _) (fun d hd => setCells_other _ _ _ _ d hd) (setCells_rest _ _ _ _) (fun c ty f h => setCells_cells _ _ _ _ c ty f h)⟩
      have := run_storeCells_cells (P := P) p.b (p.o + off) vs 0 w (fun j hj => ?_) (fun j hj => ?_) (fun v hv => ?_)
      · simpa using this
      · have : p.o + off + 0 + j < c.size := by omega
        simp only [World.cell?, h1, Option.isSome_none, Bool.false_eq_true, if_false]
        rw [Array.getElem?_eq_getElem this]; rfl
      · exact not_frozen h1 h2 (by omega)
      · obtain ⟨i, hi⟩ := List.mem_iff_getElem?.1 hv
        have hil : i < l.length := by
          have := (List.getElem?_eq_some_iff.1 hi).1; omega
        obtain ⟨v', e1, e2⟩ := concs_get hl (List.getElem?_eq_getElem hil)
        rw [hi] at e1; cases e1
        exact plain_one e2 hs (List.all_eq_true.1 hpl _ (List.getElem_mem hil))
    · cases h
  · cases h
end
end Ev
end Go.Proofs.YtpppaheennkkpaaGreatDoor

/- What an operation that turns nothing comes to is what it comes to in the program: parts. -/
namespace Go.Proofs.YtpppaheennkkpaaGreatDoor
namespace Ev

section
variable {σ : Nat → Value} {ρ : Place} {P : Program} {H : Heap} {w : World}

theorem run_und {t : TypeId} {d : TypeDesc} (h : P.underlying t = some d) (w : World) : (underlying t).run P w = .ok d w := run_underlying h w
theorem sizeA_info {t : TypeId} {s : Nat} (h : sizeA P t = some s) : ∃ i, P.info? t = some i ∧ i.size = s := by
  unfold sizeA at h
  split at h
  · rename_i i hi; cases h; exact ⟨i, hi, rfl⟩
  · cases h
theorem run_size {t : TypeId} {s : Nat} (h : sizeA P t = some s) (w : World) : (sizeOf t).run P w = .ok s w := by
  obtain ⟨i, hi, rfl⟩ := sizeA_info h
  simp [sizeOf, typeInfo, hi]
theorem run_info {t : TypeId} {i : TypeInfo} (h : P.info? t = some i) (w : World) : (typeInfo t).run P w = .ok i w := by
  simp [typeInfo, h]
theorem run_zero {t : TypeId} {z : AV} (h : zeroA P t = some z) (w : World) : ∃ zv, (zeroValue t).run P w = .ok zv w ∧ conc σ ρ z = some zv := by
  unfold zeroA at h
  split at h
  · rename_i i hi
    split at h
    · rename_i zv hz
      exact ⟨zv, by simp [zeroValue, typeInfo, hi, hz], ofA_conc h⟩
    · cases h
  · cases h
theorem run_agg {t : TypeId} {b : Bool} (h : aggOf P t = some b) (w : World) : (isAgg t).run P w = .ok b w := by
  unfold aggOf at h
  split at h
  · rename_i fs hu; cases h; simp [isAgg, run_und hu]
  · rename_i n e hu; cases h; simp [isAgg, run_und hu]
  · rename_i d h1 h2 hu
    cases h
    simp only [isAgg, Sem.run_bind, run_und hu, Result.andThen_ok]
    cases d <;> first | rfl | exact (h1 _ rfl).elim | exact (h2 _ _ rfl).elim
  · cases h

theorem loadVar_run (hr : HR σ ρ H w.heap) {t : TypeId} {id off : Nat} {v : AV} {p : Pl} (hp : ρ id = some p) (h : loadA P t H id off = some v) :
    ∃ v', (loadVar t ⟨p.b, p.o + off, none⟩).run P w = .ok v' w ∧ conc σ ρ v = some v' := by
  unfold loadA at h
  split at h
  · rename_i s ha hsz
    split at h
    · rename_i l hl
      cases h
      obtain ⟨vs, h1, h2, h3⟩ := loads_run (P := P) hr hp hl
      exact ⟨.agg vs.toArray, by simp [loadVar, run_agg ha, run_size hsz, h3], by simp [conc, h1]⟩
    · cases h
  · rename_i ha
    obtain ⟨v', h1, h2⟩ := load_cell hr hp h
    exact ⟨v', by simp [loadVar, run_agg ha, h1], h2⟩
  · cases h

/-- A fresh block of known cells. -/
theorem BR_fresh {l : List AV} {vs : List Value} (h : concs σ ρ l = some vs) (b : Nat) (t : TypeId) :
    BR σ ρ ⟨b, 0, vs.length⟩ (some (.cells vs.toArray t)) (.cells (T.lay (dep l.length) (.leaf default) 0 l) l.length t) := by
  have hl := concs_length h
  refine ⟨vs.toArray, (0, 0), rfl, .inl rfl, by simp, by simp [hl], fun i hi => ?_⟩
  have := T.get_lay_in (d := dep l.length) l (.leaf default) 0 i (by have := lt_dep l.length; omega) (by omega) (by omega)
  obtain ⟨v, e1, e2⟩ := concs_get h this
  exact ⟨v, by simpa using e1, e2⟩

theorem part_run {t : TypeId} {l : List AV} {vs : List Value} {off : Nat} {v : AV} (hl : concs σ ρ l = some vs) (h : partA P t l off = some v) (w : World) :
    ∃ v', (part t vs.toArray off).run P w = .ok v' w ∧ conc σ ρ v = some v' := by
  unfold partA at h
  split at h
  · rename_i s ha hsz
    cases h
    refine ⟨.agg ((vs.drop off).take s).toArray, ?_, by simp [conc, concs_take s (concs_drop off hl)]⟩
    simp only [part, Sem.run_bind, run_agg ha, Result.andThen_ok, if_true, run_size hsz, Sem.run_pure]
    congr 2
    simp [List.extract_eq_take_drop]
  · rename_i ha
    obtain ⟨v', h1, h2⟩ := concs_get hl h
    exact ⟨v', by simp [part, run_agg ha, h1], h2⟩
  · cases h

/-- Numbers. -/
theorem fwrap_eq (k : IntKind) (n : Int) : fwrap k n = k.wrap n := by
  unfold fwrap
  split
  · rename_i m
    split
    · split
      · rename_i h
        have h := Nat.le_of_ble_eq_true h
        simp only [IntKind.wrap, IntKind.bits, IntKind.signed, Int.ofNat_eq_natCast]
        have e : ((m : Int) % (2 ^ 64 : Int)) = m := by omega
        simp only [e]
        split
        · rename_i hh; simp at hh; omega
        · rfl
      · rfl
    · simp [IntKind.wrap, IntKind.bits, IntKind.signed]
    · simp [IntKind.wrap, IntKind.bits, IntKind.signed]
    · simp [IntKind.wrap, IntKind.bits, IntKind.signed]
    · rfl
  · rfl
theorem ilt_eq (a b : Int) : ilt a b = decide (a < b) := by
  cases a <;> cases b <;> simp [ilt, Nat.blt] <;> first | omega | (rw [Bool.eq_iff_iff]; simp; omega)
theorem ieq_eq (a b : Int) : ieq a b = (a == b) := by
  cases a <;> cases b <;> simp [ieq] <;> first | omega | (rw [Bool.eq_iff_iff]; simp; done) | (rw [Bool.eq_iff_iff]; simp; omega)
theorem beqs_eq : ∀ (a b : List UInt8), beqs a b = (a == b)
  | [], [] => rfl
  | [], _ :: _ => rfl
  | _ :: _, [] => rfl
  | a :: x, b :: y => by
    unfold beqs
    split
    · rename_i h
      have : a = b := UInt8.toNat_inj.1 (Nat.eq_of_beq_eq_true h)
      subst this
      rw [beqs_eq x y]
      simp
    · rename_i h
      have : a ≠ b := fun e => by subst e; simp at h
      simp [this]
end
end Ev
end Go.Proofs.YtpppaheennkkpaaGreatDoor

/- Sums, tests, slices, conversions of the run are the program's. -/
namespace Go.Proofs.YtpppaheennkkpaaGreatDoor
namespace Ev

section
variable {σ : Nat → Value} {ρ : Place} {P : Program} {H : Heap} {w : World}

/-- A value of the program that the run tells. -/
def Says (σ : Nat → Value) (ρ : Place) (P : Program) (w : World) (s : Sem Value) (v : AV) : Prop := ∃ v', s.run P w = .ok v' w ∧ conc σ ρ v = some v'

theorem bits_run (k : IntKind) (f : Nat → Nat → Nat) (g : BitVec k.bits → BitVec k.bits → BitVec k.bits)
    (hg : ∀ a b, a < 2 ^ k.bits → b < 2 ^ k.bits → (g (BitVec.ofInt k.bits (.ofNat a)) (BitVec.ofInt k.bits (.ofNat b))).toNat = f a b) {x y : Int} {v : AV} (h : bitsOf k f x y = some v) :
    conc σ ρ v = some (.int k (k.wrap (g (BitVec.ofInt k.bits x) (BitVec.ofInt k.bits y)).toNat)) := by
  unfold bitsOf at h
  split at h
  · split at h
    · rename_i ha hb
      cases h
      simp only [conc, fwrap_eq]
      rw [hg _ _ (bl ha) (bl hb)]
      rfl
    · cases h
  · cases h
theorem ofInt_small {n a : Nat} (h : a < 2 ^ n) : (BitVec.ofInt n (.ofNat a)).toNat = a := by
  rw [BitVec.toNat_ofInt]
  have : ((Int.ofNat a) % ((2 ^ n : Nat) : Int)) = (a : Int) := Int.emod_eq_of_lt (Int.natCast_nonneg a) (by show (a : Int) < _; exact_mod_cast h)
  rw [this]; simp

theorem abInt_run {op : BinOp} {k k' : IntKind} {x y : Int} {v : AV} (t : TypeId) (h : abInt op k x y = some v) (hk : k = k' ∨ op = .shl ∨ op = .shr) :
    Says σ ρ P w (Go.binOp op t (.int k x) (.int k' y)) v := by
  cases op
  case shl =>
    simp only [abInt] at h
    split at h
    · cases h
    · rename_i hy
      cases h
      have hy' : ¬ y < 0 := by rw [ilt_eq] at hy; simpa using hy
      exact ⟨_, by simp only [Go.binOp, Op.shift, if_neg hy']; rfl, by simp [conc, fwrap_eq]⟩
  case shr =>
    simp only [abInt] at h
    split at h
    · cases h
    · rename_i hy
      split at h
      · rename_i a
        cases h
        have hy' : ¬ y < 0 := by rw [ilt_eq] at hy; simpa using hy
        refine ⟨_, by simp only [Go.binOp, Op.shift, if_neg hy']; rfl, ?_⟩
        simp only [conc, Option.some.injEq, Value.int.injEq, true_and]
        have e : ((2 : Int) ^ (min y.toNat k.bits)) = ((2 ^ (min y.toNat k.bits) : Nat) : Int) := by simp
        rw [e]
        exact Int.ofNat_fdiv a _
      · cases h
  all_goals
    obtain rfl : k = k' := by rcases hk with e | e | e <;> first | exact e | cases e
  case add => cases h; exact ⟨_, by simp [Go.binOp, Op.intArith]; rfl, by simp [conc, fwrap_eq]⟩
  case sub => cases h; exact ⟨_, by simp [Go.binOp, Op.intArith]; rfl, by simp [conc, fwrap_eq]⟩
  case mul => cases h; exact ⟨_, by simp [Go.binOp, Op.intArith]; rfl, by simp [conc, fwrap_eq]⟩
  case quo =>
    simp only [abInt] at h
    split at h
    · cases h
    · rename_i hy
      cases h
      have hy' : ¬ y = 0 := by rw [ieq_eq] at hy; simpa using hy
      exact ⟨_, by simp [Go.binOp, Op.intDiv, hy']; rfl, by simp [conc]⟩
  case rem =>
    simp only [abInt] at h
    split at h
    · cases h
    · rename_i hy
      cases h
      have hy' : ¬ y = 0 := by rw [ieq_eq] at hy; simpa using hy
      exact ⟨_, by simp [Go.binOp, Op.intDiv, hy']; rfl, by simp [conc]⟩
  case and => exact ⟨_, by simp [Go.binOp, Op.intBits], bits_run k Nat.land (· &&& ·) (fun a b ha hb => by rw [BitVec.toNat_and, ofInt_small ha, ofInt_small hb]; rfl) h⟩
  case or => exact ⟨_, by simp [Go.binOp, Op.intBits], bits_run k Nat.lor (· ||| ·) (fun a b ha hb => by rw [BitVec.toNat_or, ofInt_small ha, ofInt_small hb]; rfl) h⟩
  case xor => exact ⟨_, by simp [Go.binOp, Op.intBits], bits_run k Nat.xor (· ^^^ ·) (fun a b ha hb => by rw [BitVec.toNat_xor, ofInt_small ha, ofInt_small hb]; rfl) h⟩
  case andNot => exact ⟨_, by simp [Go.binOp, Op.intBits], bits_run k (fun a b => Nat.xor a (Nat.land a b)) (fun a b => a &&& ~~~b) (fun a b ha hb => by
    have e : ∀ u v : BitVec k.bits, u &&& ~~~v = u ^^^ (u &&& v) := fun u v => by
      apply BitVec.eq_of_getLsbD_eq
      intro i hi
      simp [hi]
      cases u[i] <;> cases v[i] <;> rfl
    rw [e, BitVec.toNat_xor, BitVec.toNat_and, ofInt_small ha, ofInt_small hb]; rfl) h⟩
  case eql => cases h; exact ⟨_, by simp [Go.binOp, Op.intCmp]; rfl, by simp [conc, ieq_eq]⟩
  case neq => cases h; exact ⟨_, by simp [Go.binOp, Op.intCmp]; rfl, by simp [conc, ieq_eq, bne]⟩
  case lss => cases h; exact ⟨_, by simp [Go.binOp, Op.intCmp]; rfl, by simp [conc, ilt_eq]⟩
  case leq => cases h; exact ⟨_, by simp [Go.binOp, Op.intCmp]; rfl, by simp [conc, ilt_eq]; rw [Bool.eq_iff_iff]; simp⟩
  case gtr => cases h; exact ⟨_, by simp [Go.binOp, Op.intCmp]; rfl, by simp [conc, ilt_eq]⟩
  case geq => cases h; exact ⟨_, by simp [Go.binOp, Op.intCmp]; rfl, by simp [conc, ilt_eq]; rw [Bool.eq_iff_iff]; simp⟩

theorem abStr_run {op : BinOp} {x y : List UInt8} {v : AV} (t : TypeId) (h : abStr op x y = some v) :
    Says σ ρ P w (Go.binOp op t (.string ⟨x.toArray⟩) (.string ⟨y.toArray⟩)) v := by
  unfold abStr at h
  split at h
  · split at h
    · rename_i hl
      cases h
      have hl := Nat.le_of_ble_eq_true hl
      have : ¬ (((⟨x.toArray⟩ : ByteArray).size + (⟨y.toArray⟩ : ByteArray).size : Nat) : Int) > IntKind.i64.max := by
        simp only [ByteArray.size, List.size_toArray, IntKind.max, IntKind.signed, IntKind.bits]
        simp; omega
      refine ⟨.string ⟨(x ++ y).toArray⟩, ?_, by simp [conc]⟩
      simp only [binOp_string_add, Op.stringOp, if_neg this, Sem.run_pure]
      congr 2
    · cases h
  · cases h; exact ⟨.bool (x == y), by simp [binOp_string_eql], by simp [conc, beqs_eq]⟩
  · cases h; exact ⟨.bool !(x == y), by simp [binOp_string_neq], by simp [conc, beqs_eq]⟩
  · cases h
end
end Ev
end Go.Proofs.YtpppaheennkkpaaGreatDoor

/- Tests of likeness, cuts of slices. -/
namespace Go.Proofs.YtpppaheennkkpaaGreatDoor
namespace Ev

section
variable {σ : Nat → Value} {ρ : Place} {P : Program} {H : Heap} {w : World}

theorem conc_ptr {id off : Nat} {v : Value} (h : conc σ ρ (.ptr id off) = some v) : ∃ p, ρ id = some p ∧ v = .pointer (some ⟨p.b, p.o + off, none⟩) := by
  simp only [conc] at h
  split at h
  · rename_i p hp; cases h; exact ⟨p, hp, rfl⟩
  · cases h
theorem conc_slice {id off len cap : Nat} {v : Value} (h : conc σ ρ (.slice id off len cap) = some v) : ∃ p, ρ id = some p ∧ v = .slice (some ⟨p.b, p.o + off, none⟩) len cap := by
  simp only [conc] at h
  split at h
  · rename_i p hp; cases h; exact ⟨p, hp, rfl⟩
  · cases h
theorem conc_osl {id off0 off len k : Nat} {v : Value} (h : conc σ ρ (.osl id off0 off len k) = some v) : ∃ p, ρ id = some p ∧ 0 < k ∧ off + len * k ≤ p.n ∧ (p.n - off) % k = 0 ∧
    v = .slice (some ⟨p.b, p.o + (if off = p.n then off0 else off), none⟩) len ((p.n - off) / k) := by
  simp only [conc] at h
  split at h
  · rename_i p hp
    split at h
    · rename_i hc; cases h; exact ⟨p, hp, hc.1, hc.2.1, hc.2.2, rfl⟩
    · cases h
  · cases h
theorem conc_map {id : Nat} {v : Value} (h : conc σ ρ (.map id) = some v) : ∃ p, ρ id = some p ∧ v = .map (some p.b) := by
  simp only [conc] at h
  split at h
  · rename_i p hp; cases h; exact ⟨p, hp, rfl⟩
  · cases h
theorem conc_iface {t : TypeId} {a : AV} {v : Value} (h : conc σ ρ (.iface t a) = some v) : ∃ x, conc σ ρ a = some x ∧ v = .iface t x := by
  simp only [conc] at h
  split at h
  · rename_i x hx; cases h; exact ⟨x, hx, rfl⟩
  · cases h
theorem conc_agg {l : List AV} {v : Value} (h : conc σ ρ (.agg l) = some v) : ∃ x, concs σ ρ l = some x ∧ v = .agg x.toArray := by
  simp only [conc] at h
  split at h
  · rename_i x hx; cases h; exact ⟨x, hx, rfl⟩
  · cases h
theorem conc_tup {l : List AV} {v : Value} (h : conc σ ρ (.tup l) = some v) : ∃ x, concs σ ρ l = some x ∧ v = .tuple x.toArray := by
  simp only [conc] at h
  split at h
  · rename_i x hx; cases h; exact ⟨x, hx, rfl⟩
  · cases h
theorem conc_fn {f : Fn} {a b : List AV} {v : Value} (h : conc σ ρ (.fn f a b) = some v) : ∃ x y, concs σ ρ a = some x ∧ concs σ ρ b = some y ∧ v = .func f x.toArray y.toArray := by
  simp only [conc] at h
  split at h
  · rename_i x y hx hy; cases h; exact ⟨x, y, hx, hy, rfl⟩
  · cases h

theorem aeq_run {t : TypeId} {x y : AV} {b : Bool} {a c : Value} (h : aeq P t x y = some b) (hx : conc σ ρ x = some a) (hy : conc σ ρ y = some c) :
    (Op.equal t a c).run P w = .ok b w := by
  unfold aeq at h
  unfold Op.equal Op.maxDepth
  change (Op.equalIn (9999 + 1) t a c).run P w = .ok b w
  generalize 9999 = dd
  split at h
  all_goals first
    | (split at h
       · rename_i hu
         cases h
         first
           | (obtain ⟨p, hp, rfl⟩ := conc_ptr hx)
           | (obtain ⟨p, hp, rfl⟩ := conc_slice hx)
           | (obtain ⟨p, hp, _, _, _, rfl⟩ := conc_osl hx)
           | (obtain ⟨p, hp, rfl⟩ := conc_map hx)
           | (obtain ⟨p, hp, rfl⟩ := conc_iface hx)
           | (obtain ⟨p, q, hp, hq, rfl⟩ := conc_fn hx)
           | (simp only [conc, Option.some.injEq] at hx; subst hx)
         all_goals first
           | (obtain ⟨p, hp, rfl⟩ := conc_ptr hy)
           | (obtain ⟨p, hp, rfl⟩ := conc_slice hy)
           | (obtain ⟨p, hp, _, _, _, rfl⟩ := conc_osl hy)
           | (obtain ⟨p, hp, rfl⟩ := conc_map hy)
           | (obtain ⟨p, hp, rfl⟩ := conc_iface hy)
           | (obtain ⟨p, q, hp, hq, rfl⟩ := conc_fn hy)
           | (simp only [conc, Option.some.injEq] at hy; subst hy)
         all_goals simp [Op.equalIn, run_und hu]
       · cases h)
    | cases h
def loose : Value → Bool
  | .int _ _ | .float _ _ | .complex _ _ _ | .string _ => false
  | _ => true
theorem binOp_eql {t : TypeId} {a b : Value} (h : loose a = true) : Go.binOp .eql t a b = (do pure (.bool (← Op.equal t a b))) := by
  cases a <;> first | (simp [loose] at h; done) | (cases b <;> rfl)
theorem binOp_neq {t : TypeId} {a b : Value} (h : loose a = true) : Go.binOp .neq t a b = (do pure (.bool (!(← Op.equal t a b)))) := by
  cases a <;> first | (simp [loose] at h; done) | (cases b <;> rfl)
def bothNil : Value → Value → Bool
  | .nilIface, .nilIface => true
  | .agg _, .agg _ => true
  | _, _ => false
theorem eqGuard_free {op : BinOp} {t : TypeId} {x y : Operand} {a b : Value} (h : bothNil a b = false) : (eqGuard op t x y a b).run P w = .ok () w := by
  unfold eqGuard
  cases op <;> simp <;> (cases a <;> cases b <;> first | rfl | (simp [bothNil] at h; done))
theorem aeq_loose {t : TypeId} {x y : AV} {r : Bool} {a b : Value} (h : aeq P t x y = some r) (hx : conc σ ρ x = some a) (hy : conc σ ρ y = some b) : loose a = true ∧ bothNil a b = false := by
  unfold aeq at h
  split at h
  all_goals first
    | cases h
    | (clear h
       first
         | (obtain ⟨p, hp, rfl⟩ := conc_ptr hx)
         | (obtain ⟨p, hp, rfl⟩ := conc_slice hx)
         | (obtain ⟨p, hp, _, _, _, rfl⟩ := conc_osl hx)
         | (obtain ⟨p, hp, rfl⟩ := conc_map hx)
         | (obtain ⟨p, hp, rfl⟩ := conc_iface hx)
         | (obtain ⟨p, q, hp, hq, rfl⟩ := conc_fn hx)
         | (simp only [conc, Option.some.injEq] at hx; subst hx)
       all_goals first
         | (obtain ⟨p, hp, rfl⟩ := conc_ptr hy)
         | (obtain ⟨p, hp, rfl⟩ := conc_slice hy)
         | (obtain ⟨p, hp, _, _, _, rfl⟩ := conc_osl hy)
         | (obtain ⟨p, hp, rfl⟩ := conc_map hy)
         | (obtain ⟨p, hp, rfl⟩ := conc_iface hy)
         | (obtain ⟨p, q, hp, hq, rfl⟩ := conc_fn hy)
         | (simp only [conc, Option.some.injEq] at hy; subst hy)
       all_goals exact ⟨rfl, rfl⟩)
theorem eqGuard_nil {op : BinOp} {t : TypeId} {X Y : Operand} (h : (isLit X || isLit Y) = true) : (eqGuard op t X Y .nilIface .nilIface).run P w = .ok () w := by
  unfold eqGuard
  generalize Op.maxDepth = dd
  cases X <;> cases Y <;> simp [isLit] at h <;> cases op <;> rfl
theorem abin_run {op : BinOp} {t : TypeId} {X Y : Operand} {x y v : AV} {a b : Value} (h : abin P op t (isLit X || isLit Y) x y = some v) (hx : conc σ ρ x = some a) (hy : conc σ ρ y = some b) :
    Says σ ρ P w (do eqGuard op t X Y a b; Go.binOp op t a b) v := by
  unfold abin at h
  split at h
  · rename_i k n k' m
    simp only [conc, Option.some.injEq] at hx hy
    subst hx; subst hy
    split at h
    · rename_i hk
      obtain ⟨v', h1, h2⟩ := abInt_run (σ := σ) (ρ := ρ) (P := P) (w := w) (k' := k') t h (by simpa [or_assoc] using hk)
      exact ⟨v', by simp only [Sem.run_bind, eqGuard_free (a := .int k n) (b := .int k' m) rfl, Result.andThen_ok]; exact h1, h2⟩
    · cases h
  · rename_i n m
    simp only [conc, Option.some.injEq] at hx hy
    subst hx; subst hy
    obtain ⟨v', h1, h2⟩ := abStr_run (σ := σ) (ρ := ρ) (P := P) (w := w) t h
    exact ⟨v', by simp only [Sem.run_bind, eqGuard_free (a := .string ⟨n.toArray⟩) (b := .string ⟨m.toArray⟩) rfl, Result.andThen_ok]; exact h1, h2⟩
  · simp only [conc, Option.some.injEq] at hx hy
    subst hx; subst hy
    split at h
    · rename_i ms hlit hu
      have hg := eqGuard_nil (P := P) (w := w) (op := op) (t := t) hlit
      have he : (Op.equal t .nilIface .nilIface).run P w = .ok true w := by
        unfold Op.equal Op.maxDepth
        change (Op.equalIn (9999 + 1) t _ _).run P w = _
        generalize 9999 = dd
        simp [Op.equalIn, run_und hu]
      split at h
      · cases h
        exact ⟨.bool true, by simp only [Sem.run_bind, hg, Result.andThen_ok, binOp_eql (a := .nilIface) rfl, he, Sem.run_pure], rfl⟩
      · cases h
        exact ⟨.bool false, by simp only [Sem.run_bind, hg, Result.andThen_ok, binOp_neq (a := .nilIface) rfl, he, Sem.run_pure]; rfl, rfl⟩
      · cases h
    · cases h
  · split at h
    · split at h
      · rename_i r hr
        cases h
        obtain ⟨l1, l2⟩ := aeq_loose hr hx hy
        exact ⟨.bool r, by simp only [Sem.run_bind, eqGuard_free l2, Result.andThen_ok, binOp_eql l1, aeq_run hr hx hy, Sem.run_pure], rfl⟩
      · cases h
    · split at h
      · rename_i r hr
        cases h
        obtain ⟨l1, l2⟩ := aeq_loose hr hx hy
        exact ⟨.bool !r, by simp only [Sem.run_bind, eqGuard_free l2, Result.andThen_ok, binOp_neq l1, aeq_run hr hx hy, Sem.run_pure], rfl⟩
      · cases h
    · cases h

theorem aun_run {op : UnOp} {x v : AV} {a : Value} (h : aun op x = some v) (hx : conc σ ρ x = some a) : Says σ ρ P w (Op.unary op a) v := by
  unfold aun at h
  split at h
  · rename_i b
    cases h
    simp only [conc, Option.some.injEq] at hx
    subst hx
    exact ⟨.bool !b, rfl, rfl⟩
  · rename_i k n
    cases h
    simp only [conc, Option.some.injEq] at hx
    subst hx
    exact ⟨.int k (k.wrap (0 - n)), rfl, by simp [conc, fwrap_eq]⟩
  · rename_i k n
    split at h
    · rename_i hs hb
      cases h
      simp only [conc, Option.some.injEq] at hx
      subst hx
      have hb := bl hb
      refine ⟨.int k (k.wrap ((BitVec.ofInt k.bits k.max ^^^ BitVec.ofInt k.bits (.ofNat n)).toNat)), by simp only [Op.unary, hs]; rfl, ?_⟩
      have hp : 0 < 2 ^ k.bits := Nat.two_pow_pos _
      have hm : (BitVec.ofInt k.bits k.max) = BitVec.allOnes k.bits := by
        apply BitVec.eq_of_toNat_eq
        simp only [IntKind.max, hs, Bool.false_eq_true, if_false, BitVec.toNat_ofInt, BitVec.toNat_allOnes]
        have : ((2 : Int) ^ k.bits - 1) % ((2 ^ k.bits : Nat) : Int) = ((2 ^ k.bits - 1 : Nat) : Int) := by
          have e : ((2 : Int) ^ k.bits) = ((2 ^ k.bits : Nat) : Int) := by simp
          rw [e, Int.emod_eq_of_lt] <;> omega
        rw [this]; simp
      rw [hm, BitVec.allOnes_xor, BitVec.toNat_not, ofInt_small hb]
      simp only [conc, Option.some.injEq, Value.int.injEq, true_and, IntKind.wrap, hs, Bool.false_and, Bool.false_eq_true, if_false]
      have e : ((2 : Int) ^ k.bits) = ((2 ^ k.bits : Nat) : Int) := by simp
      rw [e, Int.emod_eq_of_lt (by omega) (by omega)]
      rfl
    · cases h
  · cases h
end
end Ev
end Go.Proofs.YtpppaheennkkpaaGreatDoor

/- Cuts and conversions. -/
namespace Go.Proofs.YtpppaheennkkpaaGreatDoor
namespace Ev

section
variable {σ : Nat → Value} {ρ : Place} {P : Program} {H : Heap} {w : World}

/-- A value that may be missing. -/
def OC (σ : Nat → Value) (ρ : Place) : Option AV → Option Value → Prop
  | none, none => True
  | some a, some v => conc σ ρ a = some v
  | _, _ => False
theorem evO_conc {f : Fr} {a : Act} {L : List Operand} (h : EV σ ρ f a L) {x : Option Operand} {v : Option AV} (hm : ∀ y, x = some y → y ∈ L) (e : evO f x = some v) : OC σ ρ v (x.map a.eval) := by
  unfold evO at e
  split at e
  · cases e; trivial
  · split at e
    · rename_i x v' hv; cases e; exact h.one (hm _ rfl) hv
    · cases e
theorem bound_run {y n : Nat} {k : IntKind} {c : BoundsCode} (h : n ≤ y) : (Instr.sliceBound (.int k (.ofNat n)) y c).run P w = .ok n w := by
  have : (0 : Int) ≤ Int.ofNat n ∧ Int.ofNat n ≤ (y : Int) := ⟨Int.natCast_nonneg n, by show (n : Int) ≤ y; exact_mod_cast h⟩
  simp only [Instr.sliceBound, asIntOf, Sem.run_bind, Sem.run_pure, Result.andThen_ok, if_pos this]
  rfl
theorem bound_run' {y n : Nat} {k : IntKind} {c : BoundsCode} (h : n ≤ y) : (Instr.sliceBound (.int k (n : Int)) y c).run P w = .ok n w := bound_run h
theorem boundA_oc {x : Option AV} {v : Option Value} {d n : Nat} (h : boundA x d = some n) (hc : OC σ ρ x v) : (x = none ∧ v = none ∧ n = d) ∨ (∃ k, v = some (.int k (.ofNat n)) ∧ x.isSome = true) := by
  unfold boundA at h
  split at h
  · cases h
    cases v with
    | none => exact .inl ⟨rfl, rfl, rfl⟩
    | some v => exact hc.elim
  · rename_i k n'
    cases h
    cases v with
    | none => exact hc.elim
    | some v =>
      simp only [OC, conc, Option.some.injEq] at hc
      exact .inr ⟨k, by rw [← hc], rfl⟩
  · cases h
theorem bounds_run {b : Bool} {len cap l h m : Nat} {lo hi mx : Option AV} {lo' hi' mx' : Option Value} (h1 : OC σ ρ lo lo') (h2 : OC σ ρ hi hi') (h3 : OC σ ρ mx mx')
    (b1 : boundA mx cap = some m) (b2 : boundA hi len = some h) (b3 : boundA lo 0 = some l) (c1 : l ≤ h) (c2 : h ≤ m) (c3 : m ≤ cap) (c4 : mx.isSome = true → hi.isSome = true) :
    (Instr.sliceBounds b len cap lo' hi' mx').run P w = .ok (l, h, m) w := by
  rcases boundA_oc b1 h3 with ⟨e1, e2, e3⟩ | ⟨k1, e1, e2⟩ <;> rcases boundA_oc b2 h2 with ⟨f1, f2, f3⟩ | ⟨k2, f1, f2⟩ <;> rcases boundA_oc b3 h1 with ⟨g1, g2, g3⟩ | ⟨k3, g1, g2⟩
  all_goals first
    | (exfalso; rw [f1] at c4; simp [e2] at c4; done)
    | skip
  all_goals simp_all [Instr.sliceBounds, bound_run', Result.andThen_ok]

theorem slice_same (b : Nat) (o n : Nat) : (⟨b, o, none⟩ : Addr).add n = ⟨b, o + n, none⟩ := add_none b o n

theorem boundsA_spec {mx hi lo : Option AV} {len cap l h m : Nat} (e : boundsA mx hi lo len cap = some (l, h, m)) :
    boundA mx cap = some m ∧ boundA hi len = some h ∧ boundA lo 0 = some l ∧ l ≤ h ∧ h ≤ m ∧ m ≤ cap ∧ (mx.isSome = true → hi.isSome = true) := by
  unfold boundsA at e
  split at e
  · rename_i m' h' l' b1 b2 b3
    split at e
    · rename_i hc
      cases e
      simp only [Bool.and_eq_true] at hc
      obtain ⟨⟨⟨c1, c2⟩, c3⟩, c4⟩ := hc
      refine ⟨b1, b2, b3, Nat.le_of_ble_eq_true c1, Nat.le_of_ble_eq_true c2, Nat.le_of_ble_eq_true c3, fun hm => ?_⟩
      cases mx with
      | none => cases hm
      | some a => cases hi with
        | none => cases c4
        | some b => rfl
    · cases e
  · cases e
theorem cutA_conc {id off size l h m : Nat} {p : Pl} (hp : ρ id = some p) :
    conc σ ρ (cutA id off size l h m) = some (.slice (if m = l then some ⟨p.b, p.o + off, none⟩ else some ((⟨p.b, p.o + off, none⟩ : Addr).add (l * size))) (h - l) (m - l)) := by
  unfold cutA
  split
  · rename_i e
    have e := Nat.eq_of_beq_eq_true e
    simp [conc, hp, e]
  · rename_i e
    have e : ¬ m = l := fun x => by subst x; simp at e
    simp [conc, hp, e, add_none, Nat.add_assoc]

theorem capOf_le {H : Heap} (hr : HR σ ρ H w.heap) {id off len k : Nat} {p : Pl} (hp : ρ id = some p) (hcap : len ≤ (p.n - off) / k) : capOf H id off len k ≤ (p.n - off) / k := by
  unfold capOf
  split
  · rename_i t m ty hg
    obtain ⟨q, hq, c, fz, _, _, _, hm, _⟩ := hr.live id _ (hr.lt hp) hg
    rw [hp] at hq; cases hq
    split
    · exact Nat.div_le_div_right (by omega)
    · exact hcap
  · exact hcap
theorem sliceA_run {H : Heap} (hr : HR σ ρ H w.heap) {t : TypeId} {x v : AV} {lo hi mx : Option AV} {x' : Value} {lo' hi' mx' : Option Value} (h : sliceA P t x lo hi mx H = some v) (hx : conc σ ρ x = some x')
    (h1 : OC σ ρ lo lo') (h2 : OC σ ρ hi hi') (h3 : OC σ ρ mx mx') : Says σ ρ P w (Instr.sliceAt t x' lo' hi' mx') v := by
  unfold sliceA at h
  split at h
  · rename_i s hu
    simp only [conc, Option.some.injEq] at hx
    subst hx
    split at h
    · rename_i l hh m hb
      cases h
      have : mx' = none := by cases mx' with | none => rfl | some _ => exact h3.elim
      subst this
      obtain ⟨b1, b2, b3, c1, c2, c3, c4⟩ := boundsA_spec hb
      have hs : (⟨s.toArray⟩ : ByteArray).size = s.length := by simp [ByteArray.size]
      have hb' := bounds_run (P := P) (w := w) (b := false) h1 h2 (mx' := none) (mx := none) trivial b1 b2 b3 c1 c2 c3 c4
      refine ⟨.string ⟨((s.drop l).take (hh - l)).toArray⟩, ?_, rfl⟩
      simp only [Instr.sliceAt, Instr.slice, Sem.run_bind, run_und hu, Result.andThen_ok]
      simp [hs, hb', ByteArray.extract_mk]
    · cases h
  · rename_i e hu
    simp only [conc, Option.some.injEq] at hx
    subst hx
    split at h
    · rename_i r sz hb hsz
      cases h
      obtain ⟨l, hh, m⟩ := r
      obtain ⟨b1, b2, b3, c1, c2, c3, c4⟩ := boundsA_spec hb
      have hb' := bounds_run (P := P) (w := w) (b := true) h1 h2 h3 b1 b2 b3 c1 c2 c3 c4
      refine ⟨.slice none 0 0, ?_, rfl⟩
      have e1 : m = 0 := by omega
      have e2 : hh = 0 := by omega
      have e3 : l = 0 := by omega
      subst e1; subst e2; subst e3
      simp [Instr.sliceAt, Instr.slice, run_und hu, hb', run_size hsz]
    · cases h
  · rename_i e id off len cap hu
    obtain ⟨p, hp, rfl⟩ := conc_slice hx
    split at h
    · rename_i l hh m size hb hsz
      cases h
      obtain ⟨b1, b2, b3, c1, c2, c3, c4⟩ := boundsA_spec hb
      have hb' := bounds_run (P := P) (w := w) (b := true) h1 h2 h3 b1 b2 b3 c1 c2 c3 c4
      refine ⟨_, ?_, cutA_conc hp⟩
      simp [Instr.sliceAt, Instr.slice, run_und hu, hb', run_size hsz]
    · cases h
  · rename_i e id off0 off len k hu
    obtain ⟨p, hp, hk, hl, hd, rfl⟩ := conc_osl hx
    have hcap : len ≤ (p.n - off) / k := (Nat.le_div_iff_mul_le hk).2 (by omega)
    have hcap2 := capOf_le hr hp hcap
    have hmod : k * ((p.n - off) / k) = p.n - off := by
      have := Nat.div_add_mod (p.n - off) k; omega
    split at h
    · rename_i l hh m size hb hsz
      obtain ⟨b1, b2, b3, c1, c2, c3, c4⟩ := boundsA_spec hb
      split at h
      · rename_i hsk
        have hsk := Nat.eq_of_beq_eq_true hsk
        subst hsk
        have hq : hh * size ≤ p.n - off := by
          have q1 : hh * size ≤ (p.n - off) / size * size := Nat.mul_le_mul_right _ (by omega)
          have q2 := Nat.div_mul_le_self (p.n - off) size
          omega
        have hm' : mx' = none := by cases mx' with | none => rfl | some _ => exact h3.elim
        subst hm'
        have hb' := bounds_run (P := P) (w := w) (b := true) h1 h2 (mx' := none) (mx := none) trivial (cap := (p.n - off) / size) (m := (p.n - off) / size) rfl b2 b3 c1 (by omega) (Nat.le_refl _) (by simp)
        split at h
        · cases h
          refine ⟨.slice (some ⟨p.b, p.o + (if off = p.n then off0 else off), none⟩) hh ((p.n - off) / size), ?_, ?_⟩
          · simp only [Instr.sliceAt, Instr.slice, Sem.run_bind, run_und hu, Result.andThen_ok, hb', run_size hsz, Sem.run_pure]
            congr 2
            · split
              · rfl
              · simp [Addr.add]
          · simp only [conc, hp]
            rw [if_pos ⟨hk, by omega, hd⟩]
        · rename_i l'
          cases h
          have hlt : off < p.n := by
            have : 1 * size ≤ hh * size := Nat.mul_le_mul_right _ (by omega)
            omega
          refine ⟨.slice (if (p.n - off) / size = l' + 1 then some ⟨p.b, p.o + off, none⟩ else some ((⟨p.b, p.o + off, none⟩ : Addr).add ((l' + 1) * size))) (hh - (l' + 1)) ((p.n - off) / size - (l' + 1)), ?_, ?_⟩
          · simp only [Instr.sliceAt, Instr.slice, Sem.run_bind, run_und hu, Result.andThen_ok, hb', run_size hsz, Sem.run_pure, if_neg (Nat.ne_of_lt hlt), Option.map_some]
          · have q2 : (hh - (l' + 1)) * size = hh * size - (l' + 1) * size := Nat.sub_mul _ _ _
            have q4 : (l' + 1) * size ≤ hh * size := Nat.mul_le_mul_right _ (by omega)
            have q5 : p.n - (off + (l' + 1) * size) = (p.n - off) - (l' + 1) * size := by omega
            have q6 : (p.n - (off + (l' + 1) * size)) / size = (p.n - off) / size - (l' + 1) := by
              rw [q5, Nat.mul_comm, Nat.sub_mul_div]
            have q7 : (p.n - (off + (l' + 1) * size)) % size = 0 := by
              rw [q5, ← hmod, Nat.mul_comm (l' + 1), ← Nat.mul_sub]; simp
            simp only [conc, hp]
            rw [if_pos ⟨hk, by omega, q7⟩, q6]
            by_cases he : (p.n - off) / size = l' + 1
            · have : off + (l' + 1) * size = p.n := by
                rw [he] at hmod
                rw [Nat.mul_comm] at hmod; omega
              rw [if_pos this, if_pos he]
            · have : ¬ off + (l' + 1) * size = p.n := fun e => he (by
                have : p.n - off = (l' + 1) * size := by omega
                rw [this]; exact Nat.mul_div_cancel _ hk)
              rw [if_neg this, if_neg he, add_none, Nat.add_assoc]
      · rename_i mx0 hsk
        split at h
        · rename_i hlen
          cases h
          have hlen := bl hlen
          have hlt : off < p.n := by
            have : 1 * k ≤ len * k := Nat.mul_le_mul_right _ (by omega)
            omega
          have b1' : boundA (some mx0) ((p.n - off) / k) = some m := by
            cases mx0 with
            | int k n => cases n <;> exact b1
            | _ => exact b1
          have hb' := bounds_run (P := P) (w := w) (b := true) h1 h2 h3 b1' b2 b3 c1 c2 (Nat.le_trans c3 hcap2) c4
          refine ⟨_, ?_, cutA_conc hp⟩
          simp [Instr.sliceAt, Instr.slice, run_und hu, hb', run_size hsz, Nat.ne_of_lt hlt]
        · cases h
      · cases h
    · cases h
  · rename_i n e id off hu
    obtain ⟨p, hp, rfl⟩ := conc_ptr hx
    split at h
    · rename_i l hh m size hb hsz
      cases h
      obtain ⟨b1, b2, b3, c1, c2, c3, c4⟩ := boundsA_spec hb
      have hb' := bounds_run (P := P) (w := w) (b := false) h1 h2 h3 b1 b2 b3 c1 c2 c3 c4
      refine ⟨_, ?_, cutA_conc hp⟩
      simp [Instr.sliceAt, Instr.sureAddr, run_und hu, hb', run_size hsz]
      split <;> rfl
    · cases h
  · cases h
end
end Ev
end Go.Proofs.YtpppaheennkkpaaGreatDoor

/- Maps, keys; texts made bytes, bytes made texts. -/
namespace Go.Proofs.YtpppaheennkkpaaGreatDoor
namespace Ev

section
variable {σ : Nat → Value} {ρ : Place} {P : Program} {H : Heap} {w : World}

/-- A value in a new block. -/
def Makes (σ : Nat → Value) (ρ : Place) (P : Program) (w : World) (s : Sem Value) (k : ABlk) (g : Nat → AV) : Prop :=
  ∃ v' w' x N, s.run P w = .ok v' w' ∧ w'.heap = w.heap.push x ∧ (w'.os = w.os ∧ w'.output = w.output ∧ w'.tape = w.tape) ∧
    ∀ id, ρ id = none → BR σ (ρ.with id ⟨w.heap.size, 0, N⟩) ⟨w.heap.size, 0, N⟩ (some x) k ∧ conc σ (ρ.with id ⟨w.heap.size, 0, N⟩) (g id) = some v'

theorem bytesOf_conc (s : List UInt8) : concs σ ρ (bytesOf s) = some (s.map fun b => .int .u8 b.toNat) := by
  refine concs_of (by simp [bytesOf]) (fun i a ha => ?_)
  simp only [bytesOf, List.getElem?_map, Option.map_eq_some_iff] at ha
  obtain ⟨b, hb, rfl⟩ := ha
  exact ⟨.int .u8 b.toNat, by simp [hb], rfl⟩

theorem modify_push (h : Array Obj) (x : Obj) (f : Obj → Obj) : (h.push x).modify h.size f = h.push (f x) := by
  apply Array.ext_getElem?
  intro i
  rw [Array.getElem?_modify, Array.getElem?_push, Array.getElem?_push]
  by_cases hi : i = h.size
  · subst hi; simp
  · rw [if_neg (fun e => hi e.symm), if_neg hi, if_neg hi]

theorem freeze_new (w : World) (c : Array Value) (e : TypeId) (n : Nat) : ((w.drew.alloc (.cells c e)).freeze ⟨w.heap.size, n, none⟩ 1).heap = w.heap.push (.cells c e (n, n + 1)) := by
  have h : ∀ f : Obj → Obj, f (.cells c e) = .cells c e (n, n + 1) → (w.heap.push (.cells c e)).modify w.heap.size f = w.heap.push (.cells c e (n, n + 1)) := fun f hf => by
    rw [modify_push, hf]
  have e1 : (w.drew.alloc (.cells c e)).heap = w.heap.push (.cells c e) := rfl
  unfold World.freeze
  rw [if_neg (by omega)]
  simp only [e1]
  rw [h]
  simp

theorem strOf_spec : ∀ {l : List AV} {s : List UInt8} {vs : List Value}, strOf l = some s → concs σ ρ l = some vs →
    ∃ ns : List Int, vs = ns.map (Value.int .u8) ∧ s = ns.map fun n => UInt8.ofNat n.toNat
  | [], s, vs, h, hc => by
    simp only [strOf, Option.some.injEq] at h
    simp only [concs, Option.some.injEq] at hc
    subst h; subst hc
    exact ⟨[], rfl, rfl⟩
  | a :: l, s, vs, h, hc => by
    simp only [concs] at hc
    split at hc
    · rename_i x y hx hy
      cases hc
      unfold strOf at h
      split at h
      · cases ‹_ :: _ = []›
      · rename_i n l' heq
        cases heq
        split at h
        · rename_i s' hs'
          cases h
          obtain ⟨ns, e1, e2⟩ := strOf_spec hs' hy
          simp only [conc, Option.some.injEq] at hx
          subst hx
          exact ⟨n :: ns, by simp [e1], by simp [e2]⟩
        · cases h
      · cases h
    · cases hc
theorem foldl_push (ns : List Int) : ∀ (s : ByteArray), ns.foldl (fun r n => r.push (UInt8.ofNat n.toNat)) s = ⟨s.data ++ (ns.map fun n => UInt8.ofNat n.toNat).toArray⟩ := by
  induction ns with
  | nil => intro s; simp
  | cons n ns ih =>
    intro s
    rw [List.foldl_cons, ih]
    congr 1
    simp [ByteArray.push]

theorem sliceOf_conc {x : AV} {v : Value} {b : Option (Nat × Nat)} {n : Nat} (h : sliceOf x = some (b, n)) (hx : conc σ ρ x = some v) :
    (b = none ∧ n = 0 ∧ v = .slice none 0 0) ∨ (∃ id off p a cap, b = some (id, off) ∧ ρ id = some p ∧ v = .slice (some a) n cap ∧ (0 < n → a = ⟨p.b, p.o + off, none⟩)) := by
  unfold sliceOf at h
  split at h
  · cases h
    simp only [conc, Option.some.injEq] at hx
    exact .inl ⟨rfl, rfl, hx.symm⟩
  · rename_i id off len cap
    cases h
    obtain ⟨p, hp, rfl⟩ := conc_slice hx
    exact .inr ⟨id, off, p, _, cap, rfl, hp, rfl, fun _ => rfl⟩
  · rename_i id off0 off len k
    cases h
    obtain ⟨p, hp, hk, hl, hd, rfl⟩ := conc_osl hx
    refine .inr ⟨id, off, p, _, _, rfl, hp, rfl, fun h0 => ?_⟩
    have : 1 * k ≤ n * k := Nat.mul_le_mul_right _ h0
    rw [if_neg (by omega)]
  · cases h

def OOK (σ : Nat → Value) (ρ : Place) (P : Program) (w : World) (s : Sem Value) : Out → Prop
  | .val v => Says σ ρ P w s v
  | .new k _ g => Makes σ ρ P w s k g

theorem convA_run (hr : HR σ ρ H w.heap) {src dst : TypeId} {x : AV} {x' : Value} {r : Out} (h : convA P src dst x H = some r) (hx : conc σ ρ x = some x') :
    OOK σ ρ P w (Go.convert src dst x') r := by
  unfold convA at h
  split at h
  · rename_i k0 k k1 n hs hd
    cases h
    simp only [conc, Option.some.injEq] at hx
    subst hx
    exact ⟨.int k (k.wrap n), by simp [Go.convert, run_und hs, run_und hd, Conv.intToInt], by simp [conc, fwrap_eq]⟩
  · rename_i s hs hd
    cases h
    simp only [conc, Option.some.injEq] at hx
    subst hx
    exact ⟨_, by simp [Go.convert, run_und hs, run_und hd], rfl⟩
  · rename_i e hs hd
    split at h
    · rename_i n he hsl
      cases h
      rcases sliceOf_conc hsl hx with ⟨_, _, rfl⟩ | ⟨id, off, p, a, cap, e1, _⟩
      · exact ⟨.string ⟨#[]⟩, by rw [run_convert_bytes_string w src dst e none 0 0 hs he hd]; rfl, rfl⟩
      · cases e1
    · rename_i id off len he hsl
      rcases sliceOf_conc hsl hx with ⟨e1, _⟩ | ⟨id', off', p, a, cap, e1, hp, rfl, ha⟩
      · cases e1
      · cases e1
        split at h
        · cases h
          refine ⟨.string ⟨#[]⟩, ?_, rfl⟩
          rw [run_convert_bytes_string w src dst e _ 0 cap hs he hd]
          simp [Conv.bytesToString, loadCells, loadCellsFrom]
          rfl
        · rename_i hne
          split at h
          · rename_i l hl
            split at h
            · rename_i s hs'
              cases h
              have ha := ha (Nat.pos_of_ne_zero (by assumption))
              subst ha
              obtain ⟨vs, c1, c2, c3⟩ := loads_run (P := P) hr hp hl
              obtain ⟨ns, rfl, rfl⟩ := strOf_spec hs' c1
              refine ⟨.string ⟨(ns.map fun n => UInt8.ofNat n.toNat).toArray⟩, ?_, rfl⟩
              rw [run_convert_bytes_string w src dst e _ _ cap hs he hd, run_bytesToString w _ _ cap ns c3, foldl_push]
              simp
            · cases h
          · cases h
    · cases h
  · rename_i e s hs hd
    split at h
    · rename_i he
      cases h
      simp only [conc, Option.some.injEq] at hx
      subst hx
      have hsz : (⟨s.toArray⟩ : ByteArray).size = s.length := by simp [ByteArray.size]
      generalize hcap : (Question.appendCap s.length 0 e).cut (w.tape w.drawn (.appendCap s.length 0 e)) = cap
      have hle : s.length ≤ cap := by rw [← hcap]; simp [Question.cut]
      obtain ⟨c, hc⟩ : ∃ c : Array Value, c = (s.map fun b => Value.int .u8 (b.toNat : Int)).toArray ++ Array.replicate (cap - s.length) (Value.int .u8 0) := ⟨_, rfl⟩
      have hcs : c.size = cap := by rw [hc]; simp; omega
      have hd0 : (⟨s.toArray⟩ : ByteArray).data.map (fun b => Value.int .u8 (b.toNat : Int)) = (s.map fun b => Value.int .u8 (b.toNat : Int)).toArray := by simp
      refine ⟨.slice (some ⟨w.heap.size, 0, none⟩) s.length cap, ((w.drew.alloc (.cells c e)).freeze ⟨w.heap.size, cap, none⟩ 1), .cells c e (cap, cap + 1), cap, ?_, ?_, ⟨rfl, rfl, rfl⟩, fun id hid => ⟨?_, ?_⟩⟩
      · simp only [Go.convert, Sem.run_bind, run_und hs, run_und hd, Result.andThen_ok, run_und he, Conv.stringToBytes, run_choose, hsz, hcap, Question.forced, Bool.false_eq_true, if_false, newRow, run_newObj, Sem.run_pure, markStringish, run_shape, World.shape?, hd0]
        rw [← hc]
        simp [hcs]
        rfl
      · exact freeze_new w c e cap
      · refine ⟨c, (cap, cap + 1), rfl, .inr (by simp [hcs]), by simp [hcs], hle, fun i hi => ?_⟩
        have hb := bytesOf_conc (σ := σ) (ρ := ρ.with id ⟨w.heap.size, 0, cap⟩) s
        have hlen : (bytesOf s).length = s.length := by simp [bytesOf]
        have := T.get_lay_in (d := dep s.length) (bytesOf s) (.leaf (AV.int .u8 0)) 0 i (by have := lt_dep s.length; omega) (by omega) (by omega)
        obtain ⟨v, e1, e2⟩ := concs_get hb this
        refine ⟨v, ?_, e2⟩
        rw [hc]
        simp only [Nat.zero_add, Nat.sub_zero] at e1 ⊢
        rw [Array.getElem?_append_left (by simpa using hi)]
        simpa using e1
      · simp [conc, Place.with_self, hle, Nat.mod_one]
    · cases h
  · cases h
end
end Ev
end Go.Proofs.YtpppaheennkkpaaGreatDoor
