/- What an operation that turns nothing comes to is what it comes to in the program. -/
import Derived.Test.YtikmamcbngbipaaGreatDoorEK
namespace Go.Proofs.YtikmamcbngbipaaGreatDoor
namespace Ev

section
variable {σ : Nat → Value} {ρ : Place} {P : Program} {H : Heap} {w : World}

def FOK (σ : Nat → Value) (ρ : Place) (P : Program) (a : Act) (o : Oper) (w : World) : Out → Prop
  | .val v => ∃ v', (execOp a.eval o).run P w = .ok (.value v') w ∧ conc σ ρ v = some v'
  | .new k _ g => ∃ v' w' x N, (execOp a.eval o).run P w = .ok (.value v') w' ∧ w'.heap = w.heap.push x ∧ (w'.os = w.os ∧ w'.output = w.output ∧ w'.tape = w.tape) ∧
      ∀ id, ρ id = none → BR σ (ρ.with id ⟨w.heap.size, 0, N⟩) ⟨w.heap.size, 0, N⟩ (some x) k ∧ conc σ (ρ.with id ⟨w.heap.size, 0, N⟩) (g id) = some v'
theorem FOK_of {a : Act} {o : Oper} {s : Sem Value} {r : Out} (he : execOp a.eval o = (do pure (.value (← s)))) (h : OOK σ ρ P w s r) : FOK σ ρ P a o w r := by
  cases r with
  | val v =>
    obtain ⟨v', h1, h2⟩ := h
    exact ⟨v', by simp [he, h1], h2⟩
  | new k n g =>
    obtain ⟨v', w', x, N, h1, h2, h3, h4⟩ := h
    exact ⟨v', w', x, N, by simp [he, h1], h2, h3, h4⟩
theorem FOK_val {a : Act} {o : Oper} {s : Sem Value} {v : AV} (he : execOp a.eval o = (do pure (.value (← s)))) (h : Says σ ρ P w s v) : FOK σ ρ P a o w (.val v) := FOK_of he h

theorem evs_conc {f : Fr} {a : Act} {L : List Operand} (h : EV σ ρ f a L) : ∀ {l : List Operand} {vs : List AV}, (∀ x, x ∈ l → x ∈ L) → evs f l = some vs → concs σ ρ vs = some (l.map a.eval)
  | [], vs, _, e => by cases e; rfl
  | x :: l, vs, hm, e => by
    unfold evs at e
    split at e
    · rename_i u us hu hus
      cases e
      simp [concs, h.one (hm x (by simp)) hu, evs_conc h (fun y hy => hm y (by simp [hy])) hus]
    · cases e
theorem with_le {id : Nat} {p : Pl} (h : ρ id = none) : ρ.le (ρ.with id p) := Place.with_le h

/-- A row of cells made anew. -/
theorem makes_row {l : List AV} {vs : List Value} {t : TypeId} {s : Sem Value} {g : Nat → AV} {n : Nat} {v' : Value} {k : ABlk} (hl : concs σ ρ l = some vs)
    (hs : s.run P w = .ok v' (w.alloc (.cells vs.toArray t))) (hk : k = .cells (T.lay (dep l.length) (.leaf default) 0 l) l.length t)
    (hg : ∀ id, conc σ (ρ.with id ⟨w.heap.size, 0, vs.length⟩) (g id) = some v') : OOK σ ρ P w s (.new k n g) :=
  ⟨v', _, .cells vs.toArray t, vs.length, hs, rfl, ⟨rfl, rfl, rfl⟩, fun id hid => ⟨by rw [hk]; exact BR_fresh (concs_mono (with_le hid) _ _ hl) _ _, hg id⟩⟩

/-- Cells put into a row. -/
def setAtV (cs : List Value) (off : Nat) (vs : List Value) : List Value := cs.take off ++ vs ++ cs.drop (off + vs.length)
theorem zipIdx_fold : ∀ (vs cs : List Value) (off j : Nat), off + j + vs.length ≤ cs.length →
    ((vs.zipIdx j).foldl (fun (acc : Array Value) (x : Value × Nat) => acc.setIfInBounds (off + x.2) x.1) cs.toArray) = (setAtV cs (off + j) vs).toArray
  | [], cs, off, j, _ => by simp [setAtV]
  | v :: vs, cs, off, j, h => by
    simp only [List.length_cons] at h
    have hb : off + j < cs.length := by omega
    rw [List.zipIdx_cons, List.foldl_cons]
    have e : cs.toArray.setIfInBounds (off + j) v = (cs.set (off + j) v).toArray := by simp
    show List.foldl _ (cs.toArray.setIfInBounds (off + j) v) _ = _
    rw [e, zipIdx_fold vs (cs.set (off + j) v) off (j + 1) (by simp; omega)]
    congr 1
    unfold setAtV
    have e1 : (cs.set (off + j) v).take (off + (j + 1)) = cs.take (off + j) ++ [v] := by
      rw [List.take_set, ← Nat.add_assoc, List.take_succ_eq_append_getElem hb, List.set_append]
      simp [Nat.min_eq_left (Nat.le_of_lt hb)]
    rw [e1, List.drop_set_of_lt (by omega)]
    simp [Nat.add_assoc, Nat.add_comm, Nat.add_left_comm]
theorem setAt_conc {l vs : List AV} {x y : List Value} {off : Nat} (hl : concs σ ρ l = some x) (hv : concs σ ρ vs = some y) : concs σ ρ (setAt l off vs) = some (setAtV x off y) := by
  unfold setAt setAtV
  rw [concs_length hv]
  exact concs_append (concs_append (concs_take _ hl) hv) (concs_drop _ hl)

/-- Parts, with their places. -/
def PC (σ : Nat → Value) (ρ : Place) : List (Nat × AV) → List (Nat × Value) → Prop
  | [], [] => True
  | (i, a) :: l, (j, v) :: m => i = j ∧ conc σ ρ a = some v ∧ PC σ ρ l m
  | _, _ => False
theorem evParts_conc {f : Fr} {a : Act} {L : List Operand} (h : EV σ ρ f a L) : ∀ {l : List (Nat × Operand)} {vs : List (Nat × AV)}, (∀ x, x ∈ l → x.2 ∈ L) → evParts f l = some vs → PC σ ρ vs (l.map fun (i, x) => (i, a.eval x))
  | [], vs, _, e => by cases e; trivial
  | (i, x) :: l, vs, hm, e => by
    unfold evParts at e
    split at e
    · rename_i u us hu hus
      cases e
      exact ⟨rfl, h.one (hm (i, x) (by simp)) hu, evParts_conc h (fun y hy => hm y (by simp [hy])) hus⟩
    · cases e
theorem fillA_run (hs : ∀ i, (σ i).oneCell' = true) {place : Nat → Option (Nat × Nat)} : ∀ {ps : List (Nat × AV)} {qs : List (Nat × Value)} {cells l : List AV} {cv : List Value}, fillA place cells ps = some l → PC σ ρ ps qs → concs σ ρ cells = some cv →
    ∃ lv, Instr.fill place cv.toArray qs = some lv.toArray ∧ concs σ ρ l = some lv
  | [], [], cells, l, cv, h, _, hc => by cases h; exact ⟨cv, rfl, hc⟩
  | [], _ :: _, _, _, _, _, hp, _ => hp.elim
  | _ :: _, [], _, _, _, _, hp, _ => by cases hp
  | (i, a) :: ps, (j, v) :: qs, cells, l, cv, h, ⟨hij, ha, hp⟩, hc => by
    subst hij
    unfold fillA at h
    split at h
    · cases h
    · rename_i off size hpl
      split at h
      · rename_i h1 h2
        have h1 := Nat.eq_of_beq_eq_true h1
        have h2 := Nat.le_of_ble_eq_true h2
        have hv := concs_cells ha hs
        have lv := concs_length hv
        have lc := concs_length hc
        obtain ⟨r, r1, r2⟩ := fillA_run hs h hp (setAt_conc hc hv)
        refine ⟨r, ?_, r2⟩
        have hsz : v.cells.size = (cellsOf a).length := by rw [← lv]; simp
        have hne : ¬ ((v.cells.size ≠ size || decide (off + v.cells.size > cv.toArray.size)) = true) := by
          simp; omega
        have hf := zipIdx_fold v.cells.toList cv off 0 (by omega)
        rw [Nat.add_zero] at hf
        simp only [Instr.fill, hpl]
        rw [if_neg hne]
        have : (v.cells.zipIdx.foldl (fun (cs : Array Value) (x : Value × Nat) => cs.setIfInBounds (off + x.2) x.1) cv.toArray) = (setAtV cv off v.cells.toList).toArray := by
          rw [← hf, ← Array.foldl_toList, Array.toList_zipIdx]
        rw [← r1, ← this]
      · cases h

theorem reps_conc {z : List AV} {zv : List Value} (h : concs σ ρ z = some zv) : ∀ n, concs σ ρ (reps z n) = some (List.replicate n zv).flatten
  | 0 => rfl
  | n + 1 => by
    rw [reps, List.replicate_succ, List.flatten_cons]
    exact concs_append h (reps_conc h n)
theorem reps_length (z : List AV) : ∀ n, (reps z n).length = n * z.length
  | 0 => by simp [reps]
  | n + 1 => by rw [reps, List.length_append, reps_length z n, Nat.succ_mul, Nat.add_comm]
theorem range_reps (zv : List Value) (hz : 0 < zv.length) (n : Nat) : ((Array.range (n * zv.length)).map fun i => zv.toArray[i % zv.toArray.size]!) = (List.replicate n zv).flatten.toArray := by
  apply Array.ext_getElem?
  intro i
  have key : ∀ (n i : Nat), i < n * zv.length → (List.replicate n zv).flatten[i]? = zv[i % zv.length]? := by
    intro n
    induction n with
    | zero => intro i h; simp at h
    | succ n ih =>
      intro i h
      rw [List.replicate_succ, List.flatten_cons]
      rw [Nat.succ_mul] at h
      by_cases hi : i < zv.length
      · rw [List.getElem?_append_left hi, Nat.mod_eq_of_lt hi]
      · rw [List.getElem?_append_right (by omega), ih _ (by omega), Nat.mod_eq_sub_mod (Nat.le_of_not_lt hi)]
  by_cases hi : i < n * zv.length
  · have hm : i % zv.length < zv.length := Nat.mod_lt _ hz
    have k := key n i hi
    rw [List.getElem?_eq_getElem hm] at k
    simp [hi, hm]
    exact (List.getElem?_eq_some_iff.1 k).2.symm
  · rw [Array.getElem?_eq_none (by simpa using hi), Array.getElem?_eq_none]
    simp [List.length_flatten]
    simpa using hi
end
end Ev
end Go.Proofs.YtikmamcbngbipaaGreatDoor
