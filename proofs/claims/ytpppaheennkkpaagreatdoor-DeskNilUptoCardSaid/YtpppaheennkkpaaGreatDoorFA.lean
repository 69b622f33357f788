/- Bodies, loops, calls: what the run says is what the code does. -/
import Derived.Test.YtpppaheennkkpaaGreatDoorEZ
import Derived.LoopN
import Derived.RangeFuncLeaves
import Derived.RangeFuncRecord
namespace Go.Proofs.YtpppaheennkkpaaGreatDoor
namespace Ev

def Ex.out : Ex → Exit
  | .norm => .normal
  | .exit id => .exit id
  | .ret => .ret

/-- The deferrals of a frame: calls; marks, whose blocks are none of the run's. -/
def DR (σ : Nat → Value) (ρ : Place) (P : Program) (H : Heap) (w : World) (B : Nat) : Nat → List Df → List Deferred → Prop
  | _, [], [] => True
  | U, .call g args :: l, d :: dl => (∃ fv cap, d.target = .fn fv cap ∧ ∃ vs, concs σ ρ args = some vs ∧ Enters P g ∧ ∀ w, (invoke d.target d.args).run P w = .ok (.enter g vs.toArray) w) ∧ DR σ ρ P H w B U l dl
  | U, .coll :: l, d :: dl => ∃ D, d = { target := .collected D, args := #[] } ∧ B ≤ D ∧ D < U ∧ w.heap[D]? = some (.deferred (some [])) ∧ (∀ i k p, i < H.next → H.get i = some k → ρ i = some p → p.b ≠ D) ∧ DR σ ρ P H w B D l dl
  | _, _, _ => False
theorem DR.up {σ : Nat → Value} {ρ : Place} {P : Program} {H : Heap} {w : World} {B : Nat} : ∀ {U U' : Nat} {l : List Df} {dl : List Deferred}, U ≤ U' → DR σ ρ P H w B U l dl → DR σ ρ P H w B U' l dl
  | _U, _U', [], [], _, _ => trivial
  | _U, _U', .call _g _args :: _l, _d :: _dl, hU, ⟨h1, h2⟩ => ⟨h1, h2.up hU⟩
  | _U, _U', .coll :: _l, _d :: _dl, hU, ⟨D, h1, h2, h3, h4⟩ => ⟨D, h1, h2, Nat.lt_of_lt_of_le h3 hU, h4⟩
  | _, _, [], _ :: _, _, e => e.elim
  | _, _, .call _ _ :: _, [], _, e => e.elim
  | _, _, .coll :: _, [], _, e => e.elim
theorem DR.step {σ : Nat → Value} {ρ ρ' : Place} {P : Program} {H H' : Heap} {w w' : World} {B : Nat} (h : Step ρ H w ρ' H' w') : ∀ {U : Nat} {l : List Df} {dl : List Deferred}, U ≤ w.heap.size → DR σ ρ P H w B U l dl → DR σ ρ' P H' w' B U l dl
  | U, [], [], _, _ => trivial
  | U, .call g args :: l, d :: dl, hU, ⟨⟨fv, cap, h1, vs, h2, h3⟩, h4⟩ => ⟨⟨fv, cap, h1, vs, concs_mono h.ext _ _ h2, h3⟩, h4.step h hU⟩
  | U, .coll :: l, d :: dl, hU, ⟨D, h1, h2, h3, h4, h5, h6⟩ => ⟨D, h1, h2, h3, (h.keep D (by omega) h5).trans h4, fun i k p hi hk hp e => by
      obtain ⟨j, l', q, g1, g2, g3, g4⟩ := h.back i k p hi hk hp (by omega)
      exact h5 j l' q g1 g2 g3 (g4.trans e), h6.step h (by omega)⟩
  | _, [], _ :: _, _, e => e.elim
  | _, .call _ _ :: _, [], _, e => e.elim
  | _, .coll :: _, [], _, e => e.elim
theorem DR.put {σ : Nat → Value} {ρ : Place} {P : Program} {H : Heap} {w : World} {B D : Nat} {o : Obj} : ∀ {U : Nat} {l : List Df} {dl : List Deferred}, U ≤ D → DR σ ρ P H w B U l dl → DR σ ρ P H (w.putObj D o) B U l dl
  | U, [], [], _, _ => trivial
  | U, .call g args :: l, d :: dl, hU, ⟨h1, h2⟩ => ⟨h1, h2.put hU⟩
  | U, .coll :: l, d :: dl, hU, ⟨D', h1, h2, h3, h4, h5, h6⟩ => ⟨D', h1, h2, h3, (World.putObj_heap_other (by omega)).trans h4, h5, h6.put (by omega)⟩
  | _, [], _ :: _, _, e => e.elim
  | _, .call _ _ :: _, [], _, e => e.elim
  | _, .coll :: _, [], _, e => e.elim
theorem HR.putObj {σ : Nat → Value} {ρ : Place} {H : Heap} {w : World} {D : Nat} {o : Obj} (hr : HR σ ρ H w.heap) (h : ∀ i k p, i < H.next → H.get i = some k → ρ i = some p → p.b ≠ D) : HR σ ρ H (w.putObj D o).heap := by
  refine ⟨hr.small, hr.out, hr.fresh, fun i p hp => by rw [World.putObj_size]; exact hr.bound i p hp, fun i k hi hk => ?_, hr.inj⟩
  obtain ⟨p, h1, h2⟩ := hr.live i k hi hk
  exact ⟨p, h1, by rw [World.putObj_heap_other (h i k p hi hk h1)]; exact h2⟩
theorem Step.putObj {ρ0 ρ : Place} {H0 H : Heap} {w0 w : World} {D : Nat} {o : Obj} (h : Step ρ0 H0 w0 ρ H w) (hD : w0.heap.size ≤ D) : Step ρ0 H0 w0 ρ H (w.putObj D o) :=
  ⟨h.ext, by rw [World.putObj_size]; exact h.size, fun c hc hn => (World.putObj_heap_other (by omega)).trans (h.keep c hc hn), h.back, h.rest, h.more, h.same, h.dead, fun i k p c ty f hi hk hp hb => by
    obtain ⟨c1, h1⟩ := h.cells i k p c ty f hi hk hp hb
    have hlt := (Array.getElem?_eq_some_iff.1 hb).1
    exact ⟨c1, (World.putObj_heap_other (by omega)).trans h1⟩⟩

section
variable {σ : Nat → Value} {ρ : Place} {P : Program} {G : Nat → Option Nat} {L : Lore} {call : CallF} {fuel : Nat}

/-- A statement does what the run says. -/
def CodeOK (σ : Nat → Value) (P : Program) (G : Nat → Option Nat) (c : Code) (s : St) (e : Ex) (s' : St) : Prop :=
  ∀ (B : Nat) (ρ : Place) (a : Act) (w : World) (Q : Exit → Act → World → Prop), B ≤ w.heap.size → s.f.g = G → HR σ ρ s.H w.heap → FR σ ρ s.f a.tmps → DR σ ρ P s.H w B w.heap.size s.ds a.defers →
    (∀ ρ' a' w', HR σ ρ' s'.H w'.heap → Step ρ s.H w ρ' s'.H w' → FR σ ρ' s'.f a'.tmps → DR σ ρ' P s'.H w' B w'.heap.size s'.ds a'.defers → s'.f.g = G → Q e.out a' w') → c.wp P Q a w

theorem deferOf_spec : ∀ {l pre : List Oper} {o : Oper} {x : Operand} {args : List Operand}, deferOf l = some (pre, o, x, args) →
    l = pre ++ [o] ∧ ∃ as ts, o.op = .defer { callee := .value x, args := as, argTypes := ts } ∧ as.toList = args
  | [], pre, o, x, args, h => by cases h
  | [o1], pre, o, x, args, h => by
    unfold deferOf at h
    simp only at h
    split at h
    · rename_i ho
      cases h
      exact ⟨rfl, _, _, ho, rfl⟩
    · cases h
  | o1 :: o2 :: l, pre, o, x, args, h => by
    unfold deferOf at h
    simp only at h
    split at h
    · rename_i p r hr
      cases h
      obtain ⟨h1, h2⟩ := deferOf_spec hr
      exact ⟨by rw [h1]; rfl, h2⟩
    · cases h

theorem loopA_ok {c : Code} {g : St → Option (Ex × St)} (hg : ∀ s e s', g s = some (e, s') → CodeOK σ P G c s e s') : ∀ (n : Nat) (s : St) (e : Ex) (s' : St), loopA n g s = some (e, s') →
    ∀ (B : Nat) (ρ : Place) (a : Act) (w : World) (Q : Exit → Act → World → Prop), B ≤ w.heap.size → s.f.g = G → HR σ ρ s.H w.heap → FR σ ρ s.f a.tmps → DR σ ρ P s.H w B w.heap.size s.ds a.defers →
    (∀ ρ' a' w', HR σ ρ' s'.H w'.heap → Step ρ s.H w ρ' s'.H w' → FR σ ρ' s'.f a'.tmps → DR σ ρ' P s'.H w' B w'.heap.size s'.ds a'.defers → s'.f.g = G → Q e.out a' w') → Code.rounds P c Q n a w
  | 0, s, e, s', h => by cases h
  | n + 1, s, e, s', h => by
    intro B ρ a w Q hB hG hr hf hd hQ
    unfold loopA at h
    rw [rounds_succ]
    split at h
    · rename_i s1 hs1
      refine hg _ _ _ hs1 B ρ a w _ hB hG hr hf hd (fun ρ1 a1 w1 h1 h2 h3 h4 h5 => ?_)
      exact loopA_ok hg n s1 e s' h B ρ1 a1 w1 Q (Nat.le_trans hB h2.size) h5 h1 h3 h4 (fun ρ' a' w' g1 g2 g3 g4 g5 => hQ ρ' a' w' g1 (h2.trans g2) g3 g4 g5)
    · rename_i hne
      refine hg _ _ _ h B ρ a w _ hB hG hr hf hd (fun ρ1 a1 w1 h1 h2 h3 h4 h5 => ?_)
      have := hQ ρ1 a1 w1 h1 h2 h3 h4 h5
      cases e with
      | norm => exact (hne s' h).elim
      | exit id => exact this
      | ret => exact this

theorem codeA_ok (hm : P.follows .mixedOrders = true) (hs : ∀ i, (σ i).oneCell' = true) (hn : ∀ (g : Nat) (fn : Func), P.funcs[g]? = some fn → (fn.name == "runtime.NumGoroutine") = false) (hcall : CallsOK σ P G call)
    (hX : ∀ c s e s', L.X call c s = some (e, s') → CodeOK σ P G c s e s') : ∀ (c : Code) (s : St) (e : Ex) (s' : St), codeA P L call fuel c s = some (e, s') → CodeOK σ P G c s e s' := by
  intro c
  induction c with
  | skip =>
    intro s e s' h B ρ a w Q hB hG hr hf hd hQ
    cases h
    exact wp_skip (hQ ρ a w hr .refl hf hd hG)
  | label l =>
    intro s e s' h B ρ a w Q hB hG hr hf hd hQ
    cases h
    exact wp_label (hQ ρ a w hr .refl hf hd hG)
  | ret =>
    intro s e s' h B ρ a w Q hB hG hr hf hd hQ
    cases h
    exact wp_ret (hQ ρ a w hr .refl hf hd hG)
  | exit id =>
    intro s e s' h B ρ a w Q hB hG hr hf hd hQ
    cases h
    exact wp_exit (hQ ρ a w hr .refl hf hd hG)
  | seq x y ihx ihy =>
    intro s e s' h B ρ a w Q hB hG hr hf hd hQ
    unfold codeA at h
    refine wp_seq ?_
    split at h
    · rename_i s1 hs1
      refine ihx _ _ _ hs1 B ρ a w _ hB hG hr hf hd (fun ρ1 a1 w1 h1 h2 h3 h4 h5 => ?_)
      exact ihy _ _ _ h B ρ1 a1 w1 Q (Nat.le_trans hB h2.size) h5 h1 h3 h4 (fun ρ' a' w' g1 g2 g3 g4 g5 => hQ ρ' a' w' g1 (h2.trans g2) g3 g4 g5)
    · rename_i hne
      refine ihx _ _ _ h B ρ a w _ hB hG hr hf hd (fun ρ1 a1 w1 h1 h2 h3 h4 h5 => ?_)
      have := hQ ρ1 a1 w1 h1 h2 h3 h4 h5
      cases e with
      | norm => exact (hne s' h).elim
      | exit id => exact this
      | ret => exact this
  | cond c x y ihx ihy =>
    intro s e s' h B ρ a w Q hB hG hr hf hd hQ
    unfold codeA at h
    split at h
    · rename_i hv
      have := ev_conc hf hv
      simp only [conc, Option.some.injEq] at this
      exact wp_cond_true this.symm (ihx _ _ _ h B ρ a w Q hB hG hr hf hd hQ)
    · rename_i hv
      have := ev_conc hf hv
      simp only [conc, Option.some.injEq] at this
      exact wp_cond_false this.symm (ihy _ _ _ h B ρ a w Q hB hG hr hf hd hQ)
    · cases h
  | block id c ih =>
    intro s e s' h B ρ a w Q hB hG hr hf hd hQ
    unfold codeA at h
    refine wp_block ?_
    split at h
    · rename_i id' s1 hs1
      refine ih _ _ _ hs1 B ρ a w _ hB hG hr hf hd (fun ρ1 a1 w1 h1 h2 h3 h4 h5 => ?_)
      show if id' = id then Q .normal a1 w1 else Q (.exit id') a1 w1
      split at h
      · rename_i hb
        cases h
        rw [if_pos (Nat.eq_of_beq_eq_true hb)]
        exact hQ ρ1 a1 w1 h1 h2 h3 h4 h5
      · rename_i hb
        cases h
        rw [if_neg (Nat.ne_of_beq_eq_false hb)]
        exact hQ ρ1 a1 w1 h1 h2 h3 h4 h5
    · rename_i hne
      refine ih _ _ _ h B ρ a w _ hB hG hr hf hd (fun ρ1 a1 w1 h1 h2 h3 h4 h5 => ?_)
      have := hQ ρ1 a1 w1 h1 h2 h3 h4 h5
      cases e with
      | norm => exact this
      | exit id => exact (hne id s' h).elim
      | ret => exact this
  | loop c ih =>
    intro s e s' h B ρ a w Q hB hG hr hf hd hQ
    unfold codeA at h
    exact wp_loop_rounds fuel (loopA_ok ih fuel s e s' h B ρ a w Q hB hG hr hf hd hQ)
  | region id ops draw =>
    intro s e s' h B ρ a w Q hB hG hr hf hd hQ
    unfold codeA at h
    split at h
    · refine wp_region ?_
      split at h
      · split at h
        · rename_i f2 H2 hseq
          cases h
          have := seqA_wp (Q := Q) hs hcall (ops := ops) (rest := []) ops.toList 0 s.f s.H ρ a w (fun i o h => by rw [Nat.zero_add]; simpa using h) hr hf hG hseq (fun ρ' a' w' h1 h2 h3 h4 h5 => hQ ρ' a' w' h1 h2 h3 (h5 ▸ (hd.step h2 (Nat.le_refl _)).up h2.size) h4)
          rw [List.append_nil, Array.length_toList] at this
          rw [List.range_eq_range']
          exact this
        · cases h
      · rename_i pre o x args hdf
        obtain ⟨d1, as, ts, d2, d3⟩ := deferOf_spec hdf
        split at h
        · rename_i f2 H2 hseq
          split at h
          · rename_i g first captured l f3 hw hx hl hput
            split at h
            · rename_i hent
              cases h
              have hsize : ops.size = pre.length + 1 := by
                rw [← Array.length_toList, d1]; simp
              have hget : ops[pre.length]? = some o := by
                rw [← Array.getElem?_toList, d1]; simp
              have := seqA_wp (Q := Q) hs hcall (ops := ops) (rest := [pre.length]) pre 0 s.f s.H ρ a w (fun i o' h => by
                rw [Nat.zero_add, ← Array.getElem?_toList, d1, List.getElem?_append_left (List.getElem?_eq_some_iff.1 h).1]; exact h) hr hf hG hseq (fun ρ' a' w' h1 h2 h3 h4 h5 => by
                show wpOps P ops Q (pre.length :: []) a' w'
                rw [wpOps_cons]
                unfold wpOp
                simp only [hget]
                rw [if_pos (wantA_ok h3 hw)]
                refine .inl ?_
                have hev := h3.ev (a := a') o.op.operands.toList
                obtain ⟨p, q, hp, hq, he⟩ := conc_fn (hev.one (by simp [d2, Op.operands, Call.operands]) hx)
                have hal := evs_conc hev (l := args) (fun y hy => by rw [← d3] at hy; simp only [d2, Op.operands, Call.operands]; simpa using .inr (Array.mem_toList_iff.1 hy)) hl
                have hents : Enters P g := by
                  unfold entersA at hent
                  split at hent
                  · rename_i fn hfn
                    exact ⟨fn, hfn, by simpa using hent, hn g fn hfn⟩
                  · cases hent
                unfold Oper.wp
                have hres : (execOp a'.eval o).run P w' = .ok (.defer { target := .fn (.func g) q.toArray, args := p.toArray ++ as.map a'.eval }) w' := by
                  simp [execOp, d2, resolve, he, Deferred.ofValue]
                rw [hres, Oper.upon_defer]
                show Q .normal _ _
                have hfr : FR σ ρ' f3 (({ a' with defers := { target := .fn (.func g) q.toArray, args := p.toArray ++ as.map a'.eval } :: a'.defers } : Act).put o.dst undef).tmps :=
                  FR.put (a := { a' with defers := { target := .fn (.func g) q.toArray, args := p.toArray ++ as.map a'.eval } :: a'.defers }) h3 hput rfl
                have hg3 : f3.g = f2.g := (put_same hput).2.1
                have hdd : (({ a' with defers := { target := .fn (.func g) q.toArray, args := p.toArray ++ as.map a'.eval } :: a'.defers } : Act).put o.dst undef).defers = { target := .fn (.func g) q.toArray, args := p.toArray ++ as.map a'.eval } :: a'.defers := by cases o.dst <;> rfl
                refine hQ ρ' _ w' h1 h2 hfr ?_ (hg3.trans h4)
                rw [hdd]
                refine ⟨⟨_, _, rfl, p ++ (args.map a'.eval ++ q), concs_append hp (concs_append hal hq), hents, fun w'' => ?_⟩, h5 ▸ (hd.step h2 (Nat.le_refl _)).up h2.size⟩
                show (callFunc g _).run P w'' = _
                rw [callFunc_run hents]
                congr 2
                apply Array.ext'
                simp [← d3])
              rw [List.range_eq_range', hsize, List.range'_1_concat]
              simpa using this
            · cases h
          · cases h
        · cases h
    · split at h
      · rename_i f2 H2 hdr
        cases h
        exact drawA_wp hm hs hcall hr hf hG hdr (fun ρ' a' w' h1 h2 h3 h4 h5 => hQ ρ' a' w' h1 h2 h3 (h5 ▸ (hd.step h2 (Nat.le_refl _)).up h2.size) h4)
      · cases h
  | _ =>
    intro s e s' h
    exact hX _ _ _ _ h

/-- Deferred functions that are known. -/
def DefersOK (σ : Nat → Value) (P : Program) (G : Nat → Option Nat) (D : FuncId → Option (List AV → Heap → Option Heap)) : Prop :=
  ∀ g d args H H', D g = some d → d args H = some H' → ∀ (n : Nat) (ρ : Place) (w : World) (argv : List Value), HR σ ρ H w.heap → GOK G ρ → concs σ ρ args = some argv →
    CallsDIn Fence.wide n P g argv.toArray .returning w fun e u' w' => (∃ v', e = .returned v') ∧ u' = .returning ∧ ∃ ρ', HR σ ρ' H' w'.heap ∧ Step ρ H w ρ' H' w'

theorem leaveA_ok (hD : DefersOK σ P G L.D) {n : Nat} {fn : Func} {tmps : Array Value} {R : Ending → World → Prop} {ρ0 : Place} {H0 : Heap} {w0 : World} : ∀ (ds : List Df) (dl : List Deferred) (U : Nat) (H H' : Heap) (ρ : Place) (w : World), leaveA L ds H = some H' →
    DR σ ρ P H w w0.heap.size U ds dl → U ≤ w.heap.size → HR σ ρ H w.heap → GOK G ρ → Step ρ0 H0 w0 ρ H w →
    (∀ ρ' w', ρ.le ρ' → HR σ ρ' H' w'.heap → Step ρ0 H0 w0 ρ' H' w' → ∃ v, (results fn tmps).run P w' = .ok v w' ∧ R (.returned v) w') → LeavesInM Fence.wide n P fn tmps R dl .returning w
  | [], [], U, H, H', ρ, w, h, _, _, hr, _, hst, hk => by
    cases h
    exact hk ρ w (.refl _) hr hst
  | [], _ :: _, _, _, _, _, _, _, hd, _, _, _, _, _ => hd.elim
  | .call _ _ :: _, [], _, _, _, _, _, _, hd, _, _, _, _, _ => hd.elim
  | .coll :: _, [], _, _, _, _, _, _, hd, _, _, _, _, _ => hd.elim
  | .call g args :: ds, d :: dl, U, H, H', ρ, w, h, hd, hU, hr, hG, hst, hk => by
    obtain ⟨⟨fv, cap, h1, vs, h2, h3, h4⟩, h5⟩ := hd
    unfold leaveA at h
    split at h
    · rename_i dd hdd
      split at h
      · rename_i H1 hH1
        refine ⟨by simp, .inr ⟨fun h => by simp [Fence.wide] at h, fv, cap, g, vs.toArray, h1, h4 w, fun _ _ => trivial, ?_⟩⟩
        refine (hD g dd args H H1 hdd hH1 (n - 1) ρ w vs hr hG h2).mono ?_
        rintro e u' w' ⟨⟨v', rfl⟩, rfl, ρ1, g1, g2⟩
        show LeavesInM Fence.wide n P fn tmps R dl (settle .returning) w'
        exact leaveA_ok hD ds dl U H1 H' ρ1 w' h (h5.step g2 hU) (Nat.le_trans hU g2.size) g1 (hG.mono g2.ext) (hst.trans g2) (fun ρ' w'' k0 k1 k2 => hk ρ' w'' (g2.ext.trans k0) k1 k2)
      · cases h
    · cases h
  | .coll :: ds, d :: dl, U, H, H', ρ, w, h, hd, hU, hr, hG, hst, hk => by
    obtain ⟨D, rfl, h2, h3, h4, h5, h6⟩ := hd
    unfold leaveA at h
    refine ⟨by simp, .inl ⟨D, _, rfl, run_takeDeferred h4, ?_⟩⟩
    exact leaveA_ok hD ds dl D H H' ρ (w.putObj D (.deferred none)) h (h6.put (Nat.le_refl _)) (by rw [World.putObj_size]; omega) (hr.putObj h5) hG (hst.putObj h2) hk

theorem resA_run {f : Fr} {H : Heap} {a : Act} {w : World} (hr : HR σ ρ H w.heap) (hf : FR σ ρ f a.tmps) : ∀ (l : List ResultVar) (vs : List AV), resA P f H l = some vs → ∃ xs, concs σ ρ vs = some xs ∧
    (l.mapM (m := Sem) fun
      | .tmp t => pure (a.tmps.getD t undef)
      | .cell x t => do loadVar t (← asAddr (a.tmps.getD x undef))).run P w = .ok xs w
  | [], vs, h => by
    cases h
    exact ⟨[], rfl, by simp⟩
  | .tmp t :: l, vs, h => by
    unfold resA at h
    split at h
    · rename_i v vs' hv hvs
      cases h
      obtain ⟨xs, h1, h2⟩ := resA_run hr hf l vs' hvs
      have hc := hf.get hv
      refine ⟨a.tmps.getD t undef :: xs, by simp only [concs, hc, h1], ?_⟩
      rw [List.mapM_cons]
      dsimp only
      rw [bind_ok (Sem.run_pure P w (a.tmps.getD t undef)), bind_ok h2]
      rfl
    · cases h
  | .cell x t :: l, vs, h => by
    unfold resA at h
    split at h
    · rename_i id off hx
      split at h
      · rename_i v vs' hv hvs
        cases h
        obtain ⟨xs, h1, h2⟩ := resA_run hr hf l vs' hvs
        obtain ⟨p, hp, he⟩ := conc_ptr (hf.get hx)
        obtain ⟨v', h3, h4⟩ := loadVar_run (P := P) hr hp hv
        refine ⟨v' :: xs, by simp [concs, h4, h1], ?_⟩
        have hA : (asAddr (a.tmps.getD x undef)).run P w = .ok ⟨p.b, p.o + off, none⟩ w := by rw [he]; rfl
        rw [List.mapM_cons]
        dsimp only
        rw [bind_ok (by rw [bind_ok hA]; exact h3), bind_ok h2]
        rfl
      · cases h
    · cases h

theorem bodyA_ok (hm : P.follows .mixedOrders = true) (hs : ∀ i, (σ i).oneCell' = true) (hn : ∀ (g : Nat) (fn : Func), P.funcs[g]? = some fn → (fn.name == "runtime.NumGoroutine") = false) (hcall : CallsOK σ P G call)
    (hX : ∀ c s e s', L.X call c s = some (e, s') → CodeOK σ P G c s e s') (hD : DefersOK σ P G L.D) {g : FuncId} {fn : Func} (hfn : P.funcs[g]? = some fn) {args : List AV} {H H' : Heap} {r : AV}
    (h : bodyA P G L call fuel fn args H = some (r, H')) : CallOK σ P G g args H r H' := by
  unfold bodyA at h
  split at h
  case h_2 => cases h
  rename_i c hc hsz
  rw [Bool.and_eq_true] at hsz
  have hsz1 := Nat.le_of_ble_eq_true hsz.1
  have hsz2 := Nat.le_of_ble_eq_true hsz.2
  refine .inl ⟨⟨fn, hfn, by rw [hc]; rfl, hn g fn hfn⟩, fun ρ w argv hr hG ha => ?_⟩
  have hlen := concs_length ha
  refine (callsIn_wide (n := 0)).1 (callsIn_of_wp_marks hfn hc trivial (wpIn_wide.2 ?_) rfl)
  have hf0 : FR σ ρ ⟨T.lay 9 (.leaf undefA) 0 args, fn.ntmps, G⟩ (argv.toArray ++ Array.replicate (fn.ntmps - argv.toArray.size) undef) := by
    refine ⟨hsz2, by simp; omega, fun i hi => ?_, hG⟩
    have hi : i < fn.ntmps := hi
    by_cases hlt : i < args.length
    · have h1 := T.get_lay_in (d := 9) args (.leaf undefA) 0 i (by omega) (Nat.zero_le _) (by omega)
      rw [Nat.sub_zero] at h1
      obtain ⟨v, h2, h3⟩ := concs_get ha h1
      refine ⟨v, ?_, h3⟩
      rw [Array.getElem?_append_left (by simp; omega)]
      simpa using h2
    · have h1 := T.get_lay_out (d := 9) args (.leaf undefA) 0 i (by omega) (by omega) (by omega)
      refine ⟨undef, ?_, ?_⟩
      · rw [Array.getElem?_append_right (by simp; omega)]
        have hi2 : i - argv.toArray.size < fn.ntmps - argv.toArray.size := by simp; omega
        rw [Array.getElem?_replicate, if_pos hi2]
      · show conc σ ρ ((T.lay 9 (.leaf undefA) 0 args).get i) = _
        rw [h1]; rfl
  -- behind the body
  have post : ∀ (e : Ex) (s : St), (match leaveA L s.ds s.H with
      | some H' => match resA P s.f H' fn.results.toList with
        | some [v] => some (v, H')
        | some l => some (.tup l, H')
        | none => none
      | none => none) = some (r, H') → (e = .norm ∨ e = .ret) → ∀ ρ' a' w', HR σ ρ' s.H w'.heap → Step ρ H w ρ' s.H w' → FR σ ρ' s.f a'.tmps → DR σ ρ' P s.H w' w.heap.size w'.heap.size s.ds a'.defers → s.f.g = G →
      bodyPostM Fence.wide 0 P fn (fun e w' => ∃ ρ' v', e = .returned v' ∧ conc σ ρ' r = some v' ∧ HR σ ρ' H' w'.heap ∧ Step ρ H w ρ' H' w') e.out a' w' := by
    intro e s h he ρ' a' w' h1 h2 h3 h4 h5
    have : LeavesInM Fence.wide 0 P fn a'.tmps (fun e w' => ∃ ρ' v', e = .returned v' ∧ conc σ ρ' r = some v' ∧ HR σ ρ' H' w'.heap ∧ Step ρ H w ρ' H' w') a'.defers .returning w' := by
      split at h
      · rename_i H1 hH1
        refine leaveA_ok hD s.ds a'.defers w'.heap.size s.H H1 ρ' w' hH1 h4 (Nat.le_refl _) h1 (hG.mono h2.ext) h2 (fun ρ2 w2 k0 k1 k2 => ?_)
        have hf2 := h3.mono k0
        have hmap : ∀ (xs : List Value), (fn.results.toList.mapM (m := Sem) fun
            | .tmp t => pure (a'.tmps.getD t undef)
            | .cell x t => do loadVar t (← asAddr (a'.tmps.getD x undef))).run P w2 = .ok xs w2 → (results fn a'.tmps).run P w2 = .ok (if h : xs.toArray.size = 1 then xs.toArray[0] else .tuple xs.toArray) w2 := fun xs hxs => by
          unfold results
          rw [Array.mapM_eq_mapM_toList]
          refine (bind_ok (a := xs.toArray) (w1 := w2) ?_).trans rfl
          show ((_ : Sem (List Value)) >>= fun l => pure (List.toArray l)).run P w2 = _
          exact bind_ok (f := fun l => pure (List.toArray l)) hxs
        split at h
        · rename_i v hv
          cases h
          obtain ⟨xs, g1, g2⟩ := resA_run k1 hf2 _ _ hv
          have hl := concs_length g1
          match xs, g1, g2, hl with
          | [x], g1, g2, _ =>
            have := hmap _ g2
            simp only [concs] at g1
            refine ⟨x, this, ρ2, x, rfl, ?_, k1, k2⟩
            cases hx : conc σ ρ2 r with
            | none => rw [hx] at g1; cases g1
            | some y => rw [hx] at g1; cases g1; rfl
        · rename_i l hne hv
          cases h
          obtain ⟨xs, g1, g2⟩ := resA_run k1 hf2 _ _ hv
          have hl := concs_length g1
          have := hmap _ g2
          rw [dif_neg] at this
          · exact ⟨_, this, ρ2, _, rfl, by simp [conc, g1], k1, k2⟩
          · intro h1
            have h1 : xs.length = 1 := by simpa using h1
            match l, hl, hne with
            | [y], _, hne => exact hne y rfl
            | [], hl, _ => rw [h1] at hl; cases hl
            | _ :: _ :: _, hl, _ => rw [h1] at hl; simp at hl
        · cases h
      · cases h
    rcases he with rfl | rfl
    · exact this
    · exact this
  split at h
  · cases h
  · rename_i e s hne hcode
    refine codeA_ok hm hs hn hcall hX c _ e s hcode w.heap.size ρ _ w _ (Nat.le_refl _) rfl hr hf0 trivial (post e s h ?_)
    cases e with
    | norm => exact .inl rfl
    | ret => exact .inr rfl
    | exit id => exact (hne id rfl).elim
  · cases h

/-- Of functions that are known. -/
def LoreOK (σ : Nat → Value) (P : Program) (G : Nat → Option Nat) (L : Lore) : Prop :=
  (∀ g s args H r H', L.K g args = some s → s H = some (r, H') → CallOK σ P G g args H r H') ∧
  (∀ call, CallsOK σ P G call → ∀ c s e s', L.X call c s = some (e, s') → CodeOK σ P G c s e s') ∧ DefersOK σ P G L.D

theorem callA_ok (hm : P.follows .mixedOrders = true) (hs : ∀ i, (σ i).oneCell' = true) (hn : ∀ (g : Nat) (fn : Func), P.funcs[g]? = some fn → (fn.name == "runtime.NumGoroutine") = false) (hL : LoreOK σ P G L) : ∀ n, CallsOK σ P G (callA P G L fuel n)
  | 0 => fun g args H r H' h => by cases h
  | n + 1 => fun g args H r H' h => by
    have ih := callA_ok hm hs hn hL n
    unfold callA at h
    split at h
    · rename_i s hs'
      exact hL.1 g s args H r H' hs' h
    · split at h
      · rename_i fn hfn
        exact bodyA_ok hm hs hn ih (hL.2.1 _ ih) hL.2.2 hfn h
      · cases h
end
end Ev
end Go.Proofs.YtpppaheennkkpaaGreatDoor
