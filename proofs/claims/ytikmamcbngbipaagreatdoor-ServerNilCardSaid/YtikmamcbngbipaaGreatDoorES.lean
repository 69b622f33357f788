/- Operations that turn memory; calls; rows of operations. -/
import Derived.Test.YtikmamcbngbipaaGreatDoorER
namespace Go.Proofs.YtikmamcbngbipaaGreatDoor
namespace Ev

section
variable {σ : Nat → Value} {ρ : Place} {P : Program} {G : Nat → Option Nat} {H H' : Heap} {w : World}

def GOK (G : Nat → Option Nat) (ρ : Place) : Prop := ∀ g id, G g = some id → ∃ n, ρ id = some ⟨g, 0, n⟩
theorem GOK.mono {ρ' : Place} (h : GOK G ρ) (e : ρ.le ρ') : GOK G ρ' := fun g id hg => let ⟨n, hn⟩ := h g id hg; ⟨n, e _ _ hn⟩

/-- May the function be entered? -/
def Enters (P : Program) (g : FuncId) : Prop := ∃ fn, P.funcs[g]? = some fn ∧ fn.body.isNone = false ∧ (fn.name == "runtime.NumGoroutine") = false
/-- The call comes to what the run says. -/
def CallOK (σ : Nat → Value) (P : Program) (G : Nat → Option Nat) (g : FuncId) (args : List AV) (H : Heap) (r : AV) (H' : Heap) : Prop :=
  Enters P g ∧ ∀ (ρ : Place) (w : World) (argv : List Value), HR σ ρ H w.heap → GOK G ρ → concs σ ρ args = some argv →
    Calls P g argv.toArray w fun e w' => ∃ ρ' v', e = .returned v' ∧ conc σ ρ' r = some v' ∧ HR σ ρ' H' w'.heap ∧ Step ρ H w ρ' H' w'
def CallsOK (σ : Nat → Value) (P : Program) (G : Nat → Option Nat) (call : FuncId → List AV → Heap → Option (AV × Heap)) : Prop :=
  ∀ g args H r H', call g args H = some (r, H') → CallOK σ P G g args H r H'

theorem callFunc_run {g : FuncId} (h : Enters P g) (args : Array Value) (w : World) : (callFunc g args).run P w = .ok (.enter g args) w := by
  obtain ⟨fn, h1, h2, h3⟩ := h
  have h2' : ¬ fn.body.isNone = true := by rw [h2]; simp
  have h3' : ¬ (fn.name == "runtime.NumGoroutine") = true := by rw [h3]; simp
  unfold callFunc
  rw [bind_ok (run_program P w)]
  simp only [h1]
  rw [if_neg h3', if_neg h2']
  rfl

theorem methodA_run {t : TypeId} {v : AV} {name : String} {g : FuncId} {recv : AV} {v' : Value} (h : methodA P t v name = some (g, recv)) (hv : conc σ ρ v = some v') (n : Nat) (w : World) :
    ∃ r', (method (n + 1) t v' name).run P w = .ok (g, r') w ∧ conc σ ρ recv = some r' := by
  unfold methodA at h
  split at h
  · rename_i i hi
    split at h
    · rename_i m hm
      split at h
      · rename_i g' e hp hf hu
        cases h
        refine ⟨v', ?_, hv⟩
        have hp' : m.path.toList = [] := hp
        simp [method, run_info hi, hm, hp', follow, hf, receiverAt, run_und hu, Place.get]
      · cases h
      · rename_i g' D hne hp hf hu
        cases h
        refine ⟨v', ?_, hv⟩
        have hp' : m.path.toList = [] := hp
        cases D <;> first | (exact (hne _ rfl).elim) | simp [method, run_info hi, hm, hp', follow, hf, receiverAt, run_und hu, Place.get]
      · cases h
    · cases h
  · cases h

theorem wp_of_leaves {o : Oper} {a : Act} {s : Sem Value} {v : AV} {next : Act → World → Prop} {Q : Exit → Act → World → Prop} (he : execOp a.eval o = (do pure (.value (← s)))) (h : Leaves σ ρ P H H' w s v)
    (hk : ∀ ρ' v' w', HR σ ρ' H' w'.heap → Step ρ H w ρ' H' w' → conc σ ρ' v = some v' → next (a.put o.dst v') w') : o.wp P a w next Q := by
  obtain ⟨ρ', v', w', h1, h2, h3, h4⟩ := h
  unfold Oper.wp
  rw [he, bind_ok h1]
  exact hk ρ' v' w' h2 h3 h4

theorem wp_of_call {o : Oper} {a : Act} {next : Act → World → Prop} {Q : Exit → Act → World → Prop} {g : FuncId} {args : List AV} {argv : List Value} {r : AV} (he : (execOp a.eval o).run P w = .ok (.enter g argv.toArray) w)
    (h : CallOK σ P G g args H r H') (hr : HR σ ρ H w.heap) (hG : GOK G ρ) (ha : concs σ ρ args = some argv)
    (hk : ∀ ρ' v' w', HR σ ρ' H' w'.heap → Step ρ H w ρ' H' w' → conc σ ρ' r = some v' → next (a.put o.dst v') w') : o.wp P a w next Q := by
  unfold Oper.wp
  rw [he]
  refine (h.2 ρ w argv hr hG ha).mono ?_
  rintro e w' ⟨ρ', v', rfl, h1, h2, h3⟩
  exact hk ρ' v' w' h2 h3 h1

theorem aop_wp (hs : ∀ i, (σ i).oneCell' = true) {call : FuncId → List AV → Heap → Option (AV × Heap)} (hcall : CallsOK σ P G call) (hr : HR σ ρ H w.heap) {f : Fr} {a : Act} {o : Oper} {v : AV} (hf : EV σ ρ f a o.op.operands.toList) (hgok : GOK G ρ)
    (h : aop P call f o H = some (v, H')) {next : Act → World → Prop} {Q : Exit → Act → World → Prop}
    (hk : ∀ ρ' v' w', HR σ ρ' H' w'.heap → Step ρ H w ρ' H' w' → conc σ ρ' v = some v' → next (a.put o.dst v') w') : o.wp P a w next Q := by
  unfold aop at h
  split at h
  · -- store
    rename_i t x y ho
    split at h
    · rename_i id off u hx hy
      split at h
      · rename_i s hsz
        split at h
        · rename_i H1 hl hst
          cases h
          have hl := Nat.eq_of_beq_eq_true hl
          obtain ⟨p, hp, he⟩ := conc_ptr (hf.one (by simp [ho, Op.operands]) hx)
          have hy := hf.one (by simp [ho, Op.operands]) hy
          have hc := concs_cells hy hs
          obtain ⟨s1, s2, s3⟩ := stores_run (P := P) hs hr hp hst hc
          have hrun : (execOp a.eval o).run P w = .ok .skip (w.setCells p.b (p.o + off) (a.eval y).cells.toList) := by
            have hsize : ¬ (a.eval y).cells.size ≠ s := by
              have := cells_size hy hs; simp; omega
            simp only [execOp, ho, Instr.storeAt, he, Instr.sureAddr, Sem.run_bind, Sem.run_pure, Result.andThen_ok, storeVar, run_size hsz, if_neg hsize, s1]
          unfold Oper.wp
          rw [hrun]
          exact hk ρ undef _ s2 s3 rfl
        · cases h
      · cases h
    · cases h
  · -- mapUpdate
    rename_i t m k x ho
    split at h
    · rename_i m' k' x' hm hkk hx
      split at h
      · rename_i H1 hst
        cases h
        obtain ⟨w', s1, s2, s3⟩ := mapSet_run (P := P) hr hst (hf.one (by simp [ho, Op.operands]) hm) (hf.one (by simp [ho, Op.operands]) hkk) (hf.one (by simp [ho, Op.operands]) hx)
        have hrun : (execOp a.eval o).run P w = .ok .skip w' := by simp [execOp, ho, s1]
        unfold Oper.wp
        rw [hrun]
        exact hk ρ undef _ s2 s3 rfl
      · cases h
    · cases h
  · -- append
    rename_i args argTypes ho
    split at h
    · rename_i s x t u hargs hts
      split at h
      · rename_i s' x' hs' hx'
        have ha : args = #[s, x] := by rw [← Array.toArray_toList (xs := args), hargs]
        have ht : argTypes = #[t, u] := by rw [← Array.toArray_toList (xs := argTypes), hts]
        refine wp_of_leaves (s := Builtin.append_ #[t, u] o.type #[a.eval s, a.eval x]) ?_ (appendA_run hs hr h (hf.one (by simp [ho, Op.operands, Call.operands, hargs]) hs') (hf.one (by simp [ho, Op.operands, Call.operands, hargs]) hx')) hk
        simp [execOp, ho, resolve, ha, ht, invoke, builtin]
      · cases h
    · cases h
  · -- copy
    rename_i args argTypes ho
    split at h
    · rename_i d x t ts hargs hts
      split at h
      · rename_i d' x' hd' hx'
        have ha : args = #[d, x] := by rw [← Array.toArray_toList (xs := args), hargs]
        have ht : argTypes[0]? = some t := by
          have : argTypes = (t :: ts).toArray := by rw [← hts]
          rw [this]; rfl
        refine wp_of_leaves (s := Builtin.copy_ argTypes o.type #[a.eval d, a.eval x]) ?_ (copyA_run hs hr ht h (hf.one (by simp [ho, Op.operands, Call.operands, hargs]) hd') (hf.one (by simp [ho, Op.operands, Call.operands, hargs]) hx')) hk
        simp [execOp, ho, resolve, ha, invoke, builtin]
      · cases h
    · cases h
  · -- clear
    rename_i args argTypes ho
    split at h
    · rename_i x t ts hargs hts
      split at h
      · rename_i x' hx'
        split at h
        · rename_i H1 hst
          cases h
          have ha : args = #[x] := by rw [← Array.toArray_toList (xs := args), hargs]
          have ht : argTypes[0]? = some t := by
            have : argTypes = (t :: ts).toArray := by rw [← hts]
            rw [this]; rfl
          refine wp_of_leaves (s := Builtin.clear_ argTypes o.type #[a.eval x]) ?_ (clearA_run hs hr ht hst (hf.one (by simp [ho, Op.operands, Call.operands, hargs]) hx')) hk
          simp [execOp, ho, resolve, ha, invoke, builtin]
        · cases h
      · cases h
    · cases h
  · -- delete
    rename_i args argTypes ho
    split at h
    · rename_i m k t ts hargs hts
      split at h
      · rename_i m' k' hm' hk'
        split at h
        · rename_i H1 hst
          cases h
          have ha : args = #[m, k] := by rw [← Array.toArray_toList (xs := args), hargs]
          have ht : argTypes[0]? = some t := by
            have : argTypes = (t :: ts).toArray := by rw [← hts]
            rw [this]; rfl
          refine wp_of_leaves (s := Builtin.delete_ argTypes o.type #[a.eval m, a.eval k]) ?_ (mapDel_run hr ht hst (hf.one (by simp [ho, Op.operands, Call.operands, hargs]) hm') (hf.one (by simp [ho, Op.operands, Call.operands, hargs]) hk')) hk
          simp [execOp, ho, resolve, ha, invoke, builtin]
        · cases h
      · cases h
    · cases h
  · -- a call of a value
    rename_i x args argTypes ho
    split at h
    · rename_i g first captured l hx hl
      obtain ⟨p, q, hp, hq, he⟩ := conc_fn (hf.one (by simp [ho, Op.operands, Call.operands]) hx)
      have hal := evs_conc hf (fun y hy => by simp only [ho, Op.operands, Call.operands]; simpa using .inr (Array.mem_toList_iff.1 hy)) hl
      have hc := hcall _ _ _ _ _ h
      refine wp_of_call (argv := p ++ (args.toList.map a.eval ++ q)) ?_ hc hr hgok (concs_append hp (concs_append hal hq)) hk
      have h1 : (execOp a.eval o) = (do let d ← resolve a.eval { callee := .value x, args, argTypes } o.type; invoke d.target d.args) := by simp [execOp, ho]
      rw [h1]
      have h2 : (resolve a.eval { callee := .value x, args, argTypes } o.type).run P w = .ok { target := .fn (.func g) q.toArray, args := p.toArray ++ args.map a.eval } w := by
        simp [resolve, he, Deferred.ofValue]
      rw [bind_ok h2]
      show (callFunc g _).run P w = _
      rw [callFunc_run hc.1]
      congr 2
      apply Array.ext'
      simp
    · cases h
  · -- a call of a method
    rename_i r name args argTypes ho
    split at h
    · rename_i t u l hx hl
      split at h
      · rename_i g recv hm
        obtain ⟨y, hy, he⟩ := conc_iface (hf.one (by simp [ho, Op.operands, Call.operands]) hx)
        have hal := evs_conc hf (fun y hy => by simp only [ho, Op.operands, Call.operands]; simpa using .inr (Array.mem_toList_iff.1 hy)) hl
        have hc := hcall _ _ _ _ _ h
        have hd : ∃ n, P.types.size + Made.depth = n + 1 := ⟨P.types.size + Made.depth - 1, by unfold Made.depth; omega⟩
        obtain ⟨n, hn⟩ := hd
        obtain ⟨r', m1, m2⟩ := methodA_run hm hy n w
        refine wp_of_call (args := recv :: l) (argv := r' :: args.toList.map a.eval) ?_ hc hr hgok (by simp [concs, m2, hal]) hk
        have h1 : (execOp a.eval o) = (do let d ← resolve a.eval { callee := .invoke r name, args, argTypes } o.type; invoke d.target d.args) := by simp [execOp, ho]
        rw [h1]
        have h2 : (resolve a.eval { callee := .invoke r name, args, argTypes } o.type).run P w = .ok { target := .fn (.method name) #[], args := #[a.eval r] ++ args.map a.eval } w := by
          simp [resolve]
        rw [bind_ok h2]
        have h3 : invoke (.fn (.method name) #[]) (#[a.eval r] ++ args.map a.eval) = callMethod (.iface t y) name (args.map a.eval) := by
          have e0 : (#[a.eval r] ++ args.map a.eval)[0]? = some (a.eval r) := by
            rw [Array.getElem?_append_left (by simp)]; rfl
          have e1 : (#[a.eval r] ++ args.map a.eval).extract 1 (#[a.eval r] ++ args.map a.eval).size = args.map a.eval := by
            apply Array.ext'
            simp
            exact List.take_of_length_le (by simp)
          unfold invoke
          simp only [e0, e1]
          rw [he]
        show (invoke (.fn (.method name) #[]) (#[a.eval r] ++ args.map a.eval)).run P w = _
        rw [h3]
        unfold callMethod
        dsimp only
        rw [bind_ok (run_program P w), hn, bind_ok m1]
        dsimp only
        rw [callFunc_run hc.1]
        congr 2
        apply Array.ext'
        simp
      · cases h
    · cases h
  · -- a row marked
    rename_i src dst x ho
    split at h
    · rename_i u hu
      exact wp_of_leaves (s := Go.convert src dst (a.eval x)) (by simp [execOp, ho]) (markA_run hr h (hf.one (by simp [ho, Op.operands]) hu)) hk
    · cases h
  · cases h

theorem wantA_ok {f : Fr} {a : Act} {ops : Array Oper} {o : Oper} {b : Bool} (hf : FR σ ρ f a.tmps) (h : wantA f ops o = some b) : Region.wanted o (yielded ops a.tmps) = b := by
  unfold wantA at h
  unfold Region.wanted
  split at h
  · rename_i hg
    cases h
    simp [hg]
  · rename_i j want hg
    simp only [hg]
    split at h
    · rename_i g hj
      split at h
      · rename_i d hd
        have hy : ∀ x, a.tmps[d]? = some x → yielded ops a.tmps j = match x with
            | .bool b => some b
            | _ => none := fun x hx => by
          unfold yielded
          simp only [hj, hd, hx, Option.bind_some]
          cases x <;> rfl
        have hget : ∀ v, f.get d = some v → ∃ x, a.tmps[d]? = some x ∧ conc σ ρ v = some x := fun v hv => by
          unfold Fr.get at hv
          split at hv
          · rename_i hlt
            cases hv
            exact hf.2.2.1 d (bl hlt)
          · cases hv
        split at h
        · rename_i b' hb'
          cases h
          obtain ⟨x, h1, h2⟩ := hget _ hb'
          simp only [conc, Option.some.injEq] at h2
          subst h2
          rw [hy _ h1]
          simp
        · rename_i l hl
          cases h
          obtain ⟨x, h1, h2⟩ := hget _ hl
          obtain ⟨y, _, rfl⟩ := conc_tup h2
          rw [hy _ h1]
          simp
        · cases h
      · cases h
    · cases h

/-- An operation that turns nothing, as the walk meets it. -/
theorem wp_val {a : Act} {o : Oper} {v : AV} (h : FOK σ ρ P a o w (.val v)) {next : Act → World → Prop} {Q : Exit → Act → World → Prop} (hk : ∀ v', conc σ ρ v = some v' → next (a.put o.dst v') w) : o.wp P a w next Q := by
  obtain ⟨v', h1, h2⟩ := h
  unfold Oper.wp
  rw [h1]
  exact hk v' h2
theorem wp_new {a : Act} {o : Oper} {k : ABlk} {n : Nat} {g : Nat → AV} (hr : HR σ ρ H w.heap) (hn : H.next < 65536) (h : FOK σ ρ P a o w (.new k n g)) {next : Act → World → Prop} {Q : Exit → Act → World → Prop}
    (hk : ∀ ρ' v' w', HR σ ρ' (H.add k) w'.heap → Step ρ H w ρ' (H.add k) w' → conc σ ρ' (g H.next) = some v' → next (a.put o.dst v') w') : o.wp P a w next Q := by
  obtain ⟨v', w', x, N, h1, h2, h3, h4⟩ := h
  obtain ⟨hb, hv⟩ := h4 H.next (hr.fresh _ (Nat.le_refl _))
  unfold Oper.wp
  rw [h1]
  refine hk _ v' w' ?_ (Step.new hr hn rfl rfl h2 h3) hv
  rw [h2]
  exact HR.new hr hn rfl hb

/-- Operations one behind the other. -/
theorem seqA_wp (hs : ∀ i, (σ i).oneCell' = true) {call : FuncId → List AV → Heap → Option (AV × Heap)} (hcall : CallsOK σ P G call) {ops : Array Oper} {rest : List Nat} {Q : Exit → Act → World → Prop} {f' : Fr} {H' : Heap} :
    ∀ (l : List Oper) (k : Nat) (f : Fr) (H : Heap) (ρ : Place) (a : Act) (w : World), (∀ i o, l[i]? = some o → ops[k + i]? = some o) → HR σ ρ H w.heap → FR σ ρ f a.tmps → f.g = G → seqA P call ops l f H = some (f', H') →
      (∀ ρ' a' w', HR σ ρ' H' w'.heap → Step ρ H w ρ' H' w' → FR σ ρ' f' a'.tmps → f'.g = G → a'.defers = a.defers → wpOps P ops Q rest a' w') → wpOps P ops Q (List.range' k l.length ++ rest) a w
  | [], k, f, H, ρ, a, w, hl, hr, hf, hG, h, hQ => by
    cases h
    exact hQ ρ a w hr .refl hf hG rfl
  | o :: l, k, f, H, ρ, a, w, hl, hr, hf, hG, h, hQ => by
    have ho : ops[k]? = some o := hl 0 o rfl
    have hl' : ∀ i o, l[i]? = some o → ops[k + 1 + i]? = some o := fun i o h => by
      have := hl (i + 1) o (by simpa using h)
      rw [show k + 1 + i = k + (i + 1) by omega]; exact this
    rw [List.length_cons, List.range'_succ]
    show wpOps P ops Q (k :: (List.range' (k + 1) l.length ++ rest)) a w
    rw [wpOps_cons]
    unfold wpOp
    simp only [ho]
    have putg : ∀ {f f2 : Fr} {dst : Option Nat} {v : AV}, f.put dst v = some f2 → f2.g = f.g := fun {f f2 dst v} e => by
      unfold Fr.put at e
      split at e
      · cases e; rfl
      · split at e
        · cases e; rfl
        · cases e
    have putd : ∀ (a : Act) (dst : Option Tmp) (v : Value), (a.put dst v).defers = a.defers := fun a dst v => by cases dst <;> rfl
    unfold seqA at h
    split at h
    · rename_i hw
      rw [if_pos (wantA_ok hf hw)]
      refine .inl ?_
      split at h
      · split at h
        · rename_i v hv
          rw [force_eq] at h
          split at h
          · rename_i f2 hp
            refine wp_val (fop_run hs hr (hf.ev _) hv) (fun v' hv' => ?_)
            exact seqA_wp hs hcall l (k + 1) f2 H ρ _ w hl' hr (hf.put hp hv') ((putg hp).trans hG) h (fun ρ' a' w' h1 h2 h3 h4 h5 => hQ ρ' a' w' h1 h2 h3 h4 (h5.trans (putd _ _ _)))
          · cases h
        · rename_i kk n g hv
          split at h
          · rename_i f2 hn hp
            refine wp_new hr (bl hn) (fop_run hs hr (hf.ev _) hv) (fun ρ1 v' w1 h1 h2 h3 => ?_)
            exact seqA_wp hs hcall l (k + 1) f2 (H.add kk) ρ1 _ w1 hl' h1 ((hf.mono h2.ext).put hp h3) ((putg hp).trans hG) h (fun ρ' a' w' g1 g2 g3 g4 g5 => hQ ρ' a' w' g1 (h2.trans g2) g3 g4 (g5.trans (putd _ _ _)))
          · cases h
        · cases h
      · split at h
        · rename_i v H1 hv
          rw [force_eq] at h
          split at h
          · rename_i f2 hp
            refine aop_wp hs hcall hr (hf.ev _) (fun g id hg => hf.2.2.2 g id (hG ▸ hg)) hv (fun ρ1 v' w1 h1 h2 h3 => ?_)
            exact seqA_wp hs hcall l (k + 1) f2 H1 ρ1 _ w1 hl' h1 ((hf.mono h2.ext).put hp h3) ((putg hp).trans hG) h (fun ρ' a' w' g1 g2 g3 g4 g5 => hQ ρ' a' w' g1 (h2.trans g2) g3 g4 (g5.trans (putd _ _ _)))
          · cases h
        · cases h
    · rename_i hw
      rw [if_neg (by rw [wantA_ok hf hw]; simp)]
      split at h
      · rename_i f2 hp
        exact seqA_wp hs hcall l (k + 1) f2 H ρ _ w hl' hr (hf.put hp rfl) ((putg hp).trans hG) h (fun ρ' a' w' h1 h2 h3 h4 h5 => hQ ρ' a' w' h1 h2 h3 h4 (h5.trans (putd _ _ _)))
      · cases h
    · cases h
end
end Ev
end Go.Proofs.YtikmamcbngbipaaGreatDoor
