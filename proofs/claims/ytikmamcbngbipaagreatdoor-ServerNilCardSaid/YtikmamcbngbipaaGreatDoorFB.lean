/- Code in a round of a range over a function: what the run says is what the code does there. -/
import Derived.Test.YtikmamcbngbipaaGreatDoorFA
import Derived.OrdersIn
import Derived.LoopNIn
import Derived.RangeFuncCalls
namespace Go.Proofs.YtikmamcbngbipaaGreatDoor
namespace Ev

/-- A plain frame's round. -/
abbrev RF (l : Nat) : Fence := Fence.wide.inRound l

section
variable {P : Program} {l n : Nat} {ops : Array Oper} {Q : Exit → Act → World → Prop}

theorem rowsIn_wide {row : String} {args : Array Value} {w : World} {R : Value → World → Prop} (h : Rows P row args w R) : RowsIn (RF l) n P row args w R := fun c cs _ => by
  obtain ⟨v, w', h1, h2⟩ := h c cs
  exact ⟨v, w', h1, stepsIn_wide.2 h2⟩
theorem operIn_of {o : Oper} {a : Act} {w : World} {next : Act → World → Prop} (hd : ∀ c, o.op ≠ .defer c) (h : o.wp P a w next Q) : o.wpIn (RF l) n P a w next Q := by
  refine ⟨fun _ _ => trivial, ?_⟩
  rw [Oper.semAt_eq _ _ _ hd]
  unfold Oper.wp at h
  revert h
  generalize (execOp a.eval o).run P w = r
  intro h
  have hdep : (RF l).depth.isSome = true → 1 ≤ n := fun h => by cases h
  cases r with
  | ok x w' =>
    cases x with
    | enter f args => exact ⟨hdep, CallsIn.inRound l (callsIn_wide.2 h)⟩
    | row row args => exact ⟨hdep, rowsIn_wide h⟩
    | value v => exact h
    | skip => exact h
    | defer d => exact h
    | _ => exact h.elim
  | halt x w' => cases x <;> first | exact h | exact h.elim
theorem wpOpIn_of {i : Nat} {a : Act} {w : World} {K : Act → World → Prop} (hQ : ¬ LetsOut Q) (hd : ∀ (i : Nat) (o : Oper), ops[i]? = some o → ∀ c, o.op ≠ .defer c) (h : wpOp P ops Q i K a w) : wpOpIn (RF l) n P ops Q i K a w := by
  unfold wpOp at h
  unfold wpOpIn
  cases ho : ops[i]? with
  | none => rw [ho] at h; exact h
  | some o =>
    rw [ho] at h
    simp only at h ⊢
    split
    · rename_i hw
      rw [if_pos hw] at h
      rcases h with h | h
      · exact operIn_of (hd i o ho) h
      · exact (hQ h.2).elim
    · rename_i hw
      rw [if_neg hw] at h
      exact ⟨fun _ _ => trivial, h⟩
theorem wpOpsIn_of (hQ : ¬ LetsOut Q) (hd : ∀ (i : Nat) (o : Oper), ops[i]? = some o → ∀ c, o.op ≠ .defer c) : ∀ (L : List Nat) (a : Act) (w : World), wpOps P ops Q L a w → wpOpsIn (RF l) n P ops Q L a w
  | [], a, w, h => h
  | i :: L, a, w, h => by
    rw [wpOps_cons] at h
    rw [wpOpsIn_cons]
    exact wpOpIn_mono (fun a w h => wpOpsIn_of hQ hd L a w h) (wpOpIn_of hQ hd h)
theorem wpAnyIn_of (hQ : ¬ LetsOut Q) (hd : ∀ (i : Nat) (o : Oper), ops[i]? = some o → ∀ c, o.op ≠ .defer c) : ∀ (k : Nat) (listed : Array Bool) (a : Act) (w : World), wpAny P .any ops Q k listed a w → wpAnyIn (RF l) n P .any ops Q k listed a w
  | 0, _listed, _a, _w, h => h
  | k + 1, _listed, _a, _w, h => ⟨h.1, fun i hi => wpOpIn_mono (fun a w h => wpAnyIn_of hQ hd k _ a w h) (wpOpIn_of hQ hd (h.2 i hi))⟩
theorem letsOut_then {K : Act → World → Prop} (hQ : ¬ LetsOut Q) : ¬ LetsOut (Exit.then K Q) := hQ
theorem letsOut_block {id : Nat} (hQ : ¬ LetsOut Q) : ¬ LetsOut (Exit.inBlock id Q) := hQ
end

def isDefer : Op → Bool
  | .defer _ => true
  | _ => false
/-- No deferral stands in it, no range over a function. -/
def plainC : Code → Bool
  | .region _ ops _ => ops.toList.all fun o => !isDefer o.op
  | .seq a b => plainC a && plainC b
  | .cond _ a b => plainC a && plainC b
  | .block _ c => plainC c
  | .loop c => plainC c
  | .skip | .label _ | .ret | .exit _ => true
  | _ => false

section
variable {σ : Nat → Value} {ρ : Place} {P : Program} {G : Nat → Option Nat} {L : Lore} {call : CallF} {fuel l n : Nat}

def CodeOKIn (σ : Nat → Value) (P : Program) (G : Nat → Option Nat) (l n : Nat) (c : Code) (s : St) (e : Ex) (s' : St) : Prop :=
  ∀ (ρ : Place) (a : Act) (w : World) (Q : Exit → Act → World → Prop), ¬ LetsOut Q → s.f.g = G → HR σ ρ s.H w.heap → FR σ ρ s.f a.tmps →
    (∀ ρ' a' w', HR σ ρ' s'.H w'.heap → Step ρ s.H w ρ' s'.H w' → FR σ ρ' s'.f a'.tmps → a'.defers = a.defers → s'.f.g = G → s'.ds = s.ds → Q e.out a' w') → c.wpIn (RF l) n P Q a w

theorem loopA_okIn {c : Code} {g : St → Option (Ex × St)} (hg : ∀ s e s', g s = some (e, s') → CodeOKIn σ P G l n c s e s') : ∀ (k : Nat) (s : St) (e : Ex) (s' : St), loopA k g s = some (e, s') →
    ∀ (ρ : Place) (a : Act) (w : World) (Q : Exit → Act → World → Prop), ¬ LetsOut Q → s.f.g = G → HR σ ρ s.H w.heap → FR σ ρ s.f a.tmps →
    (∀ ρ' a' w', HR σ ρ' s'.H w'.heap → Step ρ s.H w ρ' s'.H w' → FR σ ρ' s'.f a'.tmps → a'.defers = a.defers → s'.f.g = G → s'.ds = s.ds → Q e.out a' w') → Code.roundsIn (RF l) n P c Q k a w
  | 0, s, e, s', h => by cases h
  | k + 1, s, e, s', h => by
    intro ρ a w Q hlo hG hr hf hQ
    unfold loopA at h
    rw [roundsIn_succ]
    split at h
    · rename_i s1 hs1
      refine hg _ _ _ hs1 ρ a w _ (letsOut_then hlo) hG hr hf (fun ρ1 a1 w1 h1 h2 h3 h4 h5 h6 => ?_)
      exact loopA_okIn hg k s1 e s' h ρ1 a1 w1 Q hlo h5 h1 h3 (fun ρ' a' w' g1 g2 g3 g4 g5 g6 => hQ ρ' a' w' g1 (h2.trans g2) g3 (g4.trans h4) g5 (g6.trans h6))
    · rename_i hne
      refine hg _ _ _ h ρ a w _ (letsOut_then hlo) hG hr hf (fun ρ1 a1 w1 h1 h2 h3 h4 h5 h6 => ?_)
      have := hQ ρ1 a1 w1 h1 h2 h3 h4 h5 h6
      cases e with
      | norm => exact (hne s' h).elim
      | exit id => exact this
      | ret => exact this

theorem codeA_okIn (hm : P.follows .mixedOrders = true) (hs : ∀ i, (σ i).oneCell' = true) (hcall : CallsOK σ P G call) : ∀ (c : Code), plainC c = true → ∀ (s : St) (e : Ex) (s' : St), codeA P L call fuel c s = some (e, s') → CodeOKIn σ P G l n c s e s' := by
  intro c
  induction c with
  | skip =>
    intro _ s e s' h ρ a w Q hlo hG hr hf hQ
    cases h
    exact wpIn_skip (hQ ρ a w hr .refl hf rfl hG rfl)
  | label t =>
    intro _ s e s' h ρ a w Q hlo hG hr hf hQ
    cases h
    exact wpIn_label (hQ ρ a w hr .refl hf rfl hG rfl)
  | ret =>
    intro _ s e s' h ρ a w Q hlo hG hr hf hQ
    cases h
    exact wpIn_ret (hQ ρ a w hr .refl hf rfl hG rfl)
  | exit id =>
    intro _ s e s' h ρ a w Q hlo hG hr hf hQ
    cases h
    exact wpIn_exit (hQ ρ a w hr .refl hf rfl hG rfl)
  | seq x y ihx ihy =>
    intro hp s e s' h ρ a w Q hlo hG hr hf hQ
    rw [plainC, Bool.and_eq_true] at hp
    unfold codeA at h
    refine wpIn_seq ?_
    split at h
    · rename_i s1 hs1
      refine ihx hp.1 _ _ _ hs1 ρ a w _ (letsOut_then hlo) hG hr hf (fun ρ1 a1 w1 h1 h2 h3 h4 h5 h6 => ?_)
      exact ihy hp.2 _ _ _ h ρ1 a1 w1 Q hlo h5 h1 h3 (fun ρ' a' w' g1 g2 g3 g4 g5 g6 => hQ ρ' a' w' g1 (h2.trans g2) g3 (g4.trans h4) g5 (g6.trans h6))
    · rename_i hne
      refine ihx hp.1 _ _ _ h ρ a w _ (letsOut_then hlo) hG hr hf (fun ρ1 a1 w1 h1 h2 h3 h4 h5 h6 => ?_)
      have := hQ ρ1 a1 w1 h1 h2 h3 h4 h5 h6
      cases e with
      | norm => exact (hne s' h).elim
      | exit id => exact this
      | ret => exact this
  | cond c x y ihx ihy =>
    intro hp s e s' h ρ a w Q hlo hG hr hf hQ
    rw [plainC, Bool.and_eq_true] at hp
    unfold codeA at h
    split at h
    · rename_i hv
      have := ev_conc hf hv
      simp only [conc, Option.some.injEq] at this
      exact wpIn_cond_true this.symm (ihx hp.1 _ _ _ h ρ a w Q hlo hG hr hf hQ)
    · rename_i hv
      have := ev_conc hf hv
      simp only [conc, Option.some.injEq] at this
      exact wpIn_cond_false this.symm (ihy hp.2 _ _ _ h ρ a w Q hlo hG hr hf hQ)
    · cases h
  | block id c ih =>
    intro hp s e s' h ρ a w Q hlo hG hr hf hQ
    rw [plainC] at hp
    unfold codeA at h
    refine wpIn_block ?_
    split at h
    · rename_i id' s1 hs1
      refine ih hp _ _ _ hs1 ρ a w _ (letsOut_block hlo) hG hr hf (fun ρ1 a1 w1 h1 h2 h3 h4 h5 h6 => ?_)
      show if id' = id then Q .normal a1 w1 else Q (.exit id') a1 w1
      split at h
      · rename_i hb
        cases h
        rw [if_pos (Nat.eq_of_beq_eq_true hb)]
        exact hQ ρ1 a1 w1 h1 h2 h3 h4 h5 h6
      · rename_i hb
        cases h
        rw [if_neg (Nat.ne_of_beq_eq_false hb)]
        exact hQ ρ1 a1 w1 h1 h2 h3 h4 h5 h6
    · rename_i hne
      refine ih hp _ _ _ h ρ a w _ (letsOut_block hlo) hG hr hf (fun ρ1 a1 w1 h1 h2 h3 h4 h5 h6 => ?_)
      have := hQ ρ1 a1 w1 h1 h2 h3 h4 h5 h6
      cases e with
      | norm => exact this
      | exit id => exact (hne id s' h).elim
      | ret => exact this
  | loop c ih =>
    intro hp s e s' h ρ a w Q hlo hG hr hf hQ
    rw [plainC] at hp
    unfold codeA at h
    exact wpIn_loop_rounds fuel (loopA_okIn (ih hp) fuel s e s' h ρ a w Q hlo hG hr hf hQ)
  | region id ops draw =>
    intro hp s e s' h ρ a w Q hlo hG hr hf hQ
    have hd : ∀ (i : Nat) (o : Oper), ops[i]? = some o → ∀ c, o.op ≠ .defer c := fun i o ho c hc => by
      rw [plainC, List.all_eq_true] at hp
      have := hp o (List.mem_of_getElem? (by rw [Array.getElem?_toList]; exact ho))
      rw [hc] at this; cases this
    unfold codeA at h
    split at h
    · refine wpIn_region ?_
      split at h
      · split at h
        · rename_i f2 H2 hseq
          cases h
          have := seqA_wp (Q := Q) hs hcall (ops := ops) (rest := []) ops.toList 0 s.f s.H ρ a w (fun i o h => by rw [Nat.zero_add]; simpa using h) hr hf hG hseq (fun ρ' a' w' h1 h2 h3 h4 h5 => hQ ρ' a' w' h1 h2 h3 h5 h4 rfl)
          rw [List.append_nil, Array.length_toList] at this
          rw [List.range_eq_range']
          exact wpOpsIn_of hlo hd _ _ _ this
        · cases h
      · rename_i pre o x args hdf
        obtain ⟨d1, as, ts, d2, d3⟩ := deferOf_spec hdf
        exact (hd pre.length o (by rw [← Array.getElem?_toList, d1]; simp) _ d2).elim
    · split at h
      · rename_i f2 H2 hdr
        cases h
        exact wpIn_region_any hm (wpAnyIn_of hlo hd _ _ _ _ (drawA_any hs hcall hr hf hG hdr (fun ρ' a' w' h1 h2 h3 h4 h5 => hQ ρ' a' w' h1 h2 h3 h5 h4 rfl)))
      · cases h
  | _ => intro hp; cases hp
end
end Ev
end Go.Proofs.YtikmamcbngbipaaGreatDoor
