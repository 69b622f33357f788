/- Code in a round of a range over a function: what the run says is what the code does there. -/
import Derived.Test.YtpppaheennkkpaaGreatDoorFA
import Derived.OrdersIn
import Derived.LoopNIn
import Derived.RangeFuncCalls
import Derived.RangeFuncSeq
import Derived.Below
namespace Go.Proofs.YtpppaheennkkpaaGreatDoor
namespace Ev

/-- A plain frame's round. -/
abbrev RF (l : Nat) : Fence := Fence.wide.inRound l

section
variable {P : Program} {l n : Nat} {ops : Array Oper} {Q : Exit → Act → World → Prop}

theorem rowsIn_wide {row : String} {args : Array Value} {w : World} {R : Value → World → Prop} (h : Rows P row args w R) : RowsIn (RF l) n P row args w R := fun c cs _ => by
  obtain ⟨v, w', h1, h2⟩ := h c cs
  exact ⟨v, w', h1, stepsIn_wide.2 h2⟩
theorem operIn_of {o : Oper} {a : Act} {w : World} {next : Act → World → Prop} (hd : ∀ c, o.op ≠ .defer c) (h : o.wp P a w next Q) : o.wpIn (RF l) n P a w next Q := by
  refine ⟨fun _ _ => trivial, ?_⟩
  rw [Oper.semAt_eq _ _ _ hd]
  unfold Oper.wp at h
  revert h
  generalize (execOp a.eval o).run P w = r
  intro h
  have hdep : (RF l).depth.isSome = true → 1 ≤ n := fun h => by cases h
  cases r with
  | ok x w' =>
    cases x with
    | enter f args => exact ⟨hdep, CallsIn.inRound l (callsIn_wide.2 h)⟩
    | row row args => exact ⟨hdep, rowsIn_wide h⟩
    | value v => exact h
    | skip => exact h
    | defer d => exact h
    | _ => exact h.elim
  | halt x w' => cases x <;> first | exact h | exact h.elim
theorem wpOpIn_of {i : Nat} {a : Act} {w : World} {K : Act → World → Prop} (hQ : ¬ LetsOut Q) (hd : ∀ (i : Nat) (o : Oper), ops[i]? = some o → ∀ c, o.op ≠ .defer c) (h : wpOp P ops Q i K a w) : wpOpIn (RF l) n P ops Q i K a w := by
  unfold wpOp at h
  unfold wpOpIn
  cases ho : ops[i]? with
  | none => rw [ho] at h; exact h
  | some o =>
    rw [ho] at h
    simp only at h ⊢
    split
    · rename_i hw
      rw [if_pos hw] at h
      rcases h with h | h
      · exact operIn_of (hd i o ho) h
      · exact (hQ h.2).elim
    · rename_i hw
      rw [if_neg hw] at h
      exact ⟨fun _ _ => trivial, h⟩
theorem wpOpsIn_of (hQ : ¬ LetsOut Q) (hd : ∀ (i : Nat) (o : Oper), ops[i]? = some o → ∀ c, o.op ≠ .defer c) : ∀ (L : List Nat) (a : Act) (w : World), wpOps P ops Q L a w → wpOpsIn (RF l) n P ops Q L a w
  | [], a, w, h => h
  | i :: L, a, w, h => by
    rw [wpOps_cons] at h
    rw [wpOpsIn_cons]
    exact wpOpIn_mono (fun a w h => wpOpsIn_of hQ hd L a w h) (wpOpIn_of hQ hd h)
theorem wpAnyIn_of (hQ : ¬ LetsOut Q) (hd : ∀ (i : Nat) (o : Oper), ops[i]? = some o → ∀ c, o.op ≠ .defer c) : ∀ (k : Nat) (listed : Array Bool) (a : Act) (w : World), wpAny P .any ops Q k listed a w → wpAnyIn (RF l) n P .any ops Q k listed a w
  | 0, _listed, _a, _w, h => h
  | k + 1, _listed, _a, _w, h => ⟨h.1, fun i hi => wpOpIn_mono (fun a w h => wpAnyIn_of hQ hd k _ a w h) (wpOpIn_of hQ hd (h.2 i hi))⟩
theorem letsOut_then {K : Act → World → Prop} (hQ : ¬ LetsOut Q) : ¬ LetsOut (Exit.then K Q) := hQ
theorem letsOut_block {id : Nat} (hQ : ¬ LetsOut Q) : ¬ LetsOut (Exit.inBlock id Q) := hQ
end

def isDefer : Op → Bool
  | .defer _ => true
  | _ => false
/-- No deferral stands in it, no range over a function. -/
def plainC : Code → Bool
  | .region _ ops _ => ops.toList.all fun o => !isDefer o.op
  | .seq a b => plainC a && plainC b
  | .cond _ a b => plainC a && plainC b
  | .block _ c => plainC c
  | .loop c => plainC c
  | .skip | .label _ | .ret | .exit _ => true
  | _ => false

section
variable {σ : Nat → Value} {ρ : Place} {P : Program} {G : Nat → Option Nat} {L : Lore} {call : CallF} {fuel l n : Nat}

def CodeOKIn (σ : Nat → Value) (P : Program) (G : Nat → Option Nat) (l n : Nat) (c : Code) (s : St) (e : Ex) (s' : St) : Prop :=
  ∀ (ρ : Place) (a : Act) (w : World) (Q : Exit → Act → World → Prop), ¬ LetsOut Q → s.f.g = G → HR σ ρ s.H w.heap → FR σ ρ s.f a.tmps →
    (∀ ρ' a' w', HR σ ρ' s'.H w'.heap → Step ρ s.H w ρ' s'.H w' → FR σ ρ' s'.f a'.tmps → a'.defers = a.defers → s'.f.g = G → s'.ds = s.ds → Q e.out a' w') → c.wpIn (RF l) n P Q a w

theorem loopA_okIn {c : Code} {g : St → Option (Ex × St)} (hg : ∀ s e s', g s = some (e, s') → CodeOKIn σ P G l n c s e s') : ∀ (k : Nat) (s : St) (e : Ex) (s' : St), loopA k g s = some (e, s') →
    ∀ (ρ : Place) (a : Act) (w : World) (Q : Exit → Act → World → Prop), ¬ LetsOut Q → s.f.g = G → HR σ ρ s.H w.heap → FR σ ρ s.f a.tmps →
    (∀ ρ' a' w', HR σ ρ' s'.H w'.heap → Step ρ s.H w ρ' s'.H w' → FR σ ρ' s'.f a'.tmps → a'.defers = a.defers → s'.f.g = G → s'.ds = s.ds → Q e.out a' w') → Code.roundsIn (RF l) n P c Q k a w
  | 0, s, e, s', h => by cases h
  | k + 1, s, e, s', h => by
    intro ρ a w Q hlo hG hr hf hQ
    unfold loopA at h
    rw [roundsIn_succ]
    split at h
    · rename_i s1 hs1
      refine hg _ _ _ hs1 ρ a w _ (letsOut_then hlo) hG hr hf (fun ρ1 a1 w1 h1 h2 h3 h4 h5 h6 => ?_)
      exact loopA_okIn hg k s1 e s' h ρ1 a1 w1 Q hlo h5 h1 h3 (fun ρ' a' w' g1 g2 g3 g4 g5 g6 => hQ ρ' a' w' g1 (h2.trans g2) g3 (g4.trans h4) g5 (g6.trans h6))
    · rename_i hne
      refine hg _ _ _ h ρ a w _ (letsOut_then hlo) hG hr hf (fun ρ1 a1 w1 h1 h2 h3 h4 h5 h6 => ?_)
      have := hQ ρ1 a1 w1 h1 h2 h3 h4 h5 h6
      cases e with
      | norm => exact (hne s' h).elim
      | exit id => exact this
      | ret => exact this

theorem codeA_okIn (hm : P.follows .mixedOrders = true) (hs : ∀ i, (σ i).oneCell' = true) (hcall : CallsOK σ P G call) : ∀ (c : Code), plainC c = true → ∀ (s : St) (e : Ex) (s' : St), codeA P L call fuel c s = some (e, s') → CodeOKIn σ P G l n c s e s' := by
  intro c
  induction c with
  | skip =>
    intro _ s e s' h ρ a w Q hlo hG hr hf hQ
    cases h
    exact wpIn_skip (hQ ρ a w hr .refl hf rfl hG rfl)
  | label t =>
    intro _ s e s' h ρ a w Q hlo hG hr hf hQ
    cases h
    exact wpIn_label (hQ ρ a w hr .refl hf rfl hG rfl)
  | ret =>
    intro _ s e s' h ρ a w Q hlo hG hr hf hQ
    cases h
    exact wpIn_ret (hQ ρ a w hr .refl hf rfl hG rfl)
  | exit id =>
    intro _ s e s' h ρ a w Q hlo hG hr hf hQ
    cases h
    exact wpIn_exit (hQ ρ a w hr .refl hf rfl hG rfl)
  | seq x y ihx ihy =>
    intro hp s e s' h ρ a w Q hlo hG hr hf hQ
    rw [plainC, Bool.and_eq_true] at hp
    unfold codeA at h
    refine wpIn_seq ?_
    split at h
    · rename_i s1 hs1
      refine ihx hp.1 _ _ _ hs1 ρ a w _ (letsOut_then hlo) hG hr hf (fun ρ1 a1 w1 h1 h2 h3 h4 h5 h6 => ?_)
      exact ihy hp.2 _ _ _ h ρ1 a1 w1 Q hlo h5 h1 h3 (fun ρ' a' w' g1 g2 g3 g4 g5 g6 => hQ ρ' a' w' g1 (h2.trans g2) g3 (g4.trans h4) g5 (g6.trans h6))
    · rename_i hne
      refine ihx hp.1 _ _ _ h ρ a w _ (letsOut_then hlo) hG hr hf (fun ρ1 a1 w1 h1 h2 h3 h4 h5 h6 => ?_)
      have := hQ ρ1 a1 w1 h1 h2 h3 h4 h5 h6
      cases e with
      | norm => exact (hne s' h).elim
      | exit id => exact this
      | ret => exact this
  | cond c x y ihx ihy =>
    intro hp s e s' h ρ a w Q hlo hG hr hf hQ
    rw [plainC, Bool.and_eq_true] at hp
    unfold codeA at h
    split at h
    · rename_i hv
      have := ev_conc hf hv
      simp only [conc, Option.some.injEq] at this
      exact wpIn_cond_true this.symm (ihx hp.1 _ _ _ h ρ a w Q hlo hG hr hf hQ)
    · rename_i hv
      have := ev_conc hf hv
      simp only [conc, Option.some.injEq] at this
      exact wpIn_cond_false this.symm (ihy hp.2 _ _ _ h ρ a w Q hlo hG hr hf hQ)
    · cases h
  | block id c ih =>
    intro hp s e s' h ρ a w Q hlo hG hr hf hQ
    rw [plainC] at hp
    unfold codeA at h
    refine wpIn_block ?_
    split at h
    · rename_i id' s1 hs1
      refine ih hp _ _ _ hs1 ρ a w _ (letsOut_block hlo) hG hr hf (fun ρ1 a1 w1 h1 h2 h3 h4 h5 h6 => ?_)
      show if id' = id then Q .normal a1 w1 else Q (.exit id') a1 w1
      split at h
      · rename_i hb
        cases h
        rw [if_pos (Nat.eq_of_beq_eq_true hb)]
        exact hQ ρ1 a1 w1 h1 h2 h3 h4 h5 h6
      · rename_i hb
        cases h
        rw [if_neg (Nat.ne_of_beq_eq_false hb)]
        exact hQ ρ1 a1 w1 h1 h2 h3 h4 h5 h6
    · rename_i hne
      refine ih hp _ _ _ h ρ a w _ (letsOut_block hlo) hG hr hf (fun ρ1 a1 w1 h1 h2 h3 h4 h5 h6 => ?_)
      have := hQ ρ1 a1 w1 h1 h2 h3 h4 h5 h6
      cases e with
      | norm => exact this
      | exit id => exact (hne id s' h).elim
      | ret => exact this
  | loop c ih =>
    intro hp s e s' h ρ a w Q hlo hG hr hf hQ
    rw [plainC] at hp
    unfold codeA at h
    exact wpIn_loop_rounds fuel (loopA_okIn (ih hp) fuel s e s' h ρ a w Q hlo hG hr hf hQ)
  | region id ops draw =>
    intro hp s e s' h ρ a w Q hlo hG hr hf hQ
    have hd : ∀ (i : Nat) (o : Oper), ops[i]? = some o → ∀ c, o.op ≠ .defer c := fun i o ho c hc => by
      rw [plainC, List.all_eq_true] at hp
      have := hp o (List.mem_of_getElem? (by rw [Array.getElem?_toList]; exact ho))
      rw [hc] at this; cases this
    unfold codeA at h
    split at h
    · refine wpIn_region ?_
      split at h
      · split at h
        · rename_i f2 H2 hseq
          cases h
          have := seqA_wp (Q := Q) hs hcall (ops := ops) (rest := []) ops.toList 0 s.f s.H ρ a w (fun i o h => by rw [Nat.zero_add]; simpa using h) hr hf hG hseq (fun ρ' a' w' h1 h2 h3 h4 h5 => hQ ρ' a' w' h1 h2 h3 h5 h4 rfl)
          rw [List.append_nil, Array.length_toList] at this
          rw [List.range_eq_range']
          exact wpOpsIn_of hlo hd _ _ _ this
        · cases h
      · rename_i pre o x args hdf
        obtain ⟨d1, as, ts, d2, d3⟩ := deferOf_spec hdf
        exact (hd pre.length o (by rw [← Array.getElem?_toList, d1]; simp) _ d2).elim
    · split at h
      · rename_i f2 H2 hdr
        cases h
        exact wpIn_region_any hm (wpAnyIn_of hlo hd _ _ _ _ (drawA_any hs hcall hr hf hG hdr (fun ρ' a' w' h1 h2 h3 h4 h5 => hQ ρ' a' w' h1 h2 h3 h5 h4 rfl)))
      · cases h
  | _ => intro hp; cases hp
end
end Ev
end Go.Proofs.YtpppaheennkkpaaGreatDoor

/- A range over slices.Chunk at a slice of one piece. -/
namespace Go.Proofs.YtpppaheennkkpaaGreatDoor
namespace Ev
open Go.RowKit

/-- slices.Chunk's closure, called at a slice of one piece: it yields once. -/
def OneRound (P : Program) (gf : Nat) : Prop := ∀ (n l bs os bn on b off len cap : Nat) (W : World), W.cell? ⟨bs, os, none⟩ = some (.slice (some ⟨b, off, none⟩) len cap) → W.cell? ⟨bn, on, none⟩ = some (.int .i64 100) → 1 ≤ len → len ≤ 100 → len ≤ cap → 1 ≤ n →
  ∀ R : World → Prop, (YieldAt Fence.wide (n - 1) P l #[.slice (some ⟨b, off, none⟩) len len] W.drew fun e W' => e = .returned (.bool true) ∧ R W' ∧ W'.cell? ⟨bs, os, none⟩ = some (.slice (some ⟨b, off, none⟩) len cap) ∧ W'.cell? ⟨bn, on, none⟩ = some (.int .i64 100)) →
  CallsIn Fence.wide n P gf #[.func (.yield l) #[] #[], .pointer (some ⟨bs, os, none⟩), .pointer (some ⟨bn, on, none⟩)] W fun e W' => (∃ v, e = .returned v) ∧ R W'

/-- The whole slice, as it is yielded. -/
def wholeA : AV → Option AV
  | .slice id off len cap => match Nat.ble 1 len && Nat.ble len 100 && Nat.ble len cap with
    | true => some (.slice id off len len)
    | false => none
  | .osl id _ off len _ => match Nat.ble 1 len && Nat.ble len 100 with
    | true => some (.slice id off len len)
    | false => none
  | _ => none
noncomputable def chunkA (P : Program) (gf fuel : Nat) (L0 : Lore) (call : CallF) (c : Code) (s : St) : Option (Ex × St) := match c with
  | .rangeFunc g ps assign body => match ps.toList, ev s.f g, plainC assign && plainC body with
    | [p], some (.fn (.func g') [] [.ptr i 0, .ptr j 0]), true => match Nat.beq g' gf, s.H.load i 0, s.H.load j 0 with
      | true, some sv, some nv => match wholeA sv, abeq nv (.int .i64 100) with
        | some xv, true => match s.f.put (some p) xv with
          | some f1 => match codeA P L0 call fuel assign ⟨f1, s.H, []⟩ with
            | some (.norm, s1) => match codeA P L0 call fuel body s1 with
              | some (.norm, s2) => match s2.H.load i 0, s2.H.load j 0 with
                | some a, some b => match abeq a sv && abeq b nv with
                  | true => some (.norm, ⟨s.f, s2.H, .coll :: s.ds⟩)
                  | false => none
                | _, _ => none
              | _ => none
            | _ => none
          | none => none
        | _, _ => none
      | _, _, _ => none
    | _, _, _ => none
  | _ => none

section
variable {σ : Nat → Value} {ρ ρ' : Place} {P : Program} {G : Nat → Option Nat} {H H' : Heap} {w w' : World} {call : CallF}

theorem HR.alloc (hr : HR σ ρ H w.heap) (o : Obj) : HR σ ρ H (w.alloc o).heap := by
  refine ⟨hr.small, hr.out, hr.fresh, fun i p hp => by have := hr.bound i p hp; simp; omega, fun i k hi hk => ?_, hr.inj⟩
  obtain ⟨p, h1, h2⟩ := hr.live i k hi hk
  exact ⟨p, h1, by rw [Below.heap_alloc _ _ _ (hr.bound i p h1)]; exact h2⟩
theorem Step.alloc {ρ0 : Place} {H0 : Heap} {w0 : World} (h : Step ρ0 H0 w0 ρ H w) (o : Obj) : Step ρ0 H0 w0 ρ H (w.alloc o) :=
  ⟨h.ext, by have := h.size; simp; omega, fun c hc hn => (Below.heap_alloc _ _ _ (by have := h.size; omega)).trans (h.keep c hc hn), h.back, h.rest, h.more, h.same, h.dead, fun i k p c ty f hi hk hp hb => by
    obtain ⟨c1, h1⟩ := h.cells i k p c ty f hi hk hp hb
    exact ⟨c1, (Below.heap_alloc _ _ _ (Array.getElem?_eq_some_iff.1 h1).1).trans h1⟩⟩
/-- A block that is none of the run's stays so, and stands. -/
theorem Step.off {D : Nat} (h : Step ρ H w ρ' H' w') (hD : D < w.heap.size) (hn : ∀ i k p, i < H.next → H.get i = some k → ρ i = some p → p.b ≠ D) :
    w'.heap[D]? = w.heap[D]? ∧ ∀ i k p, i < H'.next → H'.get i = some k → ρ' i = some p → p.b ≠ D :=
  ⟨h.keep D hD hn, fun i k p hi hk hp e => by
    obtain ⟨j, l', q, g1, g2, g3, g4⟩ := h.back i k p hi hk hp (by omega)
    exact hn j l' q g1 g2 g3 (g4.trans e)⟩

theorem wholeA_conc {sv xv : AV} {v : Value} (h : wholeA sv = some xv) (hv : conc σ ρ sv = some v) : ∃ b off len cap, v = .slice (some ⟨b, off, none⟩) len cap ∧ 1 ≤ len ∧ len ≤ 100 ∧ len ≤ cap ∧ conc σ ρ xv = some (.slice (some ⟨b, off, none⟩) len len) := by
  unfold wholeA at h
  split at h
  · rename_i id off len cap
    split at h
    · rename_i hc
      cases h
      rw [Bool.and_eq_true, Bool.and_eq_true] at hc
      have h1 := Nat.le_of_ble_eq_true hc.1.1
      have h2 := Nat.le_of_ble_eq_true hc.1.2
      have h3 := Nat.le_of_ble_eq_true hc.2
      simp only [conc] at hv ⊢
      cases hp : ρ id with
      | none => rw [hp] at hv; cases hv
      | some p =>
        rw [hp] at hv
        cases hv
        exact ⟨_, _, _, _, rfl, h1, h2, h3, rfl⟩
    · cases h
  · rename_i id off0 off len k
    split at h
    · rename_i hc
      cases h
      rw [Bool.and_eq_true] at hc
      have h1 := Nat.le_of_ble_eq_true hc.1
      have h2 := Nat.le_of_ble_eq_true hc.2
      simp only [conc] at hv ⊢
      cases hp : ρ id with
      | none => rw [hp] at hv; cases hv
      | some p =>
        rw [hp] at hv
        simp only at hv ⊢
        split at hv
        · rename_i hk
          cases hv
          obtain ⟨k1, k2, k3⟩ := hk
          have hlk : 1 ≤ len * k := Nat.mul_pos h1 k1
          have hne : off ≠ p.n := by omega
          refine ⟨_, _, _, _, rfl, h1, h2, ?_, by rw [if_neg hne]⟩
          rw [Nat.le_div_iff_mul_le k1]
          omega
        · cases hv
    · cases h
  · cases h

theorem chunkA_ok (hm : P.follows .mixedOrders = true) (hs : ∀ i, (σ i).oneCell' = true) (hcall : CallsOK σ P G call) {gf fuel : Nat} (hone : OneRound P gf) (hent : Enters P gf) {L0 : Lore} {c : Code} {s : St} {e : Ex} {s' : St} (h : chunkA P gf fuel L0 call c s = some (e, s')) : CodeOK σ P G c s e s' := by
  unfold chunkA at h
  split at h
  case h_2 => cases h
  rename_i g ps assign body
  split at h
  case h_2 => cases h
  rename_i p g' i j hps hev hplain
  split at h
  case h_2 => cases h
  rename_i sv nv hgf hsv hnv
  split at h
  case h_2 => cases h
  rename_i xv hwh hnb
  split at h
  case h_2 => cases h
  rename_i f1 hput
  split at h
  case h_2 => cases h
  rename_i s1 hass
  split at h
  case h_2 => cases h
  rename_i s2 hbody
  split at h
  case h_2 => cases h
  rename_i a2 b2 ha2 hb2
  split at h
  case h_2 => cases h
  rename_i hsame
  cases h
  have hgf := Nat.eq_of_beq_eq_true hgf
  subst hgf
  have hnb := abeq_eq _ _ hnb
  subst hnb
  rw [Bool.and_eq_true] at hsame hplain
  have e1 := abeq_eq _ _ hsame.1
  have e2 := abeq_eq _ _ hsame.2
  subst e1; subst e2
  have hps : ps = #[p] := by rw [← Array.toArray_toList (xs := ps), hps]
  subst hps
  intro B ρ a w Q hB hG hr hf hd hQ
  -- the value ranged over
  obtain ⟨x, y, hx, hy, he⟩ := conc_fn (ev_conc hf hev)
  cases hx
  have hy' := hy
  simp only [concs] at hy
  cases hci : conc σ ρ (.ptr i 0) with
  | none => rw [hci] at hy; simp at hy
  | some vi =>
  cases hcj : conc σ ρ (.ptr j 0) with
  | none => rw [hci, hcj] at hy; simp at hy
  | some vj =>
  rw [hci, hcj] at hy
  simp only [Option.some.injEq] at hy
  subst hy
  obtain ⟨pi, hpi, rfl⟩ := conc_ptr hci
  obtain ⟨pj, hpj, rfl⟩ := conc_ptr hcj
  -- its boxes
  obtain ⟨sval, hs1, hs2⟩ := load_cell hr hpi hsv
  obtain ⟨nval, hn1, hn2⟩ := load_cell hr hpj hnv
  obtain ⟨b, off, len, cap, rfl, l1, l2, l3, hxc⟩ := wholeA_conc hwh hs2
  simp only [conc, Option.some.injEq] at hn2
  subst hn2
  refine (wpIn_wide (n := 2)).1 (wpIn_rangeFunc ?_)
  intro fn _
  obtain ⟨rec, hrec⟩ : ∃ rec : LoopState → Option Code → Loop, rec = fun st pe => { state := st, pending := pe, fn, tmps := a.tmps, params := #[p], assign, body, defers := w.heap.size } := ⟨_, rfl⟩
  obtain ⟨W1, hW1⟩ : ∃ W1, (w.alloc (.deferred (some []))).alloc (.loop (rec .ready none)) = W1 := ⟨_, rfl⟩
  have hz1 : W1.heap.size = w.heap.size + 2 := by rw [← hW1]; simp
  have hL1 : W1.heap[w.heap.size + 1]? = some (.loop (rec .ready none)) := by
    rw [← hW1]; have := World.alloc_heap_new (w.alloc (.deferred (some []))) (.loop (rec .ready none)); rwa [World.size_alloc] at this
  have hK1 : W1.heap[w.heap.size]? = some (.deferred (some [])) := by
    rw [← hW1]; exact (Below.heap_alloc _ _ _ (by simp)).trans (World.alloc_heap_new w _)
  have hr1 : HR σ ρ s.H W1.heap := by rw [← hW1]; exact (hr.alloc _).alloc _
  have st1 : Step ρ s.H w ρ s.H W1 := by rw [← hW1]; exact (Step.refl.alloc _).alloc _
  have off0 : ∀ D, w.heap.size ≤ D → ∀ i k p, i < s.H.next → s.H.get i = some k → ρ i = some p → p.b ≠ D := fun D hD i k p _ _ hp e => by have := hr.bound i p hp; omega
  have hcs1 := (load_cell hr1 hpi hsv)
  have hcn1 := (load_cell hr1 hpj hnv)
  obtain ⟨sv1, hcs1, hcs2⟩ := hcs1
  rw [hs2] at hcs2; cases hcs2
  obtain ⟨nv1, hcn1, hcn2⟩ := hcn1
  simp only [conc, Option.some.injEq] at hcn2
  subst hcn2
  refine ⟨w.heap.size + 1, [{ target := .collected w.heap.size, args := #[] }], W1, { target := .fn (.func g') #[.pointer (some ⟨pi.b, pi.o + 0, none⟩), .pointer (some ⟨pj.b, pj.o + 0, none⟩)], args := #[.func (.yield (w.heap.size + 1)) #[] #[]] }, W1, g',
    #[.func (.yield (w.heap.size + 1)) #[] #[], .pointer (some ⟨pi.b, pi.o + 0, none⟩), .pointer (some ⟨pj.b, pj.o + 0, none⟩)], W1, ?_, ?_, fun _ _ => trivial, ?_, fun _ => by omega, ?_⟩
  · rw [← hW1, hrec]; exact run_enterLoop_outer _ _ _ _ _
  · simp [resolve, he, Deferred.ofValue]
    rfl
  · exact callFunc_run hent _ _
  -- what stands behind the round
  refine (hone 1 (w.heap.size + 1) _ _ _ _ b off len cap W1 hcs1 hcn1 l1 l2 l3 (Nat.le_refl _) (fun W' => ∃ ρ', HR σ ρ' s2.H W'.heap ∧ Step ρ s.H w ρ' s2.H W' ∧ W'.heap[w.heap.size + 1]? = some (.loop (rec .ready none)) ∧ W'.heap[w.heap.size]? = some (.deferred (some [])) ∧
    (∀ D, w.heap.size ≤ D → D < w.heap.size + 2 → ∀ i k p, i < s2.H.next → s2.H.get i = some k → ρ' i = some p → p.b ≠ D)) ?_).mono ?_
  · -- the round
    have hl1 : W1.drew.heap[w.heap.size + 1]? = some (.loop (rec .ready none)) := hL1
    have hy := run_yield (P := P) (w := W1.drew) (args := #[.slice (some ⟨b, off, none⟩) len len]) hl1 (by rw [hrec]; rfl)
    rw [hrec] at hy
    refine ⟨fn, _, assign, body, hy, roundIn_of_wpIn trivial ?_⟩
    have htm : (#[p].zip #[(.slice (some ⟨b, off, none⟩) len len : Value)]).foldl (fun (tmps : Array Value) (x : Tmp × Value) => tmps.setIfInBounds x.1 x.2) a.tmps = a.tmps.setIfInBounds p (.slice (some ⟨b, off, none⟩) len len) := by simp
    have hf1 : FR σ ρ f1 (a.tmps.setIfInBounds p (.slice (some ⟨b, off, none⟩) len len)) := FR.put (a := { a with defers := [] }) hf hput hxc
    have hdrew : HR σ ρ s.H W1.drew.heap := hr1
    refine codeA_okIn (l := w.heap.size + 1) (n := 1 - 1) hm hs hcall assign hplain.1 _ _ _ hass ρ _ _ _ (fun ⟨_, _, h⟩ => h) ((put_same hput).2.1.trans hG) hdrew (htm ▸ hf1) (fun ρ1 a1 w1 h1 h2 h3 h4 h5 h6 => ?_)
    have h2' : Step ρ s.H W1 ρ1 s1.H w1 := ⟨h2.ext, h2.size, h2.keep, h2.back, h2.rest, h2.more, h2.same, h2.dead, h2.cells⟩
    have z1 := h2'.size
    obtain ⟨o1, o2⟩ := h2'.off (D := w.heap.size + 1) (by omega) (off0 _ (by omega))
    obtain ⟨o3, o4⟩ := h2'.off (D := w.heap.size) (by omega) (off0 _ (Nat.le_refl _))
    rw [hL1] at o1
    rw [hK1] at o3
    have stA := (st1.trans h2').putObj (D := w.heap.size + 1) (o := .loop { rec .ready none with state := .busy }) (by omega)
    refine ⟨_, run_beginRound o1 (by rw [hrec]), ?_⟩
    refine codeA_okIn (l := w.heap.size + 1) (n := 1 - 1) hm hs hcall body hplain.2 _ _ _ hbody ρ1 a1 _ _ (fun ⟨_, _, h⟩ => h) h5 (h1.putObj o2) h3 (fun ρ2 a2 w3 k1 k2 k3 k4 k5 k6 => ?_)
    have z2 := k2.size
    rw [World.putObj_size] at z2
    obtain ⟨p1, p2⟩ := k2.off (D := w.heap.size + 1) (by rw [World.putObj_size]; omega) o2
    obtain ⟨p3, p4⟩ := k2.off (D := w.heap.size) (by rw [World.putObj_size]; omega) o4
    rw [World.putObj_heap_same (by omega)] at p1
    rw [World.putObj_heap_other (by omega), o3] at p3
    have stB := (stA.trans k2).putObj (D := w.heap.size + 1) (o := .loop (rec .ready none)) (by omega)
    have hrB : HR σ ρ2 s2.H (w3.putObj (w.heap.size + 1) (.loop (rec .ready none))).heap := k1.putObj p2
    have hend := run_endRound (P := P) none p1
    rw [hrec] at hend
    refine ⟨_, _, hend, rfl, ⟨ρ2, by rw [hrec] at hrB; exact hrB, by rw [hrec] at stB; exact stB, ?_, ?_, fun D hD1 hD2 => ?_⟩, ?_, ?_⟩
    · rw [hrec]; exact World.putObj_heap_same (by omega)
    · exact (World.putObj_heap_other (by omega)).trans p3
    · by_cases hD : D = w.heap.size
      · rw [hD]; exact p4
      · have : D = w.heap.size + 1 := by omega
        rw [this]; exact p2
    · obtain ⟨x, q1, q2⟩ := load_cell hrB (stB.ext _ _ hpi) ha2
      rw [conc_mono stB.ext _ _ hs2] at q2
      cases q2
      rw [hrec] at q1; exact q1
    · obtain ⟨x, q1, q2⟩ := load_cell hrB (stB.ext _ _ hpj) hb2
      simp only [conc, Option.some.injEq] at q2
      subst q2
      rw [hrec] at q1; exact q1
  · -- behind it
    rintro e W2 ⟨⟨v, rfl⟩, ρ2, g1, g2, g3, g4, g5⟩
    refine ⟨none, _, by have := run_endLoop (P := P) g3 (by rw [hrec]; simp); rw [hrec] at this; exact this, ?_⟩
    have h5 := g5 (w.heap.size + 1) (by omega) (by omega)
    have h6 := g5 w.heap.size (Nat.le_refl _) (by omega)
    have hsz := (Array.getElem?_eq_some_iff.1 g3).1
    refine hQ ρ2 _ _ (g1.putObj h5) (g2.putObj (by omega)) (hf.mono g2.ext) ?_ hG
    rw [World.putObj_size]
    refine ⟨w.heap.size, rfl, hB, by omega, (World.putObj_heap_other (by omega)).trans g4, h6, ?_⟩
    exact ((hd.step g2 (Nat.le_refl _)).put (by omega))
end
end Ev
end Go.Proofs.YtpppaheennkkpaaGreatDoor

/- A range over slices.Backward where there is nothing: no round. -/
namespace Go.Proofs.YtpppaheennkkpaaGreatDoor
namespace Ev
open Go.RowKit

/-- The closure, called at an empty slice: it yields never. -/
def NoRound (P : Program) (gb : Nat) : Prop := ∀ (n l bs os cap : Nat) (x : Option Addr) (W : World), W.cell? ⟨bs, os, none⟩ = some (.slice x 0 cap) →
  CallsIn Fence.wide n P gb #[.func (.yield l) #[] #[], .pointer (some ⟨bs, os, none⟩)] W fun e W' => (∃ v, e = .returned v) ∧ W' = W

def emptyA : AV → Bool
  | .nils => true
  | .slice _ _ 0 _ => true
  | .osl _ _ _ 0 _ => true
  | _ => false
noncomputable def backA (gb : Nat) (c : Code) (s : St) : Option (Ex × St) := match c with
  | .rangeFunc g _ _ _ => match ev s.f g with
    | some (.fn (.func g') [] [.ptr i 0]) => match Nat.beq g' gb, s.H.load i 0 with
      | true, some v => match emptyA v with
        | true => some (.norm, ⟨s.f, s.H, .coll :: s.ds⟩)
        | false => none
      | _, _ => none
    | _ => none
  | _ => none

section
variable {σ : Nat → Value} {ρ ρ' : Place} {P : Program} {G : Nat → Option Nat} {H H' : Heap} {w w' : World} {call : CallF}

theorem emptyA_conc {v : AV} {x : Value} (h : emptyA v = true) (hx : conc σ ρ v = some x) : ∃ a cap, x = .slice a 0 cap := by
  unfold emptyA at h
  split at h
  · simp only [conc, Option.some.injEq] at hx; exact ⟨_, _, hx.symm⟩
  · obtain ⟨p, _, rfl⟩ := conc_slice hx; exact ⟨_, _, rfl⟩
  · obtain ⟨p, _, _, _, _, rfl⟩ := conc_osl hx; exact ⟨_, _, rfl⟩
  · cases h

theorem backA_ok {gb : Nat} (hno : NoRound P gb) (hent : Enters P gb) {c : Code} {s : St} {e : Ex} {s' : St} (h : backA gb c s = some (e, s')) : CodeOK σ P G c s e s' := by
  unfold backA at h
  split at h
  case h_2 => cases h
  rename_i g ps assign body
  split at h
  case h_2 => cases h
  rename_i g' i hev
  split at h
  case h_2 => cases h
  rename_i v hgb hv
  split at h
  case h_2 => cases h
  rename_i hemp
  cases h
  have hgb := Nat.eq_of_beq_eq_true hgb
  subst hgb
  intro B ρ a w Q hB hG hr hf hd hQ
  obtain ⟨x, y, hx, hy, he⟩ := conc_fn (ev_conc hf hev)
  cases hx
  simp only [concs] at hy
  cases hci : conc σ ρ (.ptr i 0) with
  | none => rw [hci] at hy; simp at hy
  | some vi =>
  rw [hci] at hy
  simp only [Option.some.injEq] at hy
  subst hy
  obtain ⟨pi, hpi, rfl⟩ := conc_ptr hci
  refine (wpIn_wide (n := 2)).1 (wpIn_rangeFunc ?_)
  intro fn _
  obtain ⟨rec, hrec⟩ : ∃ rec : LoopState → Option Code → Loop, rec = fun st pe => { state := st, pending := pe, fn, tmps := a.tmps, params := ps, assign, body, defers := w.heap.size } := ⟨_, rfl⟩
  obtain ⟨W1, hW1⟩ : ∃ W1, (w.alloc (.deferred (some []))).alloc (.loop (rec .ready none)) = W1 := ⟨_, rfl⟩
  have hz1 : W1.heap.size = w.heap.size + 2 := by rw [← hW1]; simp
  have hL1 : W1.heap[w.heap.size + 1]? = some (.loop (rec .ready none)) := by
    rw [← hW1]; have := World.alloc_heap_new (w.alloc (.deferred (some []))) (.loop (rec .ready none)); rwa [World.size_alloc] at this
  have hK1 : W1.heap[w.heap.size]? = some (.deferred (some [])) := by
    rw [← hW1]; exact (Below.heap_alloc _ _ _ (by simp)).trans (World.alloc_heap_new w _)
  have hr1 : HR σ ρ s.H W1.heap := by rw [← hW1]; exact (hr.alloc _).alloc _
  have st1 : Step ρ s.H w ρ s.H W1 := by rw [← hW1]; exact (Step.refl.alloc _).alloc _
  have off0 : ∀ D, w.heap.size ≤ D → ∀ i k p, i < s.H.next → s.H.get i = some k → ρ i = some p → p.b ≠ D := fun D hD i k p _ _ hp e => by have := hr.bound i p hp; omega
  obtain ⟨v1, hc1, hc2⟩ := load_cell hr1 hpi hv
  obtain ⟨ad, cap, rfl⟩ := emptyA_conc hemp hc2
  refine ⟨w.heap.size + 1, [{ target := .collected w.heap.size, args := #[] }], W1, { target := .fn (.func g') #[.pointer (some ⟨pi.b, pi.o + 0, none⟩)], args := #[.func (.yield (w.heap.size + 1)) #[] #[]] }, W1, g',
    #[.func (.yield (w.heap.size + 1)) #[] #[], .pointer (some ⟨pi.b, pi.o + 0, none⟩)], W1, ?_, ?_, fun _ _ => trivial, ?_, fun _ => by omega, ?_⟩
  · rw [← hW1, hrec]; exact run_enterLoop_outer _ _ _ _ _
  · simp [resolve, he, Deferred.ofValue]
    rfl
  · exact callFunc_run hent _ _
  refine (hno 1 (w.heap.size + 1) _ _ _ _ W1 hc1).mono ?_
  rintro e W2 ⟨⟨v, rfl⟩, rfl⟩
  refine ⟨none, _, by have := run_endLoop (P := P) hL1 (by rw [hrec]; simp); rw [hrec] at this; exact this, ?_⟩
  have h5 := off0 (w.heap.size + 1) (by omega)
  have h6 := off0 w.heap.size (Nat.le_refl _)
  refine hQ ρ _ _ (hr1.putObj h5) (st1.putObj (by omega)) hf ?_ hG
  rw [World.putObj_size]
  refine ⟨w.heap.size, rfl, hB, by omega, (World.putObj_heap_other (by omega)).trans hK1, h6, ?_⟩
  exact ((hd.step st1 (Nat.le_refl _)).put (by omega))

/-- Both kinds of range. -/
noncomputable def rangeA (P : Program) (gf gb fuel : Nat) (L0 : Lore) (call : CallF) (c : Code) (s : St) : Option (Ex × St) := match backA gb c s with
  | some r => some r
  | none => chunkA P gf fuel L0 call c s
theorem rangeA_ok (hm : P.follows .mixedOrders = true) (hs : ∀ i, (σ i).oneCell' = true) (hcall : CallsOK σ P G call) {gf gb fuel : Nat} (hone : OneRound P gf) (hent : Enters P gf) (hno : NoRound P gb) (hentb : Enters P gb) {L0 : Lore} {c : Code} {s : St} {e : Ex} {s' : St} (h : rangeA P gf gb fuel L0 call c s = some (e, s')) : CodeOK σ P G c s e s' := by
  unfold rangeA at h
  split at h
  · rename_i r hr
    cases h
    exact backA_ok hno hentb hr
  · exact chunkA_ok hm hs hcall hone hent h
theorem backA_none {gf gb fuel : Nat} (hne : gf ≠ gb) {L0 : Lore} {c : Code} {s : St} {r : Ex × St} (h : chunkA P gf fuel L0 call c s = some r) : backA gb c s = none := by
  unfold chunkA at h
  split at h
  case h_2 => cases h
  rename_i g ps assign body
  split at h
  case h_2 => cases h
  rename_i p g' i j hps hev hpl
  unfold backA
  simp only [hev]
end
end Ev
end Go.Proofs.YtpppaheennkkpaaGreatDoor

/- What a known function leaves: a world that has grown, a row that it made. -/
namespace Go.Proofs.YtpppaheennkkpaaGreatDoor
namespace Ev
open Go.RowKit

section
variable {σ : Nat → Value} {ρ : Place} {H : Heap} {w w' : World}

theorem HR.below (hr : HR σ ρ H w.heap) (hb : Below w.heap.size w w') : HR σ ρ H w'.heap := by
  have hs := hb.size
  refine ⟨hr.small, hr.out, hr.fresh, fun i p hp => by have := hr.bound i p hp; omega, fun i k hi hk => ?_, hr.inj⟩
  obtain ⟨p, h1, h2⟩ := hr.live i k hi hk
  exact ⟨p, h1, by rw [hb.block _ (hr.bound i p h1)]; exact h2⟩
theorem Step.below (hb : Below w.heap.size w w') : Step ρ H w ρ H w' :=
  ⟨.refl _, hb.size, fun c hc _ => hb.block c hc, fun i k p h h' h'' _ => ⟨i, k, p, h, h', h'', rfl⟩, ⟨hb.os, hb.output, hb.tape⟩, Nat.le_refl _, fun _ _ => rfl, fun _ _ h => h, fun _ _ p c _ _ _ _ _ h => ⟨c, (hb.block p.b (Array.getElem?_eq_some_iff.1 h).1).trans h⟩⟩

/-- A row that lies there gets a number. -/
theorem HR.place (hr : HR σ ρ H w.heap) (hn : H.next < 65536) {p : Pl} {k : ABlk} (hp : p.b < w.heap.size) (hno : ∀ i q, ρ i = some q → q.b ≠ p.b) (hb : BR σ (ρ.with H.next p) p w.heap[p.b]? k) :
    HR σ (ρ.with H.next p) (H.add k) w.heap := by
  have hle : ρ.le (ρ.with H.next p) := Place.with_le (hr.fresh _ (Nat.le_refl _))
  refine ⟨hn, fun j hj hj2 => ?_, fun i hi => ?_, fun i q e => ?_, fun j l hj e => ?_, fun j1 j2 l1 l2 q1 q2 h1 h2 e1 e2 p1 p2 hc => ?_⟩
  · have hj' : H.next + 1 ≤ j := hj
    rw [get_add hn hj2, if_neg (by omega)]; exact hr.out j (by omega) hj2
  · have hi' : H.next + 1 ≤ i := hi
    rw [Place.with_ne (by omega)]; exact hr.fresh i (by omega)
  · by_cases hi : i = H.next
    · subst hi; rw [Place.with_self] at e; cases e; exact hp
    · rw [Place.with_ne hi] at e; exact hr.bound _ _ e
  · have hj' : j < H.next + 1 := hj
    rw [get_add hn (by omega)] at e
    split at e
    · rename_i hji; subst hji; cases e
      exact ⟨_, Place.with_self, hb⟩
    · rename_i hji
      obtain ⟨q, a, b⟩ := hr.live j l (by omega) e
      exact ⟨q, hle _ _ a, b.mono hle⟩
  · have h1' : j1 < H.next + 1 := h1
    have h2' : j2 < H.next + 1 := h2
    rw [get_add hn (by omega)] at e1 e2
    by_cases a1 : j1 = H.next
    · by_cases a2 : j2 = H.next
      · omega
      · rw [a1, Place.with_self] at p1; cases p1
        rw [Place.with_ne a2] at p2
        exact absurd hc.symm (hno _ _ p2)
    · rw [Place.with_ne a1] at p1
      by_cases a2 : j2 = H.next
      · rw [a2, Place.with_self] at p2; cases p2
        exact absurd hc (hno _ _ p1)
      · rw [Place.with_ne a2] at p2
        rw [if_neg a1] at e1
        rw [if_neg a2] at e2
        exact hr.inj j1 j2 l1 l2 q1 q2 (by omega) (by omega) e1 e2 p1 p2 hc

/-- A known function has grown the world and made a row. -/
theorem grown_row (hr : HR σ ρ H w.heap) (hn : H.next < 65536) (hb : Below w.heap.size w w') {p : Pl} {k : ABlk} (hp : w.heap.size ≤ p.b) (hlt : p.b < w'.heap.size) (hk : BR σ (ρ.with H.next p) p w'.heap[p.b]? k) :
    HR σ (ρ.with H.next p) (H.add k) w'.heap ∧ Step ρ H w (ρ.with H.next p) (H.add k) w' := by
  have hno : ∀ i q, ρ i = some q → q.b ≠ p.b := fun i q e => by have := hr.bound i q e; omega
  refine ⟨(hr.below hb).place hn hlt hno hk, Place.with_le (hr.fresh _ (Nat.le_refl _)), hb.size, fun c hc _ => hb.block c hc, fun j l q hj e a hc => ?_, ⟨hb.os, hb.output, hb.tape⟩, Nat.le_succ _, fun j hj => Place.with_ne (by omega), fun j hj e => ?_, fun _ _ q c _ _ _ _ _ h => ⟨c, (hb.block q.b (Array.getElem?_eq_some_iff.1 h).1).trans h⟩⟩
  · have hj' : j < H.next + 1 := hj
    by_cases b : j = H.next
    · rw [b, Place.with_self] at a; cases a; omega
    · rw [get_add hn (by omega), if_neg b] at e
      rw [Place.with_ne b] at a
      exact ⟨j, l, q, by omega, e, a, rfl⟩
  · rw [get_add hn (by omega), if_neg (by omega)]; exact e
end
end Ev
end Go.Proofs.YtpppaheennkkpaaGreatDoor
