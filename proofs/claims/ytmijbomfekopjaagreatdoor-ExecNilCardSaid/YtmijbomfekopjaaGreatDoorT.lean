/- A statement whose order Go leaves open, by floating reads: operations that only read, and read the same in whatever world of a class, may be taken first, if the others, in their one order, never leave the class. -/
import Derived.Test.YtmijbomfekopjaaGreatDoorS
namespace Go.Proofs.YtmijbomfekopjaaGreatDoor
open Go.RowKit
section
variable {P : Program} {ops : Array Oper} {md : Region.Mode} {K : World → Prop} {Q : Exit → Act → World → Prop}

/-- In state 'a', in every world of the class, operation 'o' leaves 'v' in its temporary, and the world as it is. -/
def ReadsAs (P : Program) (ops : Array Oper) (K : World → Prop) (o : Oper) (v : Value) (a : Act) : Prop :=
  (Region.wanted o (yielded ops a.tmps) = true ∧ ∀ w, K w → (execOp a.eval o).run P w = .ok (.value v) w) ∨
  (Region.wanted o (yielded ops a.tmps) = false ∧ v = undef)
theorem ReadsAs.wpOp {i : Nat} {o : Oper} {v : Value} {a : Act} (hi : ops[i]? = some o) (hy : ReadsAs P ops K o v a)
    {L : Act → World → Prop} {w : World} (hw : K w) (h : L (a.put o.dst v) w) : wpOp P ops Q i L a w := by
  unfold Go.wpOp
  simp only [hi]
  rcases hy with ⟨hwn, hv⟩ | ⟨hwn, rfl⟩
  · simp only [hwn, if_true, Oper.wp, hv w hw, Oper.upon]; exact .inl h
  · simp only [hwn, Bool.false_eq_true, if_false]; exact h
theorem ReadsAs.of_same {o : Oper} {v : Value} {a a' : Act} (hy : ReadsAs P ops K o v a) (he : execOp a'.eval o = execOp a.eval o)
    (hw : Region.wanted o (yielded ops a'.tmps) = Region.wanted o (yielded ops a.tmps)) : ReadsAs P ops K o v a' := by
  unfold ReadsAs at *
  rw [he, hw]
  exact hy
theorem reads_put {j : Nat} {oi oj : Oper} {v : Value} (hj : ops[j]? = some oj) (hap : oi.apart ops oj = true)
    (hsi : ∀ cs b, oi.op ≠ .select cs b) (hsj : ∀ cs b, oj.op ≠ .select cs b)
    (hQ : ∀ c a w, Q (.panic c) (a.put oi.dst v) w → Q (.panic c) a w) {L : Act → World → Prop} {a : Act} {w : World}
    (hy : ReadsAs P ops K oi v a) (h : wpOp P ops Q j L (a.put oi.dst v) w) :
    wpOp P ops Q j (fun a' w' => ReadsAs P ops K oi v a' ∧ L (a'.put oi.dst v) w') a w := by
  obtain ⟨h1, h2, h3⟩ := Oper.apart_spec hap
  have keep : ∀ (a : Act), ReadsAs P ops K oi v a → ∀ u, ReadsAs P ops K oi v (a.put oj.dst u) := fun a hy u =>
    hy.of_same (execOp_put oi hsi a oj.dst u h3) (wanted_put oi a oj.dst u h3)
  have keepD : ∀ d, ReadsAs P ops K oi v { a with defers := d :: a.defers } := fun d => hy.of_same rfl rfl
  unfold wpOp at *
  simp only [hj] at *
  rw [wanted_put oj a oi.dst v h1] at h
  split
  · rename_i hw
    simp only [hw, if_true] at h
    rcases h with h | ⟨hasks, hlets⟩
    case inr => exact .inr ⟨by unfold Oper.asks at *; rw [execOp_put oj hsj a oi.dst v h1] at hasks; exact hasks, hlets⟩
    refine .inl ?_
    unfold Oper.wp at *
    rw [execOp_put oj hsj a oi.dst v h1] at h
    generalize (execOp a.eval oj).run P w = r at *
    cases r with
    | ok n w' =>
      cases n <;> simp only [Oper.upon] at h ⊢
      case value u => exact ⟨keep a hy u, by rw [← Act.put_comm a v u h2]; exact h⟩
      case skip => exact ⟨keep a hy _, by rw [← Act.put_comm a v undef h2]; exact h⟩
      case defer d =>
        refine ⟨keep _ (keepD d) _, ?_⟩
        rw [← Act.put_comm _ v undef h2, ← Act.put_defers]
        exact h
      case enter f args =>
        refine Calls.mono h fun e w'' he => ?_
        cases e with
        | returned u => exact ⟨keep a hy u, by rw [← Act.put_comm a v u h2]; exact he⟩
        | panicked c => exact hQ _ _ _ he
        | outgrown => exact he
      case row row args => exact Rows.mono h fun u w'' he => ⟨keep a hy u, by rw [← Act.put_comm a v u h2]; exact he⟩
    | halt x w' =>
      cases x <;> simp only [Oper.upon] at h ⊢
      case panic u => exact hQ _ _ _ h
  · rename_i hw
    simp only [hw] at h
    exact ⟨keep a hy _, by rw [← Act.put_comm a v undef h2]; exact h⟩

/-- Whatever order is picked from here on, and never out of the class. -/
def anyK (P : Program) (md : Region.Mode) (ops : Array Oper) (K : World → Prop) (Q : Exit → Act → World → Prop) : Nat → Array Bool → Act → World → Prop
  | 0, listed, a, w => K w ∧ Region.ready md ops listed = [] ∧ Q .normal a w
  | f + 1, listed, a, w => K w ∧ Region.ready md ops listed ≠ [] ∧ ∀ i ∈ Region.ready md ops listed, wpOp P ops Q i (anyK P md ops K Q f (listed.setIfInBounds i true)) a w
theorem anyK_K : ∀ {f : Nat} {listed : Array Bool} {a : Act} {w : World}, anyK P md ops K Q f listed a w → K w
  | 0, _, _, _, h => h.1
  | _ + 1, _, _, _, h => h.1
theorem anyK_any : ∀ (f : Nat) (listed : Array Bool) (a : Act) (w : World), anyK P md ops K Q f listed a w → wpAny P md ops Q f listed a w
  | 0, _, _, _, h => h.2
  | f + 1, _, _, _, h => ⟨fun h0 => absurd h0 h.2.1, fun i hi => wpOp_mono (fun a' w' h' => anyK_any f _ a' w' h') (h.2.2 i hi)⟩

theorem anyK_first {i : Nat} {oi : Oper} {v : Value} (hi : ops[i]? = some oi) (hsel : ∀ (j : Nat) (o : Oper) cs b, ops[j]? = some o → o.op ≠ .select cs b)
    (hQ : ∀ c a w, Q (.panic c) (a.put oi.dst v) w → Q (.panic c) a w) :
    ∀ (f : Nat) (listed : Array Bool) (a : Act) (w : World),
      (∀ j oj, ops[j]? = some oj → j ≠ i → listed.getD j true = false → (∀ e ∈ oj.after, Region.binds md e = true → e.on ≠ i) → oi.apart ops oj = true) →
      i ∈ Region.ready md ops listed → ReadsAs P ops K oi v a →
      anyK P md ops K Q f (listed.setIfInBounds i true) (a.put oi.dst v) w → anyK P md ops K Q (f + 1) listed a w := by
  intro f
  induction f with
  | zero =>
    intro listed a w _ hr hy H
    refine ⟨H.1, fun h => (by rw [h] at hr; cases hr), fun j hj => ?_⟩
    by_cases hji : j = i
    · subst hji; exact hy.wpOp hi H.1 H
    · have := ready_mono hj hji
      rw [H.2.1] at this
      cases this
  | succ f ih =>
    intro listed a w hfree hr hy H
    refine ⟨H.1, fun h => (by rw [h] at hr; cases hr), fun j hj => ?_⟩
    by_cases hji : j = i
    · subst hji; exact hy.wpOp hi H.1 H
    · have h1 := H.2.2 j (ready_mono hj hji)
      obtain ⟨hjun, oj, hoj, hall⟩ := mem_ready.1 hj
      have hun := (mem_ready.1 hr).1
      have hnot : ∀ e ∈ oj.after, Region.binds md e = true → e.on ≠ i := fun e he hb heq => by
        have h1 := hall e he hb
        rw [heq, getD_both hun] at h1
        cases h1
      have h2 := reads_put hoj (hfree j oj hoj hji hjun hnot) (fun cs b => hsel i oi cs b hi) (fun cs b => hsel j oj cs b hoj) hQ hy h1
      have hfree' : ∀ k ok, ops[k]? = some ok → k ≠ i → (listed.setIfInBounds j true).getD k true = false →
          (∀ e ∈ ok.after, Region.binds md e = true → e.on ≠ i) → oi.apart ops ok = true := fun k ok hk hki hun hno => by
        refine hfree k ok hk hki ?_ hno
        by_cases hjk : j = k
        · subst hjk; exact hjun
        · rw [getD_set_ne true hjk] at hun; exact hun
      refine wpOp_mono (fun a' w' h3 => ih (listed.setIfInBounds j true) a' w' hfree' (ready_mono hr (Ne.symm hji)) h3.1 ?_) h2
      rw [Array.setIfInBounds_comm _ _ hji]
      exact h3.2

/-- The reads, in the order given. -/
def wpFloat (P : Program) (ops : Array Oper) (K : World → Prop) (L : Act → Prop) : List Nat → Act → Prop
  | [], a => L a
  | i :: rest, a => ∃ o v, ops[i]? = some o ∧ ReadsAs P ops K o v a ∧ wpFloat P ops K L rest (a.put o.dst v)
/-- The others, in their one order, never out of the class. -/
def wpSeqK (P : Program) (ops : Array Oper) (K : World → Prop) (Q : Exit → Act → World → Prop) : List Nat → Act → World → Prop
  | [], a, w => K w ∧ Q .normal a w
  | i :: rest, a, w => K w ∧ wpOp P ops Q i (wpSeqK P ops K Q rest) a w
theorem anyK_of_seq : ∀ (l : List Nat) (listed : Array Bool) (a : Act) (w : World), seqB md ops l listed = true → wpSeqK P ops K Q l a w → anyK P md ops K Q l.length listed a w
  | [], _, _, _, hB, h => ⟨h.1, by simpa [seqB] using hB, h.2⟩
  | i :: l, listed, a, w, hB, h => by
    simp only [seqB, Bool.and_eq_true, decide_eq_true_eq] at hB
    refine ⟨h.1, fun h1 => (by rw [hB.1] at h1; cases h1), fun j hj => ?_⟩
    rw [hB.1] at hj
    have hik : j = i := by simpa using hj
    subst hik
    exact wpOp_mono (fun a' w' h' => anyK_of_seq l _ a' w' hB.2 h') h.2
theorem anyK_of_float (hQ : ∀ d v c a w, Q (.panic c) (a.put d v) w → Q (.panic c) a w) (hsel : Region.noSelect ops = true) {g : Nat} {L : Act → Prop} :
    ∀ (l : List Nat) (listed : Array Bool) (a : Act) (w : World), freeB md ops l listed = true → wpFloat P ops K L l a →
    (∀ a', L a' → anyK P md ops K Q g (lay listed l) a' w) → anyK P md ops K Q (l.length + g) listed a w
  | [], listed, a, w, _, h, hg => by rw [List.length_nil, Nat.zero_add]; exact hg a h
  | i :: l, listed, a, w, hf, h, hg => by
    simp only [freeB, Bool.and_eq_true] at hf
    obtain ⟨⟨hr, hfr⟩, hf'⟩ := hf
    obtain ⟨o, v, ho, hy, hK⟩ := h
    rw [List.length_cons, show l.length + 1 + g = (l.length + g) + 1 by omega]
    exact anyK_first ho (Region.noSelect_spec hsel) (fun c a w h => hQ _ _ _ _ _ h) (l.length + g) listed a w (Region.free_spec ho hfr) (by simpa using hr) hy
      (anyK_of_float hQ hsel l _ _ w hf' hK (fun a' h' => by have := hg a' h'; rwa [lay_cons] at this))

def floatB (md : Region.Mode) (ops : Array Oper) (rs ts : List Nat) : Bool :=
  let start := Array.replicate ops.size false
  Region.noSelect ops && freeB md ops rs start && seqB md ops ts (lay start rs) && decide (rs.length + ts.length = ops.size)

/-- A region that draws its order: rs float, ts stand in one order. -/
theorem wp_region_float {id : Nat} {a : Act} {w : World} (K : World → Prop) (rs ts : List Nat) (hm : P.follows .mixedOrders = true)
    (hB : floatB .any ops rs ts = true) (hQ : ∀ d v c a w, Q (.panic c) (a.put d v) w → Q (.panic c) a w)
    (h : wpFloat P ops K (fun a' => wpSeqK P ops K Q ts a' w.drew) rs a) : (Code.region id ops true).wp P Q a w := by
  simp only [floatB, Bool.and_eq_true, decide_eq_true_eq] at hB
  obtain ⟨⟨⟨hsel, hrs⟩, hseq⟩, hlen⟩ := hB
  refine wp_region_any hm ?_
  have := anyK_any _ _ _ _ (anyK_of_float (P := P) (K := K) hQ hsel (g := ts.length) rs (Array.replicate ops.size false) a w.drew hrs h (fun a' ha' => anyK_of_seq ts _ a' w.drew hseq ha'))
  rw [hlen] at this
  exact this

/-! The same, where the class is left at last: behind t nothing reads any more (t waits for each read). -/
def anyT (P : Program) (md : Region.Mode) (ops : Array Oper) (K : World → Prop) (Q : Exit → Act → World → Prop) (t : Nat) (T : Array Bool → Act → World → Prop) : Nat → Array Bool → Act → World → Prop
  | 0, listed, a, w => K w ∧ (∀ j ∈ Region.ready md ops listed, j = t) ∧ T listed a w
  | f + 1, listed, a, w => K w ∧ Region.ready md ops listed ≠ [] ∧ ∀ i ∈ Region.ready md ops listed, wpOp P ops Q i (anyT P md ops K Q t T f (listed.setIfInBounds i true)) a w
theorem anyT_any {t g : Nat} {T : Array Bool → Act → World → Prop} (hT : ∀ listed a w, T listed a w → wpAny P md ops Q g listed a w) :
    ∀ (f : Nat) (listed : Array Bool) (a : Act) (w : World), anyT P md ops K Q t T f listed a w → wpAny P md ops Q (f + g) listed a w
  | 0, _, _, _, h => by rw [Nat.zero_add]; exact hT _ _ _ h.2.2
  | f + 1, _, _, _, h => by
    rw [show f + 1 + g = (f + g) + 1 by omega]
    exact ⟨fun h0 => absurd h0 h.2.1, fun i hi => wpOp_mono (fun a' w' h' => anyT_any hT f _ a' w' h') (h.2.2 i hi)⟩
theorem anyT_K {t : Nat} {T : Array Bool → Act → World → Prop} : ∀ {f : Nat} {listed : Array Bool} {a : Act} {w : World}, anyT P md ops K Q t T f listed a w → K w
  | 0, _, _, _, h => h.1
  | _ + 1, _, _, _, h => h.1
theorem anyT_first {i t : Nat} {oi : Oper} {v : Value} {T : Array Bool → Act → World → Prop} (hi : ops[i]? = some oi) (hsel : ∀ (j : Nat) (o : Oper) cs b, ops[j]? = some o → o.op ≠ .select cs b)
    (hQ : ∀ c a w, Q (.panic c) (a.put oi.dst v) w → Q (.panic c) a w) (hwt : Region.waitsFor md ops t i = true) :
    ∀ (f : Nat) (listed : Array Bool) (a : Act) (w : World),
      (∀ j oj, ops[j]? = some oj → j ≠ i → listed.getD j true = false → (∀ e ∈ oj.after, Region.binds md e = true → e.on ≠ i) → oi.apart ops oj = true) →
      i ∈ Region.ready md ops listed → ReadsAs P ops K oi v a →
      anyT P md ops K Q t T f (listed.setIfInBounds i true) (a.put oi.dst v) w → anyT P md ops K Q t T (f + 1) listed a w := by
  intro f
  induction f with
  | zero =>
    intro listed a w _ hr hy H
    refine ⟨H.1, fun h => (by rw [h] at hr; cases hr), fun j hj => ?_⟩
    by_cases hji : j = i
    · subst hji; exact hy.wpOp hi H.1 H
    · have hjt := H.2.1 j (ready_mono hj hji)
      subst hjt
      exfalso
      obtain ⟨oj, hoj, e, he, hb, hon⟩ := Region.waitsFor_spec hwt
      obtain ⟨_, oj', hoj', hall⟩ := mem_ready.1 hj
      have : oj = oj' := Option.some.inj (hoj.symm.trans hoj')
      subst this
      have h2 := hall e he hb
      rw [hon, getD_both (mem_ready.1 hr).1] at h2
      cases h2
  | succ f ih =>
    intro listed a w hfree hr hy H
    refine ⟨H.1, fun h => (by rw [h] at hr; cases hr), fun j hj => ?_⟩
    by_cases hji : j = i
    · subst hji; exact hy.wpOp hi H.1 H
    · have h1 := H.2.2 j (ready_mono hj hji)
      obtain ⟨hjun, oj, hoj, hall⟩ := mem_ready.1 hj
      have hun := (mem_ready.1 hr).1
      have hnot : ∀ e ∈ oj.after, Region.binds md e = true → e.on ≠ i := fun e he hb heq => by
        have h1 := hall e he hb
        rw [heq, getD_both hun] at h1
        cases h1
      have h2 := reads_put hoj (hfree j oj hoj hji hjun hnot) (fun cs b => hsel i oi cs b hi) (fun cs b => hsel j oj cs b hoj) hQ hy h1
      have hfree' : ∀ k ok, ops[k]? = some ok → k ≠ i → (listed.setIfInBounds j true).getD k true = false →
          (∀ e ∈ ok.after, Region.binds md e = true → e.on ≠ i) → oi.apart ops ok = true := fun k ok hk hki hun hno => by
        refine hfree k ok hk hki ?_ hno
        by_cases hjk : j = k
        · subst hjk; exact hjun
        · rw [getD_set_ne true hjk] at hun; exact hun
      refine wpOp_mono (fun a' w' h3 => ih (listed.setIfInBounds j true) a' w' hfree' (ready_mono hr (Ne.symm hji)) h3.1 ?_) h2
      rw [Array.setIfInBounds_comm _ _ hji]
      exact h3.2
/-- The others in their one order; behind ts, no longer in the class, t and ts'. -/
def wpSeqT (P : Program) (ops : Array Oper) (K : World → Prop) (Q : Exit → Act → World → Prop) (ts' : List Nat) : List Nat → Act → World → Prop
  | [], a, w => K w ∧ wpSeq P ops Q ts' a w
  | i :: rest, a, w => K w ∧ wpOp P ops Q i (wpSeqT P ops K Q ts' rest) a w
theorem anyT_of_seq {t : Nat} {ts' : List Nat} : ∀ (l : List Nat) (listed : Array Bool) (a : Act) (w : World), seqB md ops (l ++ t :: ts') listed = true → wpSeqT P ops K Q (t :: ts') l a w →
    anyT P md ops K Q t (fun listed' a' w' => seqB md ops (t :: ts') listed' = true ∧ wpSeq P ops Q (t :: ts') a' w') l.length listed a w
  | [], listed, a, w, hB, h => ⟨h.1, fun j hj => by
      have hB1 := hB
      simp only [List.nil_append, seqB, Bool.and_eq_true, decide_eq_true_eq] at hB1
      rw [hB1.1] at hj; simpa using hj, hB, h.2⟩
  | i :: l, listed, a, w, hB, h => by
    simp only [List.cons_append, seqB, Bool.and_eq_true, decide_eq_true_eq] at hB
    refine ⟨h.1, fun h1 => (by rw [hB.1] at h1; cases h1), fun j hj => ?_⟩
    rw [hB.1] at hj
    have hik : j = i := by simpa using hj
    subst hik
    exact wpOp_mono (fun a' w' h' => anyT_of_seq l _ a' w' hB.2 h') h.2
theorem anyT_of_float {t : Nat} {T : Array Bool → Act → World → Prop} (hQ : ∀ d v c a w, Q (.panic c) (a.put d v) w → Q (.panic c) a w) (hsel : Region.noSelect ops = true) {g : Nat} {L : Act → Prop} :
    ∀ (l : List Nat) (listed : Array Bool) (a : Act) (w : World), (l.all fun i => Region.waitsFor md ops t i) = true → freeB md ops l listed = true → wpFloat P ops K L l a →
    (∀ a', L a' → anyT P md ops K Q t T g (lay listed l) a' w) → anyT P md ops K Q t T (l.length + g) listed a w
  | [], listed, a, w, _, _, h, hg => by rw [List.length_nil, Nat.zero_add]; exact hg a h
  | i :: l, listed, a, w, hwt, hf, h, hg => by
    simp only [freeB, Bool.and_eq_true] at hf
    simp only [List.all_cons, Bool.and_eq_true] at hwt
    obtain ⟨⟨hr, hfr⟩, hf'⟩ := hf
    obtain ⟨o, v, ho, hy, hK⟩ := h
    rw [List.length_cons, show l.length + 1 + g = (l.length + g) + 1 by omega]
    exact anyT_first ho (Region.noSelect_spec hsel) (fun c a w h => hQ _ _ _ _ _ h) hwt.1 (l.length + g) listed a w (Region.free_spec ho hfr) (by simpa using hr) hy
      (anyT_of_float hQ hsel l _ _ w hwt.2 hf' hK (fun a' h' => by have := hg a' h'; rwa [lay_cons] at this))
def floatTB (md : Region.Mode) (ops : Array Oper) (rs ts : List Nat) (t : Nat) (ts' : List Nat) : Bool :=
  let start := Array.replicate ops.size false
  Region.noSelect ops && freeB md ops rs start && seqB md ops (ts ++ t :: ts') (lay start rs) && (rs.all fun i => Region.waitsFor md ops t i) && decide (rs.length + (ts.length + (ts'.length + 1)) = ops.size)
/-- A region that draws its order: rs float, ts stand in one order; t (a store) waits for all reads. -/
theorem wp_region_floats {id : Nat} {a : Act} {w : World} (K : World → Prop) (rs ts : List Nat) (t : Nat) (ts' : List Nat) (hm : P.follows .mixedOrders = true)
    (hB : floatTB .any ops rs ts t ts' = true) (hQ : ∀ d v c a w, Q (.panic c) (a.put d v) w → Q (.panic c) a w)
    (h : wpFloat P ops K (fun a' => wpSeqT P ops K Q (t :: ts') ts a' w.drew) rs a) : (Code.region id ops true).wp P Q a w := by
  simp only [floatTB, Bool.and_eq_true, decide_eq_true_eq] at hB
  obtain ⟨⟨⟨⟨hsel, hrs⟩, hseq⟩, hwt⟩, hlen⟩ := hB
  refine wp_region_any hm ?_
  have := anyT_any (P := P) (K := K) (Q := Q) (t := t) (g := ts'.length + 1) (fun listed' a' w' h => any_of_seq (t :: ts') listed' a' w' h.1 h.2) _ _ _ _
    (anyT_of_float (P := P) (K := K) hQ hsel (g := ts.length) rs (Array.replicate ops.size false) a w.drew hwt hrs h (fun a' ha' => anyT_of_seq ts _ a' w.drew hseq ha'))
  rw [show rs.length + ts.length + (ts'.length + 1) = ops.size by omega] at this
  exact this
theorem seqT_nil {ts' : List Nat} {a : Act} {w : World} (hK : K w) (h : wpSeq P ops Q ts' a w) : wpSeqT P ops K Q ts' [] a w := ⟨hK, h⟩
theorem op_of_list {i : Nat} {a : Act} {w : World} {o : Oper} {L : Act → World → Prop} (ho : ops[i]? = some o) (h1 : wpList P ops (Exit.then L Q) [o] a w) : wpOp P ops Q i L a w := by
  unfold wpOp
  simp only [ho]
  unfold wpList at h1
  split
  · rename_i hw
    simp only [hw, if_true] at h1
    rcases h1 with h1 | h1
    · refine .inl ?_
      unfold Oper.wp at *
      generalize (execOp a.eval o).run P w = r at *
      cases r with
      | ok n w' =>
        cases n <;> simp only [Oper.upon] at h1 ⊢ <;>
          first
            | exact h1
            | exact Calls.mono h1 (fun e w'' he => by cases e <;> exact he)
            | exact Rows.mono h1 (fun _ _ he => he)
      | halt x w' => cases x <;> simp only [Oper.upon] at h1 ⊢ <;> exact h1
    · exact .inr ⟨h1.1, by obtain ⟨a', w', h2⟩ := h1.2; exact ⟨a', w', h2⟩⟩
  · rename_i hw
    simp only [hw] at h1
    exact h1
theorem seqT_cons {ts' : List Nat} {i : Nat} {rest : List Nat} {a : Act} {w : World} {o : Oper} (ho : ops[i]? = some o) (hK : K w)
    (h : ∀ L : Act → World → Prop, (∀ a w, wpSeqT P ops K Q ts' rest a w → L a w) → wpList P ops (Exit.then L Q) [o] a w) : wpSeqT P ops K Q ts' (i :: rest) a w :=
  ⟨hK, op_of_list ho (h _ (fun _ _ h => h))⟩
theorem seq_cons {i : Nat} {rest : List Nat} {a : Act} {w : World} {o : Oper} (ho : ops[i]? = some o)
    (h : ∀ L : Act → World → Prop, (∀ a w, wpSeq P ops Q rest a w → L a w) → wpList P ops (Exit.then L Q) [o] a w) : wpSeq P ops Q (i :: rest) a w :=
  op_of_list ho (h _ (fun _ _ h => h))
theorem seq_nil {a : Act} {w : World} (h : Q .normal a w) : wpSeq P ops Q [] a w := h

/-! Steps. -/
theorem float_nil {L : Act → Prop} {a : Act} (h : L a) : wpFloat P ops K L [] a := h
theorem float_cons {L : Act → Prop} {i : Nat} {rest : List Nat} {a : Act} {o : Oper} (v : Value) (ho : ops[i]? = some o) (hg : o.guard = none) (hy : ∀ w, K w → (execOp a.eval o).run P w = .ok (.value v) w)
    (h : ∀ L' : Act → Prop, (∀ a, wpFloat P ops K L rest a → L' a) → L' (a.put o.dst v)) : wpFloat P ops K L (i :: rest) a :=
  ⟨o, v, ho, .inl ⟨by simp [Region.wanted, hg], hy⟩, h _ (fun _ h => h)⟩
theorem float_move {L : Act → Prop} {i : Nat} {rest : List Nat} {a : Act} {o : Oper} {x : Operand} (ho : ops[i]? = some o) (hg : o.guard = none) (hop : o.op = .move x)
    (h : ∀ L' : Act → Prop, (∀ a, wpFloat P ops K L rest a → L' a) → L' (a.put o.dst (a.eval x))) : wpFloat P ops K L (i :: rest) a :=
  ⟨o, a.eval x, ho, .inl ⟨by simp [Region.wanted, hg], fun w _ => by rw [BigFrame.run_move x hop]⟩, h _ (fun _ h => h)⟩
theorem float_guard {L : Act → Prop} {i : Nat} {rest : List Nat} {a : Act} {o : Oper} (v : Value) (ho : ops[i]? = some o) (hg : Region.wanted o (yielded ops a.tmps) = true) (hy : ∀ w, K w → (execOp a.eval o).run P w = .ok (.value v) w)
    (h : ∀ L' : Act → Prop, (∀ a, wpFloat P ops K L rest a → L' a) → L' (a.put o.dst v)) : wpFloat P ops K L (i :: rest) a :=
  ⟨o, v, ho, .inl ⟨hg, hy⟩, h _ (fun _ h => h)⟩
theorem float_skip {L : Act → Prop} {i : Nat} {rest : List Nat} {a : Act} {o : Oper} (ho : ops[i]? = some o) (hg : Region.wanted o (yielded ops a.tmps) = false)
    (h : ∀ L' : Act → Prop, (∀ a, wpFloat P ops K L rest a → L' a) → L' (a.put o.dst undef)) : wpFloat P ops K L (i :: rest) a :=
  ⟨o, undef, ho, .inr ⟨hg, rfl⟩, h _ (fun _ h => h)⟩
theorem seqK_nil {a : Act} {w : World} (hK : K w) (h : Q .normal a w) : wpSeqK P ops K Q [] a w := ⟨hK, h⟩
theorem seqK_cons {i : Nat} {rest : List Nat} {a : Act} {w : World} {o : Oper} (ho : ops[i]? = some o) (hK : K w)
    (h : ∀ L : Act → World → Prop, (∀ a w, wpSeqK P ops K Q rest a w → L a w) → wpList P ops (Exit.then L Q) [o] a w) : wpSeqK P ops K Q (i :: rest) a w :=
  ⟨hK, op_of_list ho (h _ (fun _ _ h => h))⟩
end
end Go.Proofs.YtmijbomfekopjaaGreatDoor
