/- A statement whose order Go leaves open, by a schedule: what is pure (whatever the world), then what only reads (whatever the world, of a class), then the rest in its one order. -/
import Derived.Test.YtmijbomfekopjaaGreatDoorR
namespace Go.Proofs.YtmijbomfekopjaaGreatDoor
open Go.RowKit
section
variable {P : Program} {ops : Array Oper} {md : Region.Mode} {C : World → Prop}

def lay (listed : Array Bool) (l : List Nat) : Array Bool := l.foldl (fun L i => L.setIfInBounds i true) listed
theorem lay_cons (listed : Array Bool) (i : Nat) (l : List Nat) : lay listed (i :: l) = lay (listed.setIfInBounds i true) l := rfl

/-- The pure part: each yields its value in whatever world. -/
def wpPure (P : Program) (ops : Array Oper) (L : Act → Prop) : List Nat → Act → Prop
  | [], a => L a
  | i :: rest, a => ∃ o v, ops[i]? = some o ∧ Yields P ops o v a ∧ wpPure P ops L rest (a.put o.dst v)
/-- The reading part. -/
def wpReads (P : Program) (ops : Array Oper) (C : World → Prop) (L : Act → Prop) : List Nat → Act → Prop
  | [], a => L a
  | i :: rest, a => ∃ o v, ops[i]? = some o ∧ YieldsIn P ops C o v a ∧ wpReads P ops C L rest (a.put o.dst v)
/-- The part in one order. -/
def wpSeq (P : Program) (ops : Array Oper) (Q : Exit → Act → World → Prop) : List Nat → Act → World → Prop
  | [], a, w => Q .normal a w
  | i :: rest, a, w => wpOp P ops Q i (wpSeq P ops Q rest) a w

def freeB (md : Region.Mode) (ops : Array Oper) : List Nat → Array Bool → Bool
  | [], _ => true
  | i :: l, listed => (Region.ready md ops listed).contains i && Region.free md ops listed i && freeB md ops l (listed.setIfInBounds i true)
def seqB (md : Region.Mode) (ops : Array Oper) : List Nat → Array Bool → Bool
  | [], listed => (Region.ready md ops listed).isEmpty
  | i :: l, listed => decide (Region.ready md ops listed = [i]) && seqB md ops l (listed.setIfInBounds i true)
/-- Each of hs is waited for by a later one of hs, or by t. -/
def sinksB (md : Region.Mode) (ops : Array Oper) (t : Nat) : List Nat → Bool
  | [] => true
  | i :: l => (t :: l).any (fun j => Region.waitsFor md ops j i) && sinksB md ops t l
def chainsB (md : Region.Mode) (ops : Array Oper) : Nat → List Nat → Bool
  | _, [] => true
  | t, u :: l => Region.waitsFor md ops u t && chainsB md ops u l
/-- All operations are of hs or of ts, or are listed. -/
def allB (ops : Array Oper) (listed : Array Bool) (hs ts : List Nat) : Bool := (List.range ops.size).all fun i => listed.getD i true || hs.contains i || ts.contains i

structure SInv (md : Region.Mode) (ops : Array Oper) (hs ts : List Nat) (listed : Array Bool) : Prop where
  size : listed.size = ops.size
  closed : ∀ j oj, ops[j]? = some oj → listed.getD j false = true → ∀ e ∈ oj.after, Region.binds md e = true → listed.getD e.on false = true
  tail : ∀ t ∈ ts, listed.getD t true = false
  all : ∀ i, listed.getD i true = false → i ∈ hs ∨ i ∈ ts

theorem SInv.set {hs ts : List Nat} {i : Nat} {listed : Array Bool} (inv : SInv md ops hs ts listed) (hi : i ∈ Region.ready md ops listed) (hin : i ∉ ts) : SInv md ops hs ts (listed.setIfInBounds i true) := by
  obtain ⟨_, oi, hoi, hall⟩ := mem_ready.1 hi
  refine ⟨by simp [inv.size], fun j oj hj hl e he hb => ?_, fun t ht => by rw [getD_set_ne true (fun h => hin (by rw [h]; exact ht))]; exact inv.tail t ht, fun k hk => ?_⟩
  · by_cases hij : i = j
    · subst hij
      have : oj = oi := Option.some.inj (hj.symm.trans hoi)
      subst this
      exact getD_set_true (hall e he hb)
    · rw [getD_set_ne false hij] at hl
      exact getD_set_true (inv.closed j oj hj hl e he hb)
  · by_cases hik : i = k
    · subst hik
      have hlt : i < listed.size := by rw [inv.size]; exact (Array.getElem?_eq_some_iff.1 hoi).1
      simp [hlt] at hk
    · rw [getD_set_ne true hik] at hk
      exact inv.all k hk

theorem chains_wait {ts : List Nat} {t u : Nat} (h : chainsB md ops t ts = true) (hu : u ∈ ts) : ∃ v, v ∈ t :: ts ∧ Region.waitsFor md ops u v = true := by
  induction ts generalizing t with
  | nil => cases hu
  | cons x l ih =>
    simp only [chainsB, Bool.and_eq_true] at h
    rcases List.mem_cons.1 hu with rfl | hu
    · exact ⟨t, by simp, h.1⟩
    · obtain ⟨v, hv, hw⟩ := ih h.2 hu
      exact ⟨v, List.mem_cons_of_mem _ hv, hw⟩

theorem tail_not {hs ts : List Nat} {t0 : Nat} {listed : Array Bool} (hs' : List Nat) (hss : sinksB md ops t0 hs' = true) (hc : chainsB md ops t0 ts = true) (inv : SInv md ops hs (t0 :: ts) listed)
    (hun : ∃ i ∈ hs', listed.getD i true = false) : ∀ t ∈ t0 :: ts, t ∉ Region.ready md ops listed := by
  intro t ht hr
  obtain ⟨_, ot, hot, hall⟩ := mem_ready.1 hr
  rcases List.mem_cons.1 ht with rfl | ht
  · clear hc
    induction hs' with
    | nil => obtain ⟨i, hi, _⟩ := hun; cases hi
    | cons x l ih =>
      simp only [sinksB, Bool.and_eq_true] at hss
      by_cases hx : listed.getD x true = false
      · obtain ⟨j, hj, hw⟩ := List.any_eq_true.1 hss.1
        obtain ⟨oj, hoj, e, he, hb, hon⟩ := Region.waitsFor_spec hw
        rcases List.mem_cons.1 hj with rfl | hj
        · have : oj = ot := Option.some.inj (hoj.symm.trans hot)
          subst this
          have h2 := hall e he hb
          rw [hon, getD_both hx] at h2
          cases h2
        · refine ih ⟨j, hj, ?_⟩ hss.2
          cases hl : listed.getD j false with
          | true =>
            have h2 := inv.closed j oj hoj hl e he hb
            rw [hon, getD_both hx] at h2
            cases h2
          | false =>
            have hjs : j < listed.size := by rw [inv.size]; exact (Array.getElem?_eq_some_iff.1 hoj).1
            exact getD_in hjs hl
      · refine ih ?_ hss.2
        obtain ⟨i, hi, hu⟩ := hun
        rcases List.mem_cons.1 hi with rfl | hi
        · exact absurd hu hx
        · exact ⟨i, hi, hu⟩
  · obtain ⟨v, hv, hw⟩ := chains_wait hc ht
    obtain ⟨oj, hoj, e, he, hb, hon⟩ := Region.waitsFor_spec hw
    have : oj = ot := Option.some.inj (hoj.symm.trans hot)
    subst this
    have h2 := hall e he hb
    rw [hon, getD_both (inv.tail v hv)] at h2
    cases h2

/-- Whatever order is picked for the operations of hs, L holds behind them. -/
def anyR (P : Program) (md : Region.Mode) (ops : Array Oper) (C : World → Prop) (L : Array Bool → Act → Prop) : Nat → Array Bool → Act → Prop
  | 0, listed, a => L listed a
  | f + 1, listed, a => Region.ready md ops listed ≠ [] ∧ ∀ i ∈ Region.ready md ops listed, qOp P ops C i (anyR P md ops C L f (listed.setIfInBounds i true)) a

theorem any_of_reads {g : Nat} {L : Array Bool → Act → Prop} {Q : Exit → Act → World → Prop}
    (hL : ∀ listed a w, C w → L listed a → wpAny P md ops Q g listed a w) :
    ∀ (f : Nat) (listed : Array Bool) (a : Act) (w : World), C w → anyR P md ops C L f listed a → wpAny P md ops Q (f + g) listed a w
  | 0, listed, a, w, hw, h => by rw [Nat.zero_add]; exact hL _ _ _ hw h
  | f + 1, listed, a, w, hw, h => by
    rw [show f + 1 + g = (f + g) + 1 by omega]
    exact ⟨fun h0 => absurd h0 h.1, fun i hi => wpOp_of_qOp hw (fun a' w' hw' h' => any_of_reads hL f _ a' w' hw' h') (h.2 i hi)⟩

theorem reads_first {i : Nat} {oi : Oper} {v : Value} {L : Array Bool → Act → Prop} {hs ts : List Nat} {t0 : Nat} (hi : ops[i]? = some oi)
    (hsel : ∀ (j : Nat) (o : Oper) cs b, ops[j]? = some o → o.op ≠ .select cs b)
    (hss : sinksB md ops t0 hs = true) (hc : chainsB md ops t0 ts = true) (hih : i ∈ hs)
    (hdone : ∀ listed a, L listed a → ∀ j ∈ Region.ready md ops listed, j = t0) :
    ∀ (f : Nat) (listed : Array Bool) (a : Act), SInv md ops hs (t0 :: ts) listed →
      (∀ j oj, ops[j]? = some oj → j ≠ i → listed.getD j true = false → (∀ e ∈ oj.after, Region.binds md e = true → e.on ≠ i) → oi.apart ops oj = true) →
      i ∈ Region.ready md ops listed → YieldsIn P ops C oi v a →
      anyR P md ops C L f (listed.setIfInBounds i true) (a.put oi.dst v) → anyR P md ops C L (f + 1) listed a := by
  have small : ∀ (listed : Array Bool), SInv md ops hs (t0 :: ts) listed → i ∈ Region.ready md ops listed → ∀ j ∈ Region.ready md ops listed, j ∉ t0 :: ts := by
    intro listed inv hr j hj hjt
    exact tail_not hs hss hc inv ⟨i, hih, (mem_ready.1 hr).1⟩ j hjt hj
  intro f
  induction f with
  | zero =>
    intro listed a inv _ hr hy H
    refine ⟨fun h => (by rw [h] at hr; cases hr), fun j hj => ?_⟩
    by_cases hji : j = i
    · subst hji; exact hy.qOp hi H
    · have := hdone _ _ H j (ready_mono hj hji)
      exact absurd (by rw [this]; simp) (small listed inv hr j hj)
  | succ f ih =>
    intro listed a inv hfree hr hy H
    have hun := (mem_ready.1 hr).1
    refine ⟨fun h => (by rw [h] at hr; cases hr), fun j hj => ?_⟩
    by_cases hji : j = i
    · subst hji; exact hy.qOp hi H
    · have h1 := H.2 j (ready_mono hj hji)
      obtain ⟨hjun, oj, hoj, hall⟩ := mem_ready.1 hj
      have hnot : ∀ e ∈ oj.after, Region.binds md e = true → e.on ≠ i := fun e he hb heq => by
        have h1 := hall e he hb
        rw [heq, getD_both hun] at h1
        cases h1
      have h2 := qOp_put hoj (hfree j oj hoj hji hjun hnot) (fun cs b => hsel i oi cs b hi) (fun cs b => hsel j oj cs b hoj) hy h1
      have hfree' : ∀ k ok, ops[k]? = some ok → k ≠ i → (listed.setIfInBounds j true).getD k true = false →
          (∀ e ∈ ok.after, Region.binds md e = true → e.on ≠ i) → oi.apart ops ok = true := fun k ok hk hki hun hno => by
        refine hfree k ok hk hki ?_ hno
        by_cases hjk : j = k
        · subst hjk; exact hjun
        · rw [getD_set_ne true hjk] at hun; exact hun
      refine qOp_mono (fun a' h3 => ih (listed.setIfInBounds j true) a' (inv.set hj (small listed inv hr j hj)) hfree' (ready_mono hr (Ne.symm hji)) h3.1 ?_) h2
      rw [Array.setIfInBounds_comm _ _ hji]
      exact h3.2

theorem reads_lex {Lq : Act → Prop} {hs ts : List Nat} {t0 : Nat} (hsel : Region.noSelect ops = true) (hss : sinksB md ops t0 hs = true) (hc : chainsB md ops t0 ts = true) :
    ∀ (l : List Nat) (listed : Array Bool) (a : Act), (∀ i ∈ l, i ∈ hs) → SInv md ops hs (t0 :: ts) listed → (∀ i ∈ l, i ∉ t0 :: ts) →
    freeB md ops l listed = true → seqB md ops (t0 :: ts) (lay listed l) = true → wpReads P ops C Lq l a →
    anyR P md ops C (fun listed' a' => seqB md ops (t0 :: ts) listed' = true ∧ Lq a') l.length listed a
  | [], listed, a, _, _, _, _, hB, h => ⟨hB, h⟩
  | i :: l, listed, a, hl, inv, hnt, hf, hB, h => by
    simp only [freeB, Bool.and_eq_true] at hf
    obtain ⟨⟨hr, hfr⟩, hf'⟩ := hf
    obtain ⟨o, v, ho, hy, hK⟩ := h
    have hr' : i ∈ Region.ready md ops listed := by simpa using hr
    exact reads_first ho (Region.noSelect_spec hsel) hss hc (hl i (by simp)) (fun listed' a' hL j hj => by
        have h1 := hL.1
        simp only [seqB, Bool.and_eq_true, decide_eq_true_eq] at h1
        rw [h1.1] at hj
        simpa using hj) l.length listed a inv (Region.free_spec ho hfr) hr' hy
      (reads_lex hsel hss hc l _ _ (fun j hj => hl j (by simp [hj])) (inv.set hr' (hnt i (by simp))) (fun j hj => hnt j (by simp [hj])) hf' (by rw [lay_cons] at hB; exact hB) hK)

theorem any_of_seq {Q : Exit → Act → World → Prop} : ∀ (l : List Nat) (listed : Array Bool) (a : Act) (w : World),
    seqB md ops l listed = true → wpSeq P ops Q l a w → wpAny P md ops Q l.length listed a w
  | [], _, _, _, hB, h => ⟨by simpa [seqB] using hB, h⟩
  | i :: l, listed, a, w, hB, h => by
    simp only [seqB, Bool.and_eq_true, decide_eq_true_eq] at hB
    refine ⟨fun h1 => (by rw [hB.1] at h1; cases h1), fun j hj => ?_⟩
    rw [hB.1] at hj
    have hik : j = i := by simpa using hj
    subst hik
    exact wpOp_mono (fun a' w' h' => any_of_seq l _ a' w' hB.2 h') h

theorem any_of_pure {Q : Exit → Act → World → Prop} (hQ : ∀ d v c a w, Q (.panic c) (a.put d v) w → Q (.panic c) a w) (hsel : Region.noSelect ops = true) {g : Nat} {L : Act → Prop} :
    ∀ (l : List Nat) (listed : Array Bool) (a : Act) (w : World), freeB md ops l listed = true → wpPure P ops L l a →
    (∀ a', L a' → wpAny P md ops Q g (lay listed l) a' w) → wpAny P md ops Q (l.length + g) listed a w
  | [], listed, a, w, _, h, hg => by rw [List.length_nil, Nat.zero_add]; exact hg a h
  | i :: l, listed, a, w, hf, h, hg => by
    simp only [freeB, Bool.and_eq_true] at hf
    obtain ⟨⟨hr, hfr⟩, hf'⟩ := hf
    obtain ⟨o, v, ho, hy, hK⟩ := h
    rw [List.length_cons, show l.length + 1 + g = (l.length + g) + 1 by omega]
    exact wpAny_first ho (Region.noSelect_spec hsel) (fun c a w h => hQ _ _ _ _ _ h) (l.length + g) listed a w (Region.free_spec ho hfr) (by simpa using hr) hy
      (any_of_pure hQ hsel l _ _ w hf' hK (fun a' h' => by have := hg a' h'; rwa [lay_cons] at this))

/-- The schedule's checks, all at once. -/
def schedB (md : Region.Mode) (ops : Array Oper) (ps hs : List Nat) (t0 : Nat) (ts : List Nat) : Bool :=
  let start := Array.replicate ops.size false
  let mid := lay start ps
  Region.noSelect ops && freeB md ops ps start && freeB md ops hs mid && seqB md ops (t0 :: ts) (lay mid hs) && sinksB md ops t0 hs && chainsB md ops t0 ts &&
    allB ops mid hs (t0 :: ts) && ((t0 :: ts).all fun t => !mid.getD t true) && (hs.all fun i => !(t0 :: ts).contains i) && decide (ps.length + (hs.length + (ts.length + 1)) = ops.size)

theorem lay_size (l : List Nat) : ∀ (listed : Array Bool), (lay listed l).size = listed.size := by
  induction l with
  | nil => intro listed; rfl
  | cons i l ih => intro listed; rw [lay_cons, ih]; simp
theorem lay_closed {l : List Nat} : ∀ (listed : Array Bool), freeB md ops l listed = true →
    (∀ j oj, ops[j]? = some oj → listed.getD j false = true → ∀ e ∈ oj.after, Region.binds md e = true → listed.getD e.on false = true) →
    ∀ j oj, ops[j]? = some oj → (lay listed l).getD j false = true → ∀ e ∈ oj.after, Region.binds md e = true → (lay listed l).getD e.on false = true := by
  induction l with
  | nil => intro listed _ h; exact h
  | cons i l ih =>
    intro listed hf h
    simp only [freeB, Bool.and_eq_true] at hf
    obtain ⟨⟨hr, _⟩, hf'⟩ := hf
    obtain ⟨_, oi, hoi, hall⟩ := mem_ready.1 (show i ∈ Region.ready md ops listed by simpa using hr)
    rw [lay_cons]
    refine ih _ hf' fun j oj hj hl e he hb => ?_
    by_cases hij : i = j
    · subst hij
      have : oj = oi := Option.some.inj (hj.symm.trans hoi)
      subst this
      exact getD_set_true (hall e he hb)
    · rw [getD_set_ne false hij] at hl
      exact getD_set_true (h j oj hj hl e he hb)

/-- A region that draws its order, by a schedule. -/
theorem wp_region_sched {id : Nat} {Q : Exit → Act → World → Prop} {a : Act} {w : World} (ps hs : List Nat) (t0 : Nat) (ts : List Nat) (hm : P.follows .mixedOrders = true)
    (hB : schedB .any ops ps hs t0 ts = true) (hQ : ∀ d v c a w, Q (.panic c) (a.put d v) w → Q (.panic c) a w) (hC : C w.drew)
    (h : wpPure P ops (wpReads P ops C (fun a' => ∀ w', C w' → wpSeq P ops Q (t0 :: ts) a' w') hs) ps a) : (Code.region id ops true).wp P Q a w := by
  simp only [schedB, Bool.and_eq_true, decide_eq_true_eq] at hB
  obtain ⟨⟨⟨⟨⟨⟨⟨⟨⟨hsel, hps⟩, hhs⟩, hseq⟩, hsink⟩, hch⟩, hall⟩, htl⟩, hdis⟩, hlen⟩ := hB
  refine wp_region_any hm ?_
  have := any_of_pure (P := P) (Q := Q) (g := hs.length + (ts.length + 1)) hQ hsel ps (Array.replicate ops.size false) a w.drew hps h (fun a' ha' => by
    have hinv : SInv .any ops hs (t0 :: ts) (lay (Array.replicate ops.size false) ps) := by
      refine ⟨by rw [lay_size]; simp, lay_closed _ hps (fun j oj _ hl => by rw [getD_replicate_false] at hl; cases hl), fun t ht => ?_, fun i hi => ?_⟩
      · have := List.all_eq_true.1 htl t ht
        simpa using this
      · have hlt : i < ops.size := by
          have hs1 : (lay (Array.replicate ops.size false) ps).size = ops.size := by rw [lay_size]; simp
          rcases Nat.lt_or_ge i ops.size with h' | h'
          · exact h'
          · have hn : (lay (Array.replicate ops.size false) ps)[i]? = none := by rw [Array.getElem?_eq_none_iff, hs1]; exact h'
            rw [Array.getD_eq_getD_getElem?, hn] at hi
            cases hi
        have := List.all_eq_true.1 hall i (List.mem_range.2 hlt)
        simp only [Bool.or_eq_true, hi, Bool.false_eq_true, false_or, List.contains_iff_mem] at this
        exact this
    have H := reads_lex (P := P) (C := C) hsel hsink hch hs _ a' (fun i hi => hi) hinv (fun i hi hit => by
      have := List.all_eq_true.1 hdis i hi
      have h2 : (t0 :: ts).contains i = true := List.contains_iff_mem.2 hit
      rw [h2] at this; cases this) hhs hseq ha'
    exact any_of_reads (Q := Q) (g := ts.length + 1) (fun listed' a'' w'' hw'' hL => any_of_seq (t0 :: ts) listed' a'' w'' hL.1 (hL.2 w'' hw'')) _ _ _ _ hC H)
  rw [hlen] at this
  exact this

/-! The parts as the walk's own lists. -/
theorem reads_of_quiet {L : Act → Prop} : ∀ (hs : List Nat) (l : List Oper) (a : Act), hs.map (fun i => ops[i]?) = l.map some → wpQuiet P ops C L l a → wpReads P ops C L hs a
  | [], [], _, _, h => h
  | [], _ :: _, _, e, _ => by simp at e
  | _ :: _, [], _, e, _ => by simp at e
  | i :: hs, o :: l, a, e, h => by
    simp only [List.map_cons, List.cons.injEq] at e
    have hq : qOp P ops C i (wpQuiet P ops C L l) a := by unfold qOp; simp only [e.1]; exact h
    obtain ⟨v, hy, hK⟩ := yieldsIn_of_qOp e.1 hq
    exact ⟨o, v, e.1, hy, reads_of_quiet hs l _ e.2 hK⟩
theorem reads_range {L : Act → Prop} {l : List Oper} (a m : Nat) {act : Act} (hl : a + m ≤ l.length) (h : wpQuiet P l.toArray C L ((l.drop a).take m) act) : wpReads P l.toArray C L (List.range' a m) act := by
  refine reads_of_quiet _ _ _ ?_ h
  apply List.ext_getElem?
  intro j
  simp only [List.getElem?_map, List.getElem?_take, List.getElem?_drop, List.getElem?_toArray]
  by_cases hj : j < m
  · rw [List.getElem?_range' hj, if_pos hj]
    have h1 : a + j < l.length := by omega
    simp [h1]
  · rw [if_neg hj, List.getElem?_eq_none (by simp; omega)]
    rfl
theorem seq_of_list {Q : Exit → Act → World → Prop} : ∀ (ts : List Nat) (l : List Oper) (a : Act) (w : World), ts.map (fun i => ops[i]?) = l.map some → wpList P ops Q l a w → wpSeq P ops Q ts a w
  | [], [], _, _, _, h => h
  | [], _ :: _, _, _, e, _ => by simp at e
  | _ :: _, [], _, _, e, _ => by simp at e
  | i :: ts, o :: l, a, w, e, h => by
    simp only [List.map_cons, List.cons.injEq] at e
    have hq : wpOp P ops Q i (wpList P ops Q l) a w := by unfold wpOp; simp only [e.1]; exact h
    exact wpOp_mono (fun a' w' h' => seq_of_list ts l a' w' e.2 h') hq
theorem seq_range {Q : Exit → Act → World → Prop} {l : List Oper} (a m : Nat) {act : Act} {w : World} (hl : a + m = l.length) (h : wpList P l.toArray Q (l.drop a) act w) : wpSeq P l.toArray Q (List.range' a m) act w := by
  refine seq_of_list _ _ _ _ ?_ h
  apply List.ext_getElem?
  intro j
  simp only [List.getElem?_map, List.getElem?_drop, List.getElem?_toArray]
  by_cases hj : j < m
  · rw [List.getElem?_range' hj]
    have h1 : a + j < l.length := by omega
    simp [h1]
  · rw [List.getElem?_eq_none (by simp; omega), List.getElem?_eq_none (by omega)]
    rfl
theorem pure_cons {L : Act → Prop} {i : Nat} {rest : List Nat} {a : Act} {o : Oper} {v : Value} (ho : ops[i]? = some o) (hy : Yields P ops o v a)
    (h : ∀ K : Act → Prop, (∀ a, wpPure P ops L rest a → K a) → K (a.put o.dst v)) : wpPure P ops L (i :: rest) a := ⟨o, v, ho, hy, h _ (fun _ h => h)⟩
theorem pure_nil {L : Act → Prop} {a : Act} (h : L a) : wpPure P ops L [] a := h
theorem reads_cons {L : Act → Prop} {i : Nat} {rest : List Nat} {a : Act} {o : Oper} {v : Value} (ho : ops[i]? = some o) (hy : YieldsIn P ops C o v a)
    (h : ∀ K : Act → Prop, (∀ a, wpReads P ops C L rest a → K a) → K (a.put o.dst v)) : wpReads P ops C L (i :: rest) a := ⟨o, v, ho, hy, h _ (fun _ h => h)⟩
theorem reads_append {L : Act → Prop} : ∀ (h1 h2 : List Nat) {a : Act}, wpReads P ops C (wpReads P ops C L h2) h1 a → wpReads P ops C L (h1 ++ h2) a
  | [], _, _, h => h
  | _ :: h1, h2, _, ⟨o, v, ho, hy, h⟩ => ⟨o, v, ho, hy, reads_append h1 h2 h⟩
theorem seq_three {Q : Exit → Act → World → Prop} {i j k : Nat} {oi oj ok : Oper} {a : Act} {w : World} (hi : ops[i]? = some oi) (hj : ops[j]? = some oj) (hk : ops[k]? = some ok) (h : wpList P ops Q [oi, oj, ok] a w) : wpSeq P ops Q [i, j, k] a w :=
  seq_of_list [i, j, k] [oi, oj, ok] a w (by simp [hi, hj, hk]) h
theorem yields_move {o : Oper} {a : Act} {x : Operand} (ho : o.op = .move x) (hg : o.guard = none) : Yields P ops o (a.eval x) a :=
  .inl ⟨by simp [Region.wanted, hg], fun w => by rw [BigFrame.run_move x ho]⟩
theorem yields_run {o : Oper} {a : Act} {v : Value} (hg : o.guard = none) (h : ∀ w, (execOp a.eval o).run P w = .ok (.value v) w) : Yields P ops o v a :=
  .inl ⟨by simp [Region.wanted, hg], h⟩
end
end Go.Proofs.YtmijbomfekopjaaGreatDoor
