/- A statement whose order Go leaves open: what reads first (in whatever order), then some operations in one order (a call), then what reads (in whatever order). -/
import Derived.Test.YtmijbomfekopjaaGreatDoorR
namespace Go.Proofs.YtmijbomfekopjaaGreatDoor
open Go.RowKit
section
variable {P : Program} {ops : Array Oper} {md : Region.Mode} {C : World → Prop}

/-- Each operation behind n waits for one from n on. -/
def behindB (md : Region.Mode) (ops : Array Oper) (n : Nat) : Bool :=
  (List.range ops.size).all fun t => decide (t ≤ n) || ((List.range t).any fun v => decide (n ≤ v) && Region.waitsFor md ops t v)
def midSeqB (md : Region.Mode) (ops : Array Oper) (g : Nat) : Nat → Nat → Array Bool → Bool
  | 0, pos, listed => Region.lexFrom md ops g pos listed
  | k + 1, pos, listed => decide (Region.ready md ops listed = [pos]) && midSeqB md ops g k (pos + 1) (listed.setIfInBounds pos true)
def midHeadB (md : Region.Mode) (ops : Array Oper) (k g : Nat) : Nat → Nat → Array Bool → Bool
  | 0, pos, listed => midSeqB md ops g k pos listed
  | f + 1, pos, listed => (Region.ready md ops listed).contains pos && Region.free md ops listed pos && midHeadB md ops k g f (pos + 1) (listed.setIfInBounds pos true)
def midB (md : Region.Mode) (ops : Array Oper) (n k : Nat) : Bool :=
  Region.noSelect ops && decide (n + k ≤ ops.size) && decide (0 < k) && Region.sinkB md ops n && behindB md ops n && midHeadB md ops k (ops.size - n - k) n 0 (Array.replicate ops.size false)

theorem tail_waits2 {n : Nat} {listed : Array Bool} (hs : Region.sinkB md ops n = true) (hc : behindB md ops n = true) (inv : HeadInv md ops n listed) :
    ∀ (d i : Nat), n - i = d → i < n → listed.getD i true = false → ∀ t, n ≤ t → t ∉ Region.ready md ops listed := by
  intro d
  induction d using Nat.strongRecOn with
  | _ d ih =>
    intro i hd hi hun t ht hr
    obtain ⟨_, ot, hot, hall⟩ := mem_ready.1 hr
    have htlt : t < ops.size := (Array.getElem?_eq_some_iff.1 hot).1
    by_cases htn : t = n
    · subst htn
      have h1 := List.all_eq_true.1 hs i (List.mem_range.2 hi)
      obtain ⟨j, hj, hj2⟩ := List.any_eq_true.1 h1
      simp only [Bool.and_eq_true, decide_eq_true_eq] at hj2
      obtain ⟨oj, hoj, e, he, hb, hon⟩ := Region.waitsFor_spec hj2.2
      have hjle : j ≤ t := by have := List.mem_range.1 hj; omega
      by_cases hjt : j = t
      · subst hjt
        have : oj = ot := Option.some.inj (hoj.symm.trans hot)
        subst this
        have h2 := hall e he hb
        rw [hon, getD_both hun] at h2
        cases h2
      · cases hl : listed.getD j false with
        | true =>
          have h2 := inv.closed j oj hoj hl e he hb
          rw [hon, getD_both hun] at h2
          cases h2
        | false =>
          have hjs : j < listed.size := by rw [inv.size]; omega
          exact ih (t - j) (by omega) j rfl (by omega) (getD_in hjs hl) t (Nat.le_refl _) hr
    · have h1 := List.all_eq_true.1 hc t (List.mem_range.2 htlt)
      simp only [Bool.or_eq_true, decide_eq_true_eq] at h1
      rcases h1 with h1 | h1
      · omega
      · obtain ⟨v, hv, hv2⟩ := List.any_eq_true.1 h1
        simp only [Bool.and_eq_true, decide_eq_true_eq] at hv2
        obtain ⟨oj, hoj, e, he, hb, hon⟩ := Region.waitsFor_spec hv2.2
        have : oj = ot := Option.some.inj (hoj.symm.trans hot)
        subst this
        have h2 := hall e he hb
        have h3 := inv.tail v hv2.1 (by have := List.mem_range.1 hv; omega)
        rw [hon, getD_both h3] at h2
        cases h2

theorem head_first2 {n i : Nat} {oi : Oper} {v : Value} {L : Array Bool → Act → Prop} (hi : ops[i]? = some oi)
    (hsel : ∀ (j : Nat) (o : Oper) cs b, ops[j]? = some o → o.op ≠ .select cs b)
    (hs : Region.sinkB md ops n = true) (hc : behindB md ops n = true) (hin : i < n)
    (hdone : ∀ listed a, L listed a → ∀ j ∈ Region.ready md ops listed, n ≤ j) :
    ∀ (f : Nat) (listed : Array Bool) (a : Act), HeadInv md ops n listed →
      (∀ j oj, ops[j]? = some oj → j ≠ i → listed.getD j true = false → (∀ e ∈ oj.after, Region.binds md e = true → e.on ≠ i) → oi.apart ops oj = true) →
      i ∈ Region.ready md ops listed → YieldsIn P ops C oi v a →
      anyH P md ops C n L f (listed.setIfInBounds i true) (a.put oi.dst v) → anyH P md ops C n L (f + 1) listed a := by
  have small : ∀ (listed : Array Bool), HeadInv md ops n listed → i ∈ Region.ready md ops listed → ∀ j ∈ Region.ready md ops listed, j < n := by
    intro listed inv hr j hj
    rcases Nat.lt_or_ge j n with h | h
    · exact h
    · exact absurd hj (tail_waits2 hs hc inv _ i rfl hin (mem_ready.1 hr).1 j h)
  intro f
  induction f with
  | zero =>
    intro listed a inv _ hr hy H
    refine ⟨fun h => (by rw [h] at hr; cases hr), fun j hj => ?_⟩
    have hjn := small listed inv hr j hj
    refine ⟨hjn, ?_⟩
    by_cases hji : j = i
    · subst hji; exact hy.qOp hi H
    · have := hdone _ _ H j (ready_mono hj hji)
      omega
  | succ f ih =>
    intro listed a inv hfree hr hy H
    have hun := (mem_ready.1 hr).1
    refine ⟨fun h => (by rw [h] at hr; cases hr), fun j hj => ?_⟩
    have hjn := small listed inv hr j hj
    refine ⟨hjn, ?_⟩
    by_cases hji : j = i
    · subst hji; exact hy.qOp hi H
    · have h1 := (H.2 j (ready_mono hj hji)).2
      obtain ⟨hjun, oj, hoj, hall⟩ := mem_ready.1 hj
      have hnot : ∀ e ∈ oj.after, Region.binds md e = true → e.on ≠ i := fun e he hb heq => by
        have h1 := hall e he hb
        rw [heq, getD_both hun] at h1
        cases h1
      have h2 := qOp_put hoj (hfree j oj hoj hji hjun hnot) (fun cs b => hsel i oi cs b hi) (fun cs b => hsel j oj cs b hoj) hy h1
      have hfree' : ∀ k ok, ops[k]? = some ok → k ≠ i → (listed.setIfInBounds j true).getD k true = false →
          (∀ e ∈ ok.after, Region.binds md e = true → e.on ≠ i) → oi.apart ops ok = true := fun k ok hk hki hun hno => by
        refine hfree k ok hk hki ?_ hno
        by_cases hjk : j = k
        · subst hjk; exact hjun
        · rw [getD_set_ne true hjk] at hun; exact hun
      refine qOp_mono (fun a' h3 => ih (listed.setIfInBounds j true) a' (inv.set hj hjn) hfree' (ready_mono hr (Ne.symm hji)) h3.1 ?_) h2
      rw [Array.setIfInBounds_comm _ _ hji]
      exact h3.2

theorem midSeq_ready {g k pos : Nat} {listed : Array Bool} (hk : 0 < k) (h : midSeqB md ops g k pos listed = true) : ∀ j ∈ Region.ready md ops listed, pos ≤ j := by
  cases k with
  | zero => omega
  | succ k =>
    intro j hj
    simp only [midSeqB, Bool.and_eq_true, decide_eq_true_eq] at h
    rw [h.1] at hj
    have : j = pos := by simpa using hj
    omega

theorem head_lex2 {n k g : Nat} {Lq : Act → Prop} (hsel : Region.noSelect ops = true) (hk0 : 0 < k) (hs : Region.sinkB md ops n = true) (hc : behindB md ops n = true) :
    ∀ (l : List Oper) (pos : Nat) (listed : Array Bool) (a : Act), (∀ j, j < l.length → l[j]? = ops[pos + j]?) → pos + l.length = n → HeadInv md ops n listed →
    midHeadB md ops k g l.length pos listed = true → wpQuiet P ops C Lq l a →
    anyH P md ops C n (fun listed' a' => midSeqB md ops g k n listed' = true ∧ Lq a') l.length listed a
  | [], pos, listed, a, _, hk, _, hB, h => by
    have : pos = n := by simpa using hk
    subst this
    exact ⟨by simpa [midHeadB] using hB, h⟩
  | o :: l, pos, listed, a, hl, hk, inv, hB, h => by
    have h0 : ops[pos]? = some o := by simpa using (hl 0 (by simp)).symm
    simp only [List.length_cons, midHeadB, Bool.and_eq_true] at hB
    obtain ⟨⟨hr, hf⟩, hB'⟩ := hB
    have hkn : pos < n := by simp only [List.length_cons] at hk; omega
    have hr' : pos ∈ Region.ready md ops listed := by simpa using hr
    have hst : qOp P ops C pos (wpQuiet P ops C Lq l) a := by unfold qOp; simp only [h0]; exact h
    obtain ⟨v, hy, hK⟩ := yieldsIn_of_qOp h0 hst
    exact head_first2 h0 (Region.noSelect_spec hsel) hs hc hkn (fun listed' a' hL => midSeq_ready hk0 hL.1) l.length listed a inv (Region.free_spec h0 hf) hr' hy
      (head_lex2 hsel hk0 hs hc l (pos + 1) _ _ (fun j hj => by have := hl (j + 1) (by simp; omega); simpa [Nat.add_assoc, Nat.add_comm 1 j] using this) (by simp only [List.length_cons] at hk; omega) (inv.set hr' hkn) hB' hK)

/-- Some operations in one order, then what reads, whatever the order. -/
theorem any_of_mid {Q : Exit → Act → World → Prop} (hsel : Region.noSelect ops = true) (lr : List Oper) :
    ∀ (l : List Oper) (pos : Nat) (listed : Array Bool) (a : Act) (w : World), (∀ j, j < l.length → l[j]? = ops[pos + j]?) → (∀ j, lr[j]? = ops[pos + l.length + j]?) →
    midSeqB md ops lr.length l.length pos listed = true →
    wpList P ops (Exit.then (fun a2 w2 => wpQuiet P ops (fun x => x = w2) (fun a3 => Q .normal a3 w2) lr a2) Q) l a w → wpAny P md ops Q (l.length + lr.length) listed a w
  | [], pos, listed, a, w, _, hlr, hB, h => by
    simp only [List.length_nil, Nat.zero_add]
    have h' : wpQuiet P ops (fun x => x = w) (fun a3 => Q .normal a3 w) lr a := h
    refine wpAny_of_quiet (C := fun x => x = w) (Q := fun a3 => Q .normal a3 w) (fun a w' hw hq => by rw [hw]; exact hq) _ _ _ _ rfl ?_
    exact wpAnyQ_lex hsel lr pos listed a (by simpa using hlr) (by simpa [midSeqB] using hB) h'
  | o :: l, pos, listed, a, w, hl, hlr, hB, h => by
    have h0 : ops[pos]? = some o := by simpa using (hl 0 (by simp)).symm
    simp only [List.length_cons, midSeqB, Bool.and_eq_true, decide_eq_true_eq] at hB
    rw [List.length_cons, show l.length + 1 + lr.length = (l.length + lr.length) + 1 by omega]
    refine ⟨fun h1 => (by rw [hB.1] at h1; cases h1), fun i hi => ?_⟩
    rw [hB.1] at hi
    have hik : i = pos := by simpa using hi
    subst hik
    have hw : wpOp P ops (Exit.then (fun a2 w2 => wpQuiet P ops (fun x => x = w2) (fun a3 => Q .normal a3 w2) lr a2) Q) i (wpList P ops (Exit.then (fun a2 w2 => wpQuiet P ops (fun x => x = w2) (fun a3 => Q .normal a3 w2) lr a2) Q) l) a w := by unfold wpOp; simp only [h0]; exact h
    have hw2 : wpOp P ops Q i (wpList P ops (Exit.then (fun a2 w2 => wpQuiet P ops (fun x => x = w2) (fun a3 => Q .normal a3 w2) lr a2) Q) l) a w := hw
    exact wpOp_mono (fun a' w' h' => any_of_mid hsel lr l (i + 1) _ a' w' (fun j hj => by have := hl (j + 1) (by simp; omega); simpa [Nat.add_assoc, Nat.add_comm 1 j] using this)
      (fun j => by have := hlr j; simpa [Nat.add_assoc, Nat.add_comm 1, Nat.add_left_comm] using this) hB.2 h') hw2

theorem wp_region_mid {id : Nat} {Q : Exit → Act → World → Prop} {a : Act} {w : World} {l : List Oper} (n k : Nat) (hm : P.follows .mixedOrders = true)
    (hB : midB .any l.toArray n k = true)
    (h : wpQuiet P l.toArray (fun w' => ∃ k, w' = w.drewN k) (fun a' => ∀ m, wpList P l.toArray (Exit.then (fun a2 w2 => wpQuiet P l.toArray (fun x => x = w2) (fun a3 => Q .normal a3 w2) (l.drop (n + k)) a2) Q) ((l.drop n).take k) a' (w.drewN m)) (l.take n) a) :
    (Code.region id l.toArray true).wp P Q a w := by
  simp only [midB, Bool.and_eq_true, decide_eq_true_eq] at hB
  obtain ⟨⟨⟨⟨⟨hsel, hn⟩, hk0⟩, hs⟩, hc⟩, hlex⟩ := hB
  have hn' : n + k ≤ l.length := by simpa using hn
  have htl : (l.take n).length = n := by simp; omega
  have hml : ((l.drop n).take k).length = k := by simp; omega
  have hdl : (l.drop (n + k)).length = l.toArray.size - n - k := by simp; omega
  have inv0 : HeadInv .any l.toArray n (Array.replicate l.toArray.size false) :=
    ⟨by simp, fun j oj _ hl => (by rw [getD_replicate_false] at hl; cases hl), fun t _ ht => getD_in (by simpa using ht) (getD_replicate_false _ _)⟩
  have H := head_lex2 (md := .any) (k := k) (g := l.toArray.size - n - k) hsel hk0 hs hc (l.take n) 0 _ a (fun j hj => by
    have hj' : j < n := by rw [htl] at hj; exact hj
    simp [hj']) (by simpa using htl) inv0 (by rw [htl]; exact hlex) h
  refine wp_region_any hm ?_
  have := any_of_head (C := fun w' => ∃ k, w' = w.drewN k) (Q := Q) (g := l.toArray.size - n) (fun listed a' w' hw' hL => by
    obtain ⟨m, rfl⟩ := hw'
    have := any_of_mid (md := .any) (Q := Q) hsel (l.drop (n + k)) ((l.drop n).take k) n listed a' _ (fun j hj => by
      rw [hml] at hj
      simp [List.getElem?_drop, hj]) (fun j => by rw [hml]; simp [List.getElem?_drop]) (by rw [hdl, hml]; exact hL.1) (hL.2 m)
    rwa [hdl, hml, show k + (l.toArray.size - n - k) = l.toArray.size - n by simp at hn ⊢; omega] at this) _ _ _ _ ⟨1, rfl⟩ H
  rw [htl, show n + (l.toArray.size - n) = l.toArray.size by simp; omega] at this
  exact this
end
end Go.Proofs.YtmijbomfekopjaaGreatDoor
