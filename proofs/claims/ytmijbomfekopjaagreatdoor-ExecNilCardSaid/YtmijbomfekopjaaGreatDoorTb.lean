/- Floating reads, then some operations in one order, then floating ones again. -/
import Derived.Test.YtmijbomfekopjaaGreatDoorT
namespace Go.Proofs.YtmijbomfekopjaaGreatDoor
open Go.RowKit
section
variable {P : Program} {ops : Array Oper} {md : Region.Mode} {K : World → Prop} {Q : Exit → Act → World → Prop}
def wpSeqF (P : Program) (ops : Array Oper) (K : World → Prop) (Q : Exit → Act → World → Prop) (us : List Nat) : List Nat → Act → World → Prop
  | [], a, w => K w ∧ wpFloat P ops K (fun a' => Q .normal a' w) us a
  | i :: rest, a, w => K w ∧ wpOp P ops Q i (wpSeqF P ops K Q us rest) a w
def seqFB (md : Region.Mode) (ops : Array Oper) (us : List Nat) : List Nat → Array Bool → Bool
  | [], listed => freeB md ops us listed && (Region.ready md ops (lay listed us)).isEmpty
  | i :: l, listed => decide (Region.ready md ops listed = [i]) && seqFB md ops us l (listed.setIfInBounds i true)
theorem anyK_of_seqF (hQ : ∀ d v c a w, Q (.panic c) (a.put d v) w → Q (.panic c) a w) (hsel : Region.noSelect ops = true) (us : List Nat) :
    ∀ (l : List Nat) (listed : Array Bool) (a : Act) (w : World), seqFB md ops us l listed = true → wpSeqF P ops K Q us l a w → anyK P md ops K Q (l.length + us.length) listed a w
  | [], listed, a, w, hB, h => by
    simp only [seqFB, Bool.and_eq_true, List.isEmpty_iff] at hB
    rw [List.length_nil, Nat.zero_add]
    exact anyK_of_float hQ hsel (g := 0) us listed a w hB.1 h.2 (fun a' ha' => ⟨h.1, hB.2, ha'⟩)
  | i :: l, listed, a, w, hB, h => by
    simp only [seqFB, Bool.and_eq_true, decide_eq_true_eq] at hB
    rw [List.length_cons, show l.length + 1 + us.length = (l.length + us.length) + 1 by omega]
    refine ⟨h.1, fun h1 => (by rw [hB.1] at h1; cases h1), fun j hj => ?_⟩
    rw [hB.1] at hj
    have hik : j = i := by simpa using hj
    subst hik
    exact wpOp_mono (fun a' w' h' => anyK_of_seqF hQ hsel us l _ a' w' hB.2 h') h.2
def floatFB (md : Region.Mode) (ops : Array Oper) (rs ts us : List Nat) : Bool :=
  let start := Array.replicate ops.size false
  Region.noSelect ops && freeB md ops rs start && seqFB md ops us ts (lay start rs) && decide (rs.length + (ts.length + us.length) = ops.size)
theorem wp_region_floatF {id : Nat} {a : Act} {w : World} (K : World → Prop) (rs ts us : List Nat) (hm : P.follows .mixedOrders = true)
    (hB : floatFB .any ops rs ts us = true) (hQ : ∀ d v c a w, Q (.panic c) (a.put d v) w → Q (.panic c) a w)
    (h : wpFloat P ops K (fun a' => wpSeqF P ops K Q us ts a' w.drew) rs a) : (Code.region id ops true).wp P Q a w := by
  simp only [floatFB, Bool.and_eq_true, decide_eq_true_eq] at hB
  obtain ⟨⟨⟨hsel, hrs⟩, hseq⟩, hlen⟩ := hB
  refine wp_region_any hm ?_
  have := anyK_any _ _ _ _ (anyK_of_float (P := P) (K := K) hQ hsel (g := ts.length + us.length) rs (Array.replicate ops.size false) a w.drew hrs h (fun a' ha' => anyK_of_seqF hQ hsel us ts _ a' w.drew hseq ha'))
  rw [hlen] at this
  exact this
theorem seqF_nil {us : List Nat} {a : Act} {w : World} (hK : K w) (h : wpFloat P ops K (fun a' => Q .normal a' w) us a) : wpSeqF P ops K Q us [] a w := ⟨hK, h⟩
theorem seqF_cons {us : List Nat} {i : Nat} {rest : List Nat} {a : Act} {w : World} {o : Oper} (ho : ops[i]? = some o) (hK : K w)
    (h : ∀ L : Act → World → Prop, (∀ a w, wpSeqF P ops K Q us rest a w → L a w) → wpList P ops (Exit.then L Q) [o] a w) : wpSeqF P ops K Q us (i :: rest) a w :=
  ⟨hK, op_of_list ho (h _ (fun _ _ h => h))⟩
end
end Go.Proofs.YtmijbomfekopjaaGreatDoor
