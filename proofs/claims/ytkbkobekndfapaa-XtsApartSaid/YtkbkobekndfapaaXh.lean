/- A key that may be out of 32 raw bytes. -/
import Derived.Test.YtkbkobekndfapaaXg
namespace Go.Proofs.Ytkbkobekndfapaa
open Go.RowKit

def keyOf (k : List Nat) : List Nat := if k.take 16 = k.drop 16 then k.set 0 (k.getD 0 0 ^^^ 1) else k
theorem keyOf_bytes {k : List Nat} (h : Bytes 32 k) : Bytes 32 (keyOf k) := by
  unfold keyOf
  split
  · exact h.set _ (xor_lt _ _ (h.get 0) (by omega))
  · exact h
theorem keyOf_right {k : List Nat} (h : Bytes 32 k) : XRight (keyOf k) := by
  have hl := (keyOf_bytes h).1
  refine ⟨.inl hl, ?_⟩
  rw [hl]
  show (keyOf k).take 16 ≠ (keyOf k).drop 16
  unfold keyOf
  by_cases e : k.take 16 = k.drop 16
  · rw [if_pos e]
    intro e2
    have a := congrArg (fun z => z.getD 0 0) e
    have b := congrArg (fun z => z.getD 0 0) e2
    have hl := h.1
    simp [List.getD, hl] at a b
    have h0 : k[0]'(by omega) ^^^ 1 = k[0]'(by omega) := by rw [b, ← a]
    have : (1 : Nat) = 0 := by
      have h1 := congrArg (fun z => k[0]'(by omega) ^^^ z) h0
      simp only [Nat.xor_self, ← Nat.xor_assoc, Nat.zero_xor] at h1
      exact h1
    omega
  · rw [if_neg e]; exact e

set_option maxRecDepth 100000 in
set_option maxHeartbeats 4000000 in
theorem key_any (k : List Nat) (w : World) (hk : Bytes 32 k) :
    Calls Try.prog 27 #[.agg (bA k)] w fun e w' => ∃ g c, e = .returned (.slice (some ⟨g, 0, none⟩) 32 c) ∧ Mod No w w' ∧ 32 ≤ c ∧ c ≤ maxLen ∧ BytesAt w' (some ⟨g, 0, none⟩) 32 c (keyOf k) := by
  have hall := run_all34
  have A0 := Lib.hid (show ((w.alloc (.cells (bA k) 34)).alloc (.cells #[] 5)).heap[w.heap.size]? = some (.cells (bA k) 34 (0, 0)) from blk_old (blk_new _ _))
  have A1 := Lib.hid (((Mod.refl No w).alloc (.cells (bA k) 34)).alloc (.cells #[] 5))
  have A2 := Lib.hid (show ((w.alloc (.cells (bA k) 34)).alloc (.cells #[] 5)).ownsRow (w.heap.size + 1) 5 1 (.slice (some ⟨w.heap.size + 1, 0, none⟩) 0 0) 0 [] from ⟨rfl, .inr ⟨w.heap.size + 1, 0, #[], rfl, Nat.le_refl _, blk_new' _ (by simp), Nat.le_refl _, Nat.zero_le _, rfl, rfl⟩⟩)
  have A3 := Lib.hid (show BytesAt ((w.alloc (.cells (bA k) 34)).alloc (.cells #[] 5)) (some ⟨w.heap.size, 0, none⟩) 32 32 k from ⟨hk.1, hk.2, .inr ⟨_, 0, rfl, fun j hj => by rw [Nat.zero_add]; exact byte_cell A0.out (by rw [hk.1]; exact hj)⟩⟩)
  have A4 : w.heap.size + 1 ≤ ((w.alloc (.cells (bA k) 34)).alloc (.cells #[] 5)).heap.size := by simp
  go_enter Try.func27, Try.ntmps27
  go_wp2_with (refine append_bytes rfl (.tmp 4) (.tmp 5) rfl (w.heap.size + 1) (.slice (some ⟨w.heap.size + 1, 0, none⟩) 0 0) 0 [] rfl A2.out (some ⟨w.heap.size, 0, none⟩) 32 32 k rfl A3.out (fun h => absurd h (by simp)) (by omega) A4 ?_; refine hold ?_)
  unfold Hold
  intro v1 w1 o1 m1
  have B1 := Lib.hid (show Mod No w w1 from A1.out.trans m1 (fun i hi h => absurd (show w.heap.size + 1 = i by injection h) (by omega)))
  have o2 : w1.ownsRow (w.heap.size + 1) 5 1 v1 32 (bL k) := by simpa using o1
  obtain ⟨g, cp, rfl, hg, hgl, hcp, hcp2⟩ := own_slice o2 (by omega)
  obtain ⟨cur, hfl⟩ := own_flat o2 hk.2
  have F := Lib.hid hfl
  have hB := hfl.bytes (c := cp)
  rw [hk.1] at hB
  have b1 := hB.take (n := 16) (by omega)
  have b2 := hB.drop (n := 16) hcp (by omega)
  have hcut : cutA (some ⟨g, 0, none⟩) 16 cp = some ⟨g, 16, none⟩ := by unfold cutA; rw [if_neg (by omega)]; rfl
  rw [hcut] at b2
  have s1 := Lib.hid (fun y : Later No w1 => (b1.later y.ok).str)
  have s2 := Lib.hid (fun y : Later No w1 => (b2.later y.ok).str)
  have e3 := strN_eq b1.ok b2.ok
  have hc9 : cp ≤ 9223372036854775807 := by unfold maxLen at hcp2; omega
  have t1 := s1.out
  have t2 : ∀ y : Later No w1, (convert 22 9 (.slice (some ⟨g, 16, none⟩) 16 (cp - 16))).run Try.prog y.to = .ok (.string (strN (k.drop 16))) y.to := s2.out
  generalize strN (k.take 16) = x1 at *
  generalize strN (k.drop 16) = x2 at *
  clear A0 A1 A2 A3 A4 o1 o2 m1 hfl hB b1 b2 s1 s2 hcut
  by_cases he : k.take 16 = k.drop 16
  · rw [decide_eq_true he] at e3
    go_wp2_with fail
    refine wp_region_laters (by kernel_rfl) (by kernel_rfl) ?_
    repeat (go_big_quiet_step (fail))
    refine wpQuiet_nil ?_
    intro y
    have F1 := Lib.hid (F.out.later y.ok (fun x => x))
    have c0 := F1.out.at (j := 0) (by rw [hk.1]; omega)
    have f0 : y.to.frozen? ⟨g, 0, none⟩ = false := blk_free F1.out.cell
    have hx : bits .xor .u8 ((k.getD 0 0 : Nat) : Int) 1 = ((k.getD 0 0 ^^^ 1 : Nat) : Int) := bxor _ 1 (hk.get 0) (by omega)
    have hxl := xor_lt _ 1 (hk.get 0) (by omega)
    have hkd := Lib.hid (show keyOf k = k.set 0 (k.getD 0 0 ^^^ 1) by unfold keyOf; rw [if_pos he])
    generalize k.getD 0 0 = k0 at *
    go_wp2_with fail
    go_ret
    have F2 := (F1.out.set (i := 0) (x := k0 ^^^ 1) (by rw [hk.1]; omega) hxl).bytes (c := cp)
    rw [List.length_set, hk.1, ← hkd.out] at F2
    exact ⟨g, cp, rfl, (B1.out.then y.ok).setCell (p := ⟨g, 0, none⟩) (fun h => absurd (show g < w.heap.size from h) (by omega)) _, hcp, hcp2, F2⟩
  · rw [decide_eq_false he] at e3
    go_wp2_with fail
    refine wp_region_laters (by kernel_rfl) (by kernel_rfl) ?_
    repeat (go_big_quiet_step (fail))
    refine wpQuiet_nil ?_
    intro y
    go_wp2_with fail
    go_ret
    have F1 := F.out.later y.ok (fun x => x)
    have := F1.bytes (c := cp)
    rw [hk.1] at this
    exact ⟨g, cp, rfl, B1.out.then y.ok, hcp, hcp2, by unfold keyOf; rw [if_neg he]; exact this⟩
end Go.Proofs.Ytkbkobekndfapaa
