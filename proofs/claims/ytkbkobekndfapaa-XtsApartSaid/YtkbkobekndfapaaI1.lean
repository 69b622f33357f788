/- The document's Encrypt: a round key added. -/
import Derived.Test.YtkbkobekndfapaaF
import Derived.Test.YtkbkobekndfapaaX
import Derived.Test.YtkbkobekndfapaaP
import Derived.Test.YtkbkobekndfapaaL1
namespace Go.Proofs.Ytkbkobekndfapaa
open Go.RowKit

/-- The round keys' bytes, in a row of their own. -/
structure FlatAt (w : World) (g : Nat) (cur : Array Value) (flat : List Nat) : Prop where
  cell : w.heap[g]? = some (.cells cur 5 (0, 0))
  get : ∀ j, j < flat.length → cur[j]? = some (.int .u8 ((flat.getD j 0 : Nat) : Int))
  ok : ∀ x ∈ flat, x < 256
theorem FlatAt.later {w w' : World} {g : Nat} {cur : Array Value} {flat : List Nat} (h : FlatAt w g cur flat) {S : Nat → Prop} (hm : Mod S w w') (h1 : ¬ S g) : FlatAt w' g cur flat := ⟨hm.blk h.cell h1, h.get, h.ok⟩
theorem FlatAt.at {w : World} {g : Nat} {cur : Array Value} {flat : List Nat} (h : FlatAt w g cur flat) {j : Nat} (hj : j < flat.length) : w.cell? ⟨g, j, none⟩ = some (.int .u8 ((flat.getD j 0 : Nat) : Int)) := blk_cell h.cell (h.get j hj)
theorem FlatAt.lt {w : World} {g : Nat} {cur : Array Value} {flat : List Nat} (h : FlatAt w g cur flat) (j : Nat) : flat.getD j 0 < 256 := getD_lt h.ok j

set_option maxHeartbeats 2000000 in
theorem added_any (g c k n : Nat) (cur : Array Value) (flat s : List Nat) (w : World) (hs : Bytes 16 s) (hf : FlatAt w g cur flat) (hn : flat.length = n) (hk : 16 * k + 16 ≤ n) (hc : n ≤ 10000) :
    Calls Try.prog 34 #[.agg (bA s), .slice (some ⟨g, 0, none⟩) n c, .int .i64 (k : Int)] w fun e w' => e = .returned (.agg (bA (xorS s (flatKey flat k)))) ∧ Mod No w w' := by
  have hz : ∀ w, (zeroValue 23).run Try.prog w = .ok (.agg (bA (noughts 16))) w := fun _ => by kernel_rfl
  have hn0 := noughts_bytes 16
  have F0 := Lib.hid hf
  have hg := blk_lt hf.cell
  have hkb := flatKey_bytes hf.ok k
  have hkg : ∀ j, j < 16 → (flatKey flat k).getD j 0 = flat.getD (16 * k + j) 0 := fun j hj => flatKey_get flat k j hj
  have hkg1 := Lib.hid hkg
  clear hf hkg
  generalize flatKey flat k = fk at *
  have hres := xorS_bytes hkb hs
  go_enter Try.func34, Try.ntmps34
  go_wp2_with fail
  go_loopw [7] (fun v wr => ∃ i : Nat, i ≤ 16 ∧ v = .int .i64 i ∧ Mod No w wr ∧ wr.heap[w.heap.size]? = some (.cells (bA (foldUp (xorStep fk) s i)) 23 (0, 0)) ∧ wr.heap[w.heap.size + 1]? = some (.cells (bA (noughts 16)) 23 (0, 0))) (fun v _ => 16 - (intOf v).toNat)
  case atStart =>
    refine ⟨0, by omega, rfl, ((Mod.refl _ _).alloc _).alloc _, by rw [foldUp_zero]; exact blk_old (blk_new _ _), ?_⟩
    have := blk_new (w.alloc (.cells (bA s) 23)) (.cells (bA (noughts 16)) 23); simpa using this
  case round =>
    obtain ⟨i, hi, rfl, y2, y0, y1⟩ := hrel
    have hcu : Bytes 16 (foldUp (xorStep fk) s i) := foldUp_inv hs (fun _ i h => xorStep_bytes hkb h i) i
    have hsu := Lib.hid (foldUp_succ (xorStep fk) s i)
    generalize hde : foldUp (xorStep fk) s i = cu at *
    have hde1 := Lib.hid hde
    have z0 := Lib.hid y0
    have z1 := Lib.hid y1
    have z2 := Lib.hid y2
    have F1 := F0.out.later y2 (fun x => x)
    have z3 := Lib.hid F1
    clear hde y0 y1 y2
    by_cases hli : i < 16
    · have c1 := byte_cell z0.out (j := i) (by rw [hcu.1]; exact hli)
      have c2 := F1.at (j := 16 * k + i) (by omega)
      have f1 : wr.frozen? ⟨w.heap.size, i, none⟩ = false := blk_free z0.out
      have hx := bxor _ _ (hcu.get i) (F1.lt (16 * k + i))
      have hst1 := Lib.hid (show xorStep fk cu i = cu.set i (cu.getD i 0 ^^^ flat.getD (16 * k + i) 0) by rw [← hkg1.out i hli]; rfl)
      clear F1
      generalize cu.getD i 0 = sn at *
      generalize flat.getD (16 * k + i) 0 = kn at *
      go_wp2_with fail
      refine wp_region_drew 13 (by kernel_rfl) (by kernel_rfl) ?_
      simp only [List.take_succ_cons, List.take_zero, List.drop_succ_cons, List.drop_zero]
      repeat (go_big_quiet_step (fail))
      refine wpQuiet_nil ?_
      intro nq
      go_wp2_with fail
      go_roundw
      case rel =>
        refine ⟨i + 1, by omega, by go_num, (z2.out.setCell (p := ⟨w.heap.size, i, none⟩) (fun h => absurd h (by simp)) _).drewN _, ?_, ?_⟩
        · rw [hsu.out, hst1.out]; exact byte_set z0.out
        · exact blk_set_other z1.out (by simp)
      case measure => simp [intOf]; omega
    · obtain rfl : i = 16 := by omega
      have he := Lib.hid (show xorS s fk = cu by rw [xorS_eq]; exact hde1.out)
      clear hde1 hsu
      go_wp2_with (first
        | (refine load16w rfl _ rfl w.heap.size rfl 23 cu hcu.1 z0.out ?_)
        | (refine store16 rfl _ _ rfl (w.heap.size + 1) rfl cu (noughts 16) rfl 23 hcu.1 hn0.1 z1.out ?_))
      have hrs := Lib.hid (blk_setRow (cs := bA cu) z1.out)
      refine bodyPost_ret (v := .agg (bA cu)) (ret16 rfl _ _ (w.heap.size + 1) 23 cu rfl hcu.1 hrs.out) rfl ⟨by rw [he.out], z2.out.setRow _ _ (fun h => absurd h (by omega))⟩
end Go.Proofs.Ytkbkobekndfapaa
