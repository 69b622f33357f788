/- The document's Encrypt: columns mixed by four factors. -/
import Derived.Test.YtkbkobekndfapaaF
import Derived.Test.YtkbkobekndfapaaP
import Derived.Test.YtkbkobekndfapaaL1
namespace Go.Proofs.Ytkbkobekndfapaa
open Go.RowKit

theorem mulN_lt' (a b : Nat) (ha : a < 256) (hb : b < 256) : mulN a b < 256 := mulN_lt ha hb
theorem mixCell_bytes {n c r : Nat} {s f : List Nat} (hs : Bytes n s) (hf : Bytes 4 f) {t : List Nat} (ht : Bytes 16 t) (k : Nat) : Bytes 16 (mixCell s f c r t k) :=
  ht.set _ (xor_lt _ _ (ht.get _) (mulN_lt' _ _ (hf.get _) (hs.get _)))
theorem mixCol_bytes {n c : Nat} {s f : List Nat} (hs : Bytes n s) (hf : Bytes 4 f) {t : List Nat} (ht : Bytes 16 t) (r : Nat) : Bytes 16 (mixCol s f c t r) :=
  foldUp_inv ht (fun _ i h => mixCell_bytes hs hf h i) 4
def mixCols (s f : List Nat) (t : List Nat) (c : Nat) : List Nat := foldUp (mixCol s f c) t 4
theorem mixCols_bytes {n : Nat} {s f : List Nat} (hs : Bytes n s) (hf : Bytes 4 f) {t : List Nat} (ht : Bytes 16 t) (c : Nat) : Bytes 16 (mixCols s f t c) :=
  foldUp_inv ht (fun _ i h => mixCol_bytes hs hf h i) 4
theorem mixR_cols (s f : List Nat) : mixR s f = foldUp (mixCols s f) (noughts 16) 4 := rfl
theorem mixCols_def (s f t : List Nat) (c : Nat) : mixCols s f t c = foldUp (mixCol s f c) t 4 := rfl
theorem mixCol_def (s f t : List Nat) (c r : Nat) : mixCol s f c t r = foldUp (mixCell s f c r) t 4 := rfl
theorem mixCell_def (s f : List Nat) (c r : Nat) (t : List Nat) (k : Nat) : mixCell s f c r t k = t.set (r + 4 * c) (t.getD (r + 4 * c) 0 ^^^ mulN (f.getD ((k + 4 - r) % 4) 0) (s.getD (k + 4 * c) 0)) := rfl
theorem mixR_bytes {n : Nat} {s f : List Nat} (hs : Bytes n s) (hf : Bytes 4 f) : Bytes 16 (mixR s f) := foldUp_inv (noughts_bytes 16) (fun _ i h => mixCols_bytes hs hf h i) 4
attribute [local irreducible] mixCols mixCol mixCell mixR

set_option maxHeartbeats 4000000 in
theorem mixed_any (s f : List Nat) (w : World) (hs : Bytes 16 s) (hf : Bytes 4 f) :
    Calls Try.prog 35 #[.agg (bA s), .agg (bA f)] w fun e w' => e = .returned (.agg (bA (mixR s f))) ∧ Mod No w w' := by
  have hz : ∀ w, (zeroValue 23).run Try.prog w = .ok (.agg (bA (noughts 16))) w := fun _ => by kernel_rfl
  have hn0 := noughts_bytes 16
  have hfin := Lib.hid (mixR_cols s f)
  go_enter Try.func35, Try.ntmps35
  go_wp2_with fail
  go_loopw [6] (fun v wr => ∃ c : Nat, c ≤ 4 ∧ v = .int .i64 c ∧ Mod No w wr ∧ w.heap.size + 4 ≤ wr.heap.size ∧ wr.heap[w.heap.size]? = some (.cells (bA s) 23 (0, 0)) ∧ wr.heap[w.heap.size + 1]? = some (.cells (bA f) 53 (0, 0)) ∧
    wr.heap[w.heap.size + 2]? = some (.cells (bA (noughts 16)) 23 (0, 0)) ∧ wr.heap[w.heap.size + 3]? = some (.cells (bA (foldUp (mixCols s f) (noughts 16) c)) 23 (0, 0))) (fun v _ => 4 - (intOf v).toNat)
  case atStart =>
    refine ⟨0, by omega, rfl, ((((Mod.refl _ _).alloc _).alloc _).alloc _).alloc _, by simp, blk_old (blk_old (blk_old (blk_new _ _))), blk_old (blk_old ?_), blk_old ?_, ?_⟩
    · exact blk_new' _ (by simp)
    · exact blk_new' _ (by simp)
    · rw [foldUp_zero]; exact blk_new' _ (by simp)
  case round =>
    obtain ⟨c, hc, rfl, y4, ysz, y0, y1, y2, y3⟩ := hrel
    have hto : Bytes 16 (foldUp (mixCols s f) (noughts 16) c) := foldUp_inv hn0 (fun _ i h => mixCols_bytes hs hf h i) c
    have hsu := Lib.hid (foldUp_succ (mixCols s f) (noughts 16) c)
    generalize hde : foldUp (mixCols s f) (noughts 16) c = to at *
    have hde1 := Lib.hid hde
    have z0 := Lib.hid y0
    have z1 := Lib.hid y1
    have z2 := Lib.hid y2
    have z3 := Lib.hid y3
    have z4 := Lib.hid y4
    have zs := Lib.hid ysz
    clear hde y0 y1 y2 y3 y4 ysz
    by_cases hlc : c < 4
    · obtain ⟨wo, rfl⟩ : ∃ wo : World, wo = wr := ⟨_, rfl⟩
      have hcol := Lib.hid (mixCols_def s f to c)
      go_wp2_with fail
      go_loopw [7] (fun v wr => ∃ r : Nat, r ≤ 4 ∧ v = .int .i64 r ∧ Mod No w wr ∧ w.heap.size + 4 ≤ wr.heap.size ∧ wr.heap[w.heap.size]? = some (.cells (bA s) 23 (0, 0)) ∧ wr.heap[w.heap.size + 1]? = some (.cells (bA f) 53 (0, 0)) ∧
        wr.heap[w.heap.size + 2]? = some (.cells (bA (noughts 16)) 23 (0, 0)) ∧ wr.heap[w.heap.size + 3]? = some (.cells (bA (foldUp (mixCol s f c) to r)) 23 (0, 0))) (fun v _ => 4 - (intOf v).toNat)
      case atStart => exact ⟨0, by omega, rfl, z4.out, zs.out, z0.out, z1.out, z2.out, by rw [foldUp_zero]; exact z3.out⟩
      case round =>
        clear z0 z1 z2 z3 z4 zs
        obtain ⟨r, hr, rfl, y4, ysz, y0, y1, y2, y3⟩ := hrel
        have htm : Bytes 16 (foldUp (mixCol s f c) to r) := foldUp_inv hto (fun _ i h => mixCol_bytes hs hf h i) r
        have hsv := Lib.hid (foldUp_succ (mixCol s f c) to r)
        generalize hde : foldUp (mixCol s f c) to r = tm at *
        have hde2 := Lib.hid hde
        have z0 := Lib.hid y0
        have z1 := Lib.hid y1
        have z2 := Lib.hid y2
        have z3 := Lib.hid y3
        have z4 := Lib.hid y4
        have zs := Lib.hid ysz
        clear hde y0 y1 y2 y3 y4 ysz
        by_cases hlr : r < 4
        · obtain ⟨wq, rfl⟩ : ∃ wq : World, wq = wr := ⟨_, rfl⟩
          have hcel := Lib.hid (mixCol_def s f tm c r)
          go_wp2_with fail
          go_loopw [8] (fun v wr => ∃ k : Nat, k ≤ 4 ∧ v = .int .i64 k ∧ Mod No w wr ∧ w.heap.size + 4 ≤ wr.heap.size ∧ wr.heap[w.heap.size]? = some (.cells (bA s) 23 (0, 0)) ∧ wr.heap[w.heap.size + 1]? = some (.cells (bA f) 53 (0, 0)) ∧
            wr.heap[w.heap.size + 2]? = some (.cells (bA (noughts 16)) 23 (0, 0)) ∧ wr.heap[w.heap.size + 3]? = some (.cells (bA (foldUp (mixCell s f c r) tm k)) 23 (0, 0))) (fun v _ => 4 - (intOf v).toNat)
          case atStart => exact ⟨0, by omega, rfl, z4.out, zs.out, z0.out, z1.out, z2.out, by rw [foldUp_zero]; exact z3.out⟩
          case round =>
            clear z0 z1 z2 z3 z4 zs
            obtain ⟨k, hk, rfl, y4, ysz, y0, y1, y2, y3⟩ := hrel
            have htk : Bytes 16 (foldUp (mixCell s f c r) tm k) := foldUp_inv htm (fun _ i h => mixCell_bytes hs hf h i) k
            have hsw := Lib.hid (foldUp_succ (mixCell s f c r) tm k)
            generalize hde : foldUp (mixCell s f c r) tm k = tk at *
            have hde3 := Lib.hid hde
            have z0 := Lib.hid y0
            have z1 := Lib.hid y1
            have z2 := Lib.hid y2
            have z3 := Lib.hid y3
            have z4 := Lib.hid y4
            have zs := Lib.hid ysz
            clear hde y0 y1 y2 y3 y4 ysz
            by_cases hlk : k < 4
            · have c0 := byte_cell z3.out (j := r + 4 * c) (by rw [htk.1]; omega)
              have cf : wr.frozen? ⟨w.heap.size + 3, r + 4 * c, none⟩ = false := blk_free z3.out
              have q4 : (k + 4 - r) % 4 < 4 := Nat.mod_lt _ (by omega)
              have c1 := byte_cell z1.out (j := (k + 4 - r) % 4) (by rw [hf.1]; omega)
              have c2 := byte_cell z0.out (j := k + 4 * c) (by rw [hs.1]; omega)
              have hfb := hf.get ((k + 4 - r) % 4)
              have hsb := hs.get (k + 4 * c)
              have hml := mulN_lt' _ _ hfb hsb
              have hx := bxor _ _ (htk.get (r + 4 * c)) hml
              have hst1 := Lib.hid (mixCell_def s f c r tk k)
              have htb := htk.get (r + 4 * c)
              have hm4 : ((k : Int) + 4 - (r : Int)).tmod 4 = (((k + 4 - r) % 4 : Nat) : Int) := by
                rw [show (k : Int) + 4 - (r : Int) = ((k + 4 - r : Nat) : Int) by omega]; rfl
              generalize (k + 4 - r) % 4 = q at *
              have hmul := fun w => mul_any (f.getD q 0) (s.getD (k + 4 * c) 0) hfb hsb w
              generalize mulN (f.getD q 0) (s.getD (k + 4 * c) 0) = ml at *
              generalize tk.getD (r + 4 * c) 0 = sn at *
              generalize f.getD q 0 = fv at *
              generalize s.getD (k + 4 * c) 0 = sv at *
              go_wp2_with fail
              refine wp_region_drew 26 (by kernel_rfl) (by kernel_rfl) ?_
              simp only [List.take_succ_cons, List.take_zero, List.drop_succ_cons, List.drop_zero]
              repeat (go_big_quiet_step ((go_at_call 31; refine Calls.quiet_of_same ((hmul _).mono fun _ _ h => ⟨h.1, h.2.symm⟩))))
              refine wpQuiet_nil ?_
              intro nq
              go_wp2_with fail
              go_roundw
              case rel =>
                refine ⟨k + 1, by omega, by go_num, (z4.out.setCell (p := ⟨w.heap.size + 3, r + 4 * c, none⟩) (fun h => absurd h (by simp)) _).drewN _, ?_, ?_, ?_, ?_, ?_⟩
                · simpa [World.setCell] using zs.out
                · exact blk_set_other z0.out (by simp; try omega)
                · exact blk_set_other z1.out (by simp; try omega)
                · exact blk_set_other z2.out (by simp; try omega)
                · rw [hsw.out, hst1.out]; exact byte_set z3.out
              case measure => simp [intOf]; omega
            · have hk4 : k = 4 := by omega
              have he := Lib.hid (show tk = mixCol s f c tm r by rw [hcel.out, ← hk4]; exact hde3.out.symm)
              have hdec : decide (((k : Nat) : Int) < 4) = false := by simp; omega
              clear hde3 hsw hk4 hlk hk
              go_wp2_with fail
              go_roundw
              case rel => exact ⟨r + 1, by omega, by go_num, z4.out, zs.out, z0.out, z1.out, z2.out, by rw [hsv.out, ← he.out]; exact z3.out⟩
              case measure => simp [intOf]; omega
        · have hr4 : r = 4 := by omega
          have he := Lib.hid (show tm = mixCols s f to c by rw [hcol.out, ← hr4]; exact hde2.out.symm)
          have hdec : decide (((r : Nat) : Int) < 4) = false := by simp; omega
          clear hde2 hsv hr4 hlr hr
          go_wp2_with fail
          go_roundw
          case rel => exact ⟨c + 1, by omega, by go_num, z4.out, zs.out, z0.out, z1.out, z2.out, by rw [hsu.out, ← he.out]; exact z3.out⟩
          case measure => simp [intOf]; omega
    · have hc4 : c = 4 := by omega
      have he := Lib.hid (show to = mixR s f by rw [hfin.out, ← hc4]; exact hde1.out.symm)
      have hdec : decide (((c : Nat) : Int) < 4) = false := by simp; omega
      clear hde1 hsu hc4 hlc hc
      go_wp2_with (first
        | (refine load16w rfl _ rfl (w.heap.size + 3) rfl 23 to hto.1 z3.out ?_)
        | (refine store16 rfl _ _ rfl (w.heap.size + 2) rfl to (noughts 16) rfl 23 hto.1 hn0.1 z2.out ?_))
      have hrs := Lib.hid (blk_setRow (cs := bA to) z2.out)
      refine bodyPost_ret (v := .agg (bA to)) (ret16 rfl _ _ (w.heap.size + 2) 23 to rfl hto.1 hrs.out) rfl ⟨by rw [he.out], z4.out.setRow _ _ (fun h => absurd h (by omega))⟩
end Go.Proofs.Ytkbkobekndfapaa
