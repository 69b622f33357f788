/- The document's double: the walk. -/
import Derived.Test.YtkbkobekndfapaaXj
namespace Go.Proofs.Ytkbkobekndfapaa
open Go.RowKit

set_option maxRecDepth 100000 in
set_option maxHeartbeats 4000000 in
theorem rdouble_any (t : List Nat) (w : World) (ht : Bytes 16 t) :
    Calls Try.prog 45 #[.agg (bA t)] w fun e w' => e = .returned (.agg (bA (xdbl t))) ∧ Mod No w w' := by
  have hz : ∀ w, (zeroValue 23).run Try.prog w = .ok (.agg (bA (noughts 16))) w := fun _ => by kernel_rfl
  have hr1 := Lib.hid (fun h => rd_one ht h)
  have hr0 := Lib.hid (fun h => rd_none ht h)
  have h15 := ht.get 15
  have hxb := xdbl_bytes ht
  generalize xdbl t = xt at *
  have hc16 := Lib.hid (rdCarry_succ t 15)
  generalize ht15 : t.getD 15 0 = t15 at *
  have hne1 : ¬ (w.heap.size = w.heap.size + 1 + 1) := by omega
  have hne2 : ¬ (w.heap.size + 1 = w.heap.size + 1 + 1) := by omega
  go_enter Try.func45, Try.ntmps45
  go_wp2_with fail
  go_loopw [4, 5] (fun v4 v5 wr => ∃ i : Nat, i ≤ 16 ∧ v5 = .int .i64 i ∧ v4 = .int .u8 ((rdCarry t i : Nat) : Int) ∧ Mod No w wr ∧ wr.heap[w.heap.size]? = some (.cells (bA t) 23 (0, 0)) ∧
    wr.heap[w.heap.size + 1]? = some (.cells (bA (noughts 16)) 23 (0, 0)) ∧ wr.heap[w.heap.size + 1 + 1]? = some (.cells (bA (foldUp (rdStep t) (noughts 16) i)) 23 (0, 0))) (fun _ v _ => 16 - (intOf v).toNat)
  case atStart =>
    refine ⟨0, by omega, rfl, by rw [rdCarry_zero]; rfl, (((Mod.refl _ _).alloc _).alloc _).alloc _, blk_old (blk_old (blk_new _ _)), ?_, ?_⟩
    · have := blk_old (o' := .cells (bA (noughts 16)) 23) (blk_new (w.alloc (.cells (bA t) 23)) (.cells (bA (noughts 16)) 23)); simpa using this
    · rw [foldUp_zero]
      have := blk_new ((w.alloc (.cells (bA t) 23)).alloc (.cells (bA (noughts 16)) 23)) (.cells (bA (noughts 16)) 23); simpa using this
  case round =>
    obtain ⟨i, hi, rfl, rfl, y2, y0, y1, y3⟩ := hrel
    have hcu : Bytes 16 (foldUp (rdStep t) (noughts 16) i) := foldUp_inv (noughts_bytes 16) (fun _ i h => rdStep_bytes ht h i) i
    have hsu := Lib.hid (foldUp_succ (rdStep t) (noughts 16) i)
    generalize hde : foldUp (rdStep t) (noughts 16) i = cu at *
    have hde1 := Lib.hid hde
    have z0 := Lib.hid y0
    have z1 := Lib.hid y1
    have z2 := Lib.hid y2
    have z3 := Lib.hid y3
    clear hde y0 y1 y2 y3
    by_cases hli : i < 16
    · have c3 := byte_cell z3.out (j := i) (by rw [hcu.1]; exact hli)
      have c1 := byte_cell z0.out (j := i) (by rw [ht.1]; exact hli)
      have f1 : wr.frozen? ⟨w.heap.size + 1 + 1, i, none⟩ = false := blk_free z3.out
      have b1 := ht.get i
      have b2 := rdCarry_lt ht i
      have hst1 := Lib.hid (rdStep_def t cu i)
      have hcs := Lib.hid (rdCarry_succ t i)
      have hx : bits .or .u8 (((t.getD i 0 : Nat) : Int) * 2 % 256) ((rdCarry t i : Nat) : Int) = ((t.getD i 0 * 2 % 256 ||| rdCarry t i : Nat) : Int) := by
        have := u8_or_nat (t.getD i 0 * 2 % 256) (rdCarry t i) (by omega) (by omega)
        simpa using this
      generalize rdCarry t i = cr at *
      generalize t.getD i 0 = x at *
      go_wp2_with fail
      go_roundw
      case rel =>
        refine ⟨i + 1, by omega, by go_num, ?_, z2.out.setCell (p := ⟨w.heap.size + 1 + 1, i, none⟩) (fun h => absurd (show w.heap.size + 1 + 1 < w.heap.size from h) (by omega)) _, blk_set_other z0.out (by simp; try omega), blk_set_other z1.out (by simp; try omega), ?_⟩
        · rw [hcs.out]; go_num
        · rw [hsu.out, hst1.out]; exact byte_set z3.out
      case measure => simp [intOf]; omega
    · obtain rfl : i = 16 := by omega
      clear hsu
      rw [hc16.out]
      by_cases h1 : t15 / 128 = 1
      · have he := Lib.hid (hr1.out h1)
        rw [hde1.out] at he
        have c0 := byte_cell z3.out (j := 0) (by rw [hcu.1]; omega)
        have f0 : wr.frozen? ⟨w.heap.size + 1 + 1, 0, none⟩ = false := blk_free z3.out
        have b0 := hcu.get 0
        have hx : bits .xor .u8 ((cu.getD 0 0 : Nat) : Int) 135 = ((cu.getD 0 0 ^^^ 135 : Nat) : Int) := bxor _ 135 b0 (by omega)
        have Z3 := Lib.hid (byte_set (x := cu.getD 0 0 ^^^ 135) (j := 0) z3.out)
        have Z1 := Lib.hid (blk_set_other (a := ⟨w.heap.size + 1 + 1, 0, none⟩) (v := .int .u8 ((cu.getD 0 0 ^^^ 135 : Nat) : Int)) z1.out (by simp; try omega))
        have Z2 := Lib.hid (z2.out.setCell (p := ⟨w.heap.size + 1 + 1, 0, none⟩) (fun h => absurd (show w.heap.size + 1 + 1 < w.heap.size from h) (by omega)) (.int .u8 ((cu.getD 0 0 ^^^ 135 : Nat) : Int)))
        rw [he.out] at Z3
        have h1' : (((t15 / 128 : Nat) : Int) == 1) = true := by rw [h1]; rfl
        have h1'' : ((t15 : Int) / 128) = 1 := by omega
        generalize cu.getD 0 0 = x at *
        generalize hy : x ^^^ 135 = y at *
        clear hr1 hr0 hde1 he z0 z1 z2 hcu hy h1
        go_wp2_with (first
          | (refine load16w rfl _ rfl (w.heap.size + 1 + 1) rfl 23 xt hxb.1 Z3.out ?_)
          | (refine store16 rfl _ _ rfl (w.heap.size + 1) rfl xt (noughts 16) rfl 23 hxb.1 (noughts_bytes 16).1 Z1.out ?_))
        refine bodyPost_ret (v := .agg (bA xt)) (ret16 rfl _ _ (w.heap.size + 1) 23 xt rfl hxb.1 (blk_setRow Z1.out)) rfl ?_
        exact ⟨rfl, Z2.out.setRow _ _ (fun h => absurd (show w.heap.size + 1 < w.heap.size from h) (by omega))⟩
      · have h0 : t15 / 128 = 0 := by omega
        have he := Lib.hid (hr0.out h0)
        rw [hde1.out] at he
        rw [he.out] at z3
        have h1'' : ((t15 : Int) / 128) = 0 := by omega
        clear hr1 hr0 hde1 he z0 hcu h1 h0
        go_wp2_with (first
          | (refine load16w rfl _ rfl (w.heap.size + 1 + 1) rfl 23 xt hxb.1 z3.out ?_)
          | (refine store16 rfl _ _ rfl (w.heap.size + 1) rfl xt (noughts 16) rfl 23 hxb.1 (noughts_bytes 16).1 z1.out ?_))
        refine bodyPost_ret (v := .agg (bA xt)) (ret16 rfl _ _ (w.heap.size + 1) 23 xt rfl hxb.1 (blk_setRow z1.out)) rfl ?_
        exact ⟨rfl, z2.out.setRow _ _ (fun h => absurd (show w.heap.size + 1 < w.heap.size from h) (by omega))⟩
end Go.Proofs.Ytkbkobekndfapaa
