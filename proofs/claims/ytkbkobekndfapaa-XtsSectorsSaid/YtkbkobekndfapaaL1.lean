/- What double, xor and mix of package aes do: their contracts. -/
import Derived.Test.YtkbkobekndfapaaProg
import Derived.Test.YtkbkobekndfapaaM
import Derived.Test.YtkbkobekndfapaaL0
import Derived.Deep.LoopGhost
import Derived.BigRegion
import Derived.BigQuiet
import Derived.StillTailTactics
namespace Go.Proofs.Ytkbkobekndfapaa
open Go.RowKit

set_option maxHeartbeats 400000 in
theorem double_any (a : Nat) (ha : a < 256) (w : World) :
    Calls Try.prog 29 #[.int .u8 (a : Int)] w fun e w' => e = .returned (.int .u8 (dbl a : Int)) ∧ w = w' := by
  have hx : bits .xor .u8 ((a : Int) * 2 % 256) ((a : Int) / 128 * 27) = ((dbl a : Nat) : Int) := by
    have := u8_xor_nat (a * 2 % 256) (a / 128 * 27) (by omega) (by omega)
    rw [dbl_byte a ha]
    simpa using this
  go_enter Try.func29, Try.ntmps29
  go_wp2
  go_ret
  exact ⟨rfl, rfl⟩

set_option maxHeartbeats 400000 in
theorem xor_any (b : Nat) (t : TypeId) (s k : List Nat) (w : World) (hs : Bytes 16 s) (hk : Bytes 16 k)
    (hb : w.heap[b]? = some (.cells (bA s) t (0, 0))) :
    Calls Try.prog 32 #[.pointer (some ⟨b, 0, none⟩), .agg (bA k)] w fun e w' => e = .returned (.tuple #[]) ∧ Mod (Just b) w w' ∧ w'.heap[b]? = some (.cells (bA (xorS s k)) t (0, 0)) := by
  have hlt : b < w.heap.size := blk_lt hb
  have Hb := Lib.hid hb
  clear hb
  go_enter Try.func32, Try.ntmps32
  go_wp2
  go_loopw [5] (fun v5 wr => ∃ n : Nat, n ≤ 16 ∧ v5 = .int .i64 n ∧ Mod (Just b) w wr ∧ wr.heap[b]? = some (.cells (bA (foldUp (xorStep k) s n)) t (0, 0)) ∧ wr.heap[w.heap.size]? = some (.cells (bA k) 23 (0, 0))) (fun v5 _ => 16 - (intOf v5).toNat)
  case atStart =>
    exact ⟨0, by omega, rfl, (Mod.refl _ _).alloc _, by rw [foldUp_zero]; exact blk_old Hb.out, blk_new _ _⟩
  case round =>
    obtain ⟨n, hn, rfl, hg, h1, h2⟩ := hrel
    have hcur : Bytes 16 (foldUp (xorStep k) s n) := foldUp_inv hs (fun _ i h => xorStep_bytes hk h i) n
    have hsn := foldUp_succ (xorStep k) s n
    generalize hc : foldUp (xorStep k) s n = cur at *
    have hc1 := Lib.hid hc
    clear hc
    have hg1 := Lib.hid hg
    have h11 := Lib.hid h1
    have h22 := Lib.hid h2
    have hsn1 := Lib.hid hsn
    clear hg h1 h2 hsn
    by_cases hlt : n < 16
    · have c1 := byte_cell h11.out (j := n) (by rw [hcur.1]; omega)
      have c2 := byte_cell h22.out (j := n) (by rw [hk.1]; omega)
      have f1 : wr.frozen? ⟨b, n, none⟩ = false := blk_free h11.out
      have hx := bxor _ _ (hcur.get n) (hk.get n)
      have hst : xorStep k cur n = cur.set n (cur.getD n 0 ^^^ k.getD n 0) := rfl
      have hst1 := Lib.hid hst
      clear hst
      generalize cur.getD n 0 = sn at *
      generalize k.getD n 0 = kn at *
      go_wp2
      go_still_tail 11, (by kernel_rfl)
      change wpList _ _ _ _ _ wr.drew
      go_wp2
      go_roundw
      case rel =>
        refine ⟨n + 1, by omega, by go_num, (hg1.out.setCell (p := ⟨b, n, none⟩) (fun _ => (rfl : b = b)) _).drewN _, ?_, ?_⟩
        · rw [hsn1.out, hst1.out]; exact byte_set h11.out
        · exact blk_set_other h22.out (by simp; omega)
      case measure => simp [intOf]; omega
    · obtain rfl : n = 16 := by omega
      go_wp2
      go_end0
      exact ⟨rfl, hg1.out, by rw [h11.out, ← hc1.out, xorS_eq]⟩

set_option maxHeartbeats 1000000 in
theorem mix_any (b o c : Nat) (t : TypeId) (s : List Nat) (N : Nat) (w : World) (hs : Bytes N s) (ho : o + 4 ≤ N) (_hN : N ≤ 1000) (hb : w.heap[b]? = some (.cells (bA s) t (0, 0))) :
    Calls Try.prog 33 #[.slice (some ⟨b, o, none⟩) 4 c] w fun e w' => e = .returned (.tuple #[]) ∧ Mod (Just b) w w' ∧ w'.heap[b]? = some (.cells (bA (mixAt s o)) t (0, 0)) := by
  have Hb := Lib.hid hb
  have c0 := byte_cell hb (j := o) (by rw [hs.1]; omega)
  have c1 := byte_cell hb (j := o + 1) (by rw [hs.1]; omega)
  have c2 := byte_cell hb (j := o + 2) (by rw [hs.1]; omega)
  have c3 := byte_cell hb (j := o + 3) (by rw [hs.1]; omega)
  have hx1 := bxor _ _ (hs.get o) (hs.get (o + 1))
  have hx2 := bxor _ _ (xor_lt _ _ (hs.get o) (hs.get (o + 1))) (hs.get (o + 2))
  have hx3 := bxor _ _ (xor_lt _ _ (xor_lt _ _ (hs.get o) (hs.get (o + 1))) (hs.get (o + 2))) (hs.get (o + 3))
  have hall := mixAll_lt hs o
  have hall2 : mixAll s o = s.getD o 0 ^^^ s.getD (o + 1) 0 ^^^ s.getD (o + 2) 0 ^^^ s.getD (o + 3) 0 := rfl
  rw [← hall2] at hx3
  have hmix := mixAt_eq s o
  have hmix1 := Lib.hid hmix
  have hfirst := hs.get o
  clear hmix hall2 hb
  generalize s.getD o 0 = a0 at *
  generalize s.getD (o + 1) 0 = a1 at *
  generalize s.getD (o + 2) 0 = a2 at *
  generalize s.getD (o + 3) 0 = a3 at *
  generalize mixAll s o = all at *
  go_enter Try.func33, Try.ntmps33
  go_wp2_with fail
  go_quiet (fail)
  go_wp2
  go_loopw [23] (fun v wr => ∃ n : Nat, n ≤ 3 ∧ v = .int .i64 n ∧ Mod (Just b) w wr ∧ wr.heap[b]? = some (.cells (bA (foldUp (mixStep all o) s n)) t (0, 0))) (fun v _ => 3 - (intOf v).toNat)
  case atStart =>
    exact ⟨0, by omega, rfl, (Mod.refl _ _).drewN _, by rw [foldUp_zero]; exact Hb.out⟩
  case round =>
    obtain ⟨n, hn, rfl, hg, h1⟩ := hrel
    have hcur : Bytes N (foldUp (mixStep all o) s n) := foldUp_inv hs (fun _ i h => mixStep_bytes hall o h i) n
    have hsn := foldUp_succ (mixStep all o) s n
    generalize hc : foldUp (mixStep all o) s n = cur at *
    have hc1 := Lib.hid hc
    have hg1 := Lib.hid hg
    have h11 := Lib.hid h1
    have hsn1 := Lib.hid hsn
    clear hg h1 hsn hc c0 c1 c2 c3 hx1 hx2 hx3
    by_cases hlt : n < 3
    · have d0 := byte_cell h11.out (j := o + n) (by rw [hcur.1]; omega)
      have d1 := byte_cell h11.out (j := o + (n + 1)) (by rw [hcur.1]; omega)
      have f1 : wr.frozen? ⟨b, o + n, none⟩ = false := blk_free h11.out
      have hy1 := bxor _ _ (hcur.get (o + n)) (hcur.get (o + (n + 1)))
      have hd := xor_lt _ _ (hcur.get (o + n)) (hcur.get (o + (n + 1)))
      have hy2 := bxor _ _ hall (dbl_lt _ hd)
      have hy3 := bxor _ _ (hcur.get (o + n)) (xor_lt _ _ hall (dbl_lt _ hd))
      have hst : mixStep all o cur n = cur.set (o + n) (cur.getD (o + n) 0 ^^^ (all ^^^ dbl (cur.getD (o + n) 0 ^^^ cur.getD (o + (n + 1)) 0))) := rfl
      have hst1 := Lib.hid hst
      clear hst
      generalize cur.getD (o + n) 0 = x0 at *
      generalize cur.getD (o + (n + 1)) 0 = x1 at *
      go_wp2_with fail
      refine wp_region_drew 19 (by kernel_rfl) (by kernel_rfl) ?_
      simp only [List.take_succ_cons, List.take_zero, List.drop_succ_cons, List.drop_zero]
      repeat (go_big_quiet_step ((go_at_call 29; refine Calls.quiet_of_same ((double_any _ hd _).mono fun _ _ h => ⟨h.1, h.2.symm⟩))))
      refine wpQuiet_nil ?_
      intro nq
      go_wp2
      go_roundw
      case rel =>
        refine ⟨n + 1, by omega, by go_num, (hg1.out.setCell (p := ⟨b, o + n, none⟩) (fun _ => (rfl : b = b)) _).drewN _, ?_⟩
        rw [hsn1.out, hst1.out]; exact byte_set h11.out
      case measure => simp [intOf]; omega
    · obtain rfl : n = 3 := by omega
      have d0 := byte_cell h11.out (j := o + 3) (by rw [hcur.1]; omega)
      have f1 : wr.frozen? ⟨b, o + 3, none⟩ = false := blk_free h11.out
      have hy1 := bxor _ _ (hcur.get (o + 3)) hfirst
      have hd := xor_lt _ _ (hcur.get (o + 3)) hfirst
      have hy2 := bxor _ _ hall (dbl_lt _ hd)
      have hy3 := bxor _ _ (hcur.get (o + 3)) (xor_lt _ _ hall (dbl_lt _ hd))
      rw [hc1.out] at hmix1
      clear hc1
      generalize cur.getD (o + 3) 0 = x0 at *
      go_wp2_with fail
      refine wp_region_drew 13 (by kernel_rfl) (by kernel_rfl) ?_
      simp only [List.take_succ_cons, List.take_zero, List.drop_succ_cons, List.drop_zero]
      repeat (go_big_quiet_step ((go_at_call 29; refine Calls.quiet_of_same ((double_any _ hd _).mono fun _ _ h => ⟨h.1, h.2.symm⟩))))
      refine wpQuiet_nil ?_
      intro nq
      go_wp2
      go_end0
      refine ⟨rfl, (hg1.out.setCell (p := ⟨b, o + 3, none⟩) (fun _ => (rfl : b = b)) _).drewN _, ?_⟩
      rw [hmix1.out]; exact byte_set h11.out

end Go.Proofs.Ytkbkobekndfapaa
