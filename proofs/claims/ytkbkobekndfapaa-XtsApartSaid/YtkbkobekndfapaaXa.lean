/- The tweak doubled in place; the closure that xors a block with the tweak. -/
import Derived.Test.YtkbkobekndfapaaI1
import Derived.Test.YtkbkobekndfapaaL1
namespace Go.Proofs.Ytkbkobekndfapaa
open Go.RowKit

def xdStep (t : List Nat) (j : Nat) : List Nat := t.set (15 - j) (t.getD (15 - j) 0 * 2 % 256 ||| t.getD (14 - j) 0 / 128)
def xdFirst (x out : Nat) : Nat := x * 2 % 256 ^^^ out * 135
def xdbl (t : List Nat) : List Nat := (foldUp xdStep t 15).set 0 (xdFirst ((foldUp xdStep t 15).getD 0 0) (t.getD 15 0 / 128))
theorem or_lt (a b : Nat) (ha : a < 256) (hb : b < 256) : a ||| b < 256 := Nat.or_lt_two_pow (n := 8) ha hb
theorem xdStep_bytes {n : Nat} {t : List Nat} (h : Bytes n t) (j : Nat) : Bytes n (xdStep t j) := h.set _ (or_lt _ _ (by omega) (by have := h.get (14 - j); omega))
theorem xdFirst_lt (x out : Nat) (h : out < 2) : xdFirst x out < 256 := xor_lt _ _ (by omega) (by omega)
theorem xdbl_bytes {n : Nat} {t : List Nat} (h : Bytes n t) : Bytes n (xdbl t) :=
  (foldUp_inv h (fun _ i h => xdStep_bytes h i) 15).set _ (xdFirst_lt _ _ (by have := h.get 15; omega))
theorem xdStep_def (t : List Nat) (j : Nat) : xdStep t j = t.set (15 - j) (t.getD (15 - j) 0 * 2 % 256 ||| t.getD (14 - j) 0 / 128) := rfl
theorem xdbl_def (t : List Nat) : xdbl t = (foldUp xdStep t 15).set 0 (xdFirst ((foldUp xdStep t 15).getD 0 0) (t.getD 15 0 / 128)) := rfl
attribute [irreducible] xdStep xdbl

set_option maxHeartbeats 2000000 in
theorem xdouble_any (b : Nat) (ty : TypeId) (t : List Nat) (w : World) (ht : Bytes 16 t) (hb : w.heap[b]? = some (.cells (bA t) ty (0, 0))) :
    Calls Try.prog 44 #[.pointer (some ⟨b, 0, none⟩)] w fun e w' => e = .returned (.tuple #[]) ∧ Mod (Just b) w w' ∧ w'.heap[b]? = some (.cells (bA (xdbl t)) ty (0, 0)) := by
  have Hb := Lib.hid hb
  have c15 := byte_cell hb (j := 15) (by rw [ht.1]; omega)
  have h15 := ht.get 15
  have hdef := Lib.hid (xdbl_def t)
  clear hb
  generalize t.getD 15 0 = t15 at *
  go_enter Try.func44, Try.ntmps44
  go_wp2_with fail
  clear c15
  go_loopw [3] (fun v wr => ∃ j k : Nat, j + k = 15 ∧ v = .int .i64 k ∧ Mod (Just b) w wr ∧ wr.heap[b]? = some (.cells (bA (foldUp xdStep t j)) ty (0, 0))) (fun v _ => (intOf v).toNat)
  case atStart => exact ⟨0, 15, rfl, rfl, Mod.refl _ _, by rw [foldUp_zero]; exact Hb.out⟩
  case round =>
    clear Hb
    obtain ⟨j, k, hjk, rfl, y2, y0⟩ := hrel
    have hcu : Bytes 16 (foldUp xdStep t j) := foldUp_inv ht (fun _ i h => xdStep_bytes h i) j
    have hsu := Lib.hid (foldUp_succ xdStep t j)
    generalize hde : foldUp xdStep t j = cu at *
    have hde1 := Lib.hid hde
    have z0 := Lib.hid y0
    have z2 := Lib.hid y2
    clear hde y0 y2
    by_cases hk : 0 < k
    · have hd : decide (0 < (k : Int)) = true := by simp; omega
      have c1 := byte_cell z0.out (j := k) (by rw [hcu.1]; omega)
      have c2 := byte_cell z0.out (j := k - 1) (by rw [hcu.1]; omega)
      have b1 := hcu.get k
      have b2 := hcu.get (k - 1)
      have cf : wr.frozen? ⟨b, k, none⟩ = false := blk_free z0.out
      have hst1 := Lib.hid (show xdStep cu j = cu.set k (cu.getD k 0 * 2 % 256 ||| cu.getD (k - 1) 0 / 128) by rw [xdStep_def, show 15 - j = k by omega, show 14 - j = k - 1 by omega])
      generalize cu.getD k 0 = x at *
      generalize cu.getD (k - 1) 0 = y at *
      have hx : bits .or .u8 ((x : Int) * 2 % 256) ((y : Int) / 128) = ((x * 2 % 256 ||| y / 128 : Nat) : Int) := by
        have := u8_or_nat (x * 2 % 256) (y / 128) (by omega) (by omega)
        simpa using this
      have hk1 : ((k : Int) - 1).toNat = k - 1 := by omega
      go_wp2_with fail
      refine wp_region_drew 18 (by kernel_rfl) (by kernel_rfl) ?_
      simp only [List.take_succ_cons, List.take_zero, List.drop_succ_cons, List.drop_zero]
      repeat (go_big_quiet_step (fail))
      refine wpQuiet_nil ?_
      intro nq
      go_wp2_with fail
      go_roundw
      case rel =>
        refine ⟨j + 1, k - 1, by omega, by go_num, (z2.out.setCell (p := ⟨b, k, none⟩) (fun _ => (rfl : b = b)) _).drewN _, ?_⟩
        rw [hsu.out, hst1.out]; exact byte_set z0.out
      case measure => simp [intOf]; omega
    · obtain rfl : k = 0 := by omega
      obtain rfl : j = 15 := by omega
      have he := Lib.hid (show xdbl t = cu.set 0 (xdFirst (cu.getD 0 0) (t15 / 128)) by rw [hdef.out, hde1.out])
      have c0 := byte_cell z0.out (j := 0) (by rw [hcu.1]; omega)
      have b0 := hcu.get 0
      have cf : wr.frozen? ⟨b, 0, none⟩ = false := blk_free z0.out
      generalize cu.getD 0 0 = x at *
      have hx : bits .xor .u8 ((x : Int) * 2 % 256) ((t15 : Int) / 128 * 135) = ((xdFirst x (t15 / 128) : Nat) : Int) := by
        have := u8_xor_nat (x * 2 % 256) (t15 / 128 * 135) (by omega) (by omega)
        unfold xdFirst
        simpa using this
      generalize xdFirst x (t15 / 128) = xf at *
      clear hdef hde1 hsu
      go_wp2_with fail
      refine wp_region_drew 11 (by kernel_rfl) (by kernel_rfl) ?_
      simp only [List.take_succ_cons, List.take_zero, List.drop_succ_cons, List.drop_zero]
      repeat (go_big_quiet_step (fail))
      refine wpQuiet_nil ?_
      intro nq
      go_wp2_with fail
      go_end0
      refine ⟨rfl, (z2.out.setCell (p := ⟨b, 0, none⟩) (fun _ => (rfl : b = b)) _).drewN _, ?_⟩
      rw [he.out]; exact byte_set z0.out

/-- A block of a row of bytes, xored. -/
def xaStep (at_ : Nat) (t l : List Nat) (i : Nat) : List Nat := l.set (at_ + i) (l.getD (at_ + i) 0 ^^^ t.getD i 0)
def xorAt (l : List Nat) (at_ : Nat) (t : List Nat) : List Nat := foldUp (xaStep at_ t) l 16
theorem xorAt_def (l : List Nat) (at_ : Nat) (t : List Nat) : xorAt l at_ t = foldUp (xaStep at_ t) l 16 := rfl
theorem xaStep_def (at_ : Nat) (t l : List Nat) (i : Nat) : xaStep at_ t l i = l.set (at_ + i) (l.getD (at_ + i) 0 ^^^ t.getD i 0) := rfl
theorem xaStep_bytes {n m at_ : Nat} {t l : List Nat} (ht : Bytes m t) (hl : Bytes n l) (i : Nat) : Bytes n (xaStep at_ t l i) := hl.set _ (xor_lt _ _ (hl.get _) (ht.get _))
theorem xorAt_bytes {n m at_ : Nat} {t l : List Nat} (ht : Bytes m t) (hl : Bytes n l) : Bytes n (xorAt l at_ t) := foldUp_inv hl (fun _ i h => xaStep_bytes ht h i) 16
attribute [irreducible] xaStep xorAt
theorem FlatAt.set {w : World} {g i x : Nat} {cur : Array Value} {l : List Nat} (h : FlatAt w g cur l) (hi : i < l.length) (hx : x < 256) : FlatAt (w.setCell ⟨g, i, none⟩ (.int .u8 (x : Int))) g (cur.setIfInBounds i (.int .u8 (x : Int))) (l.set i x) :=
  ⟨blk_set _ h.cell, fun j hj => by
    have hs : i < cur.size := (Array.getElem?_eq_some_iff.1 (h.get i hi)).1
    rw [List.length_set] at hj
    by_cases e : i = j
    · subst e
      simp [hs, List.getD, hi]
    · have := h.get j hj
      rw [Array.getElem?_setIfInBounds_ne e, this]
      simp [List.getD, e], fun y hy => by
    rcases List.mem_or_eq_of_mem_set hy with h1 | rfl
    · exact h.ok y h1
    · exact hx⟩

set_option maxHeartbeats 2000000 in
theorem xclos_any (cb tb ob at_ cp : Nat) (ty : TypeId) (t l : List Nat) (cu : Array Value) (w : World) (ht : Bytes 16 t) (hn : at_ + 16 ≤ l.length)
    (hc : w.cell? ⟨cb, 0, none⟩ = some (.slice (some ⟨ob, at_, none⟩) 16 cp)) (hcb : cb ≠ ob) (htb : w.heap[tb]? = some (.cells (bA t) ty (0, 0))) (hto : tb ≠ ob) (hf : FlatAt w ob cu l) :
    Calls Try.prog 43 #[.pointer (some ⟨cb, 0, none⟩), .pointer (some ⟨tb, 0, none⟩)] w fun e w' => e = .returned (.tuple #[]) ∧ Mod (Just ob) w w' ∧ ∃ cu', FlatAt w' ob cu' (xorAt l at_ t) := by
  have Hc := Lib.hid hc
  have Ht := Lib.hid htb
  have Hf := Lib.hid hf
  have hlt := World.block_lt_of_cell? _ _ hc
  have hdef := Lib.hid (xorAt_def l at_ t)
  have hbl : Bytes l.length l := ⟨rfl, hf.ok⟩
  generalize hN : l.length = N at *
  clear htb hf
  go_enter Try.func43, Try.ntmps43
  go_wp2_with fail
  clear hc
  go_loopw [5] (fun v wr => ∃ i : Nat, i ≤ 16 ∧ v = .int .i64 i ∧ Mod (Just ob) w wr ∧ ∃ cz, FlatAt wr ob cz (foldUp (xaStep at_ t) l i)) (fun v _ => 16 - (intOf v).toNat)
  case atStart => exact ⟨0, by omega, rfl, Mod.refl _ _, cu, by rw [foldUp_zero]; exact Hf.out⟩
  case round =>
    clear Hf
    obtain ⟨i, hi, rfl, y2, cz, y0⟩ := hrel
    have hcu : Bytes N (foldUp (xaStep at_ t) l i) := foldUp_inv hbl (fun _ i h => xaStep_bytes ht h i) i
    have hsu := Lib.hid (foldUp_succ (xaStep at_ t) l i)
    generalize hde : foldUp (xaStep at_ t) l i = lc at *
    have hde1 := Lib.hid hde
    have z0 := Lib.hid y0
    have z2 := Lib.hid y2
    clear hde y0 y2
    by_cases hli : i < 16
    · have cc : wr.cell? ⟨cb, 0, none⟩ = some (.slice (some ⟨ob, at_, none⟩) 16 cp) := by rw [World.cell?_of_block (w := w) (z2.out.block _ hlt (not_just hcb))]; exact Hc.out
      have c1 := z0.out.at (j := at_ + i) (by rw [hcu.1]; omega)
      have c2 := byte_cell (z2.out.blk Ht.out (not_just hto)) (j := i) (by rw [ht.1]; exact hli)
      have cf : wr.frozen? ⟨ob, at_ + i, none⟩ = false := blk_free z0.out.cell
      have hx := bxor _ _ (hcu.get (at_ + i)) (ht.get i)
      have hlx := xor_lt _ _ (hcu.get (at_ + i)) (ht.get i)
      have hst1 := Lib.hid (xaStep_def at_ t lc i)
      generalize lc.getD (at_ + i) 0 = x at *
      generalize t.getD i 0 = y at *
      go_wp2_with fail
      refine wp_region_drew 9 (by kernel_rfl) (by kernel_rfl) ?_
      simp only [List.take_succ_cons, List.take_zero, List.drop_succ_cons, List.drop_zero]
      repeat (go_big_quiet_step (fail))
      refine wpQuiet_nil ?_
      intro nq
      go_wp2_with fail
      go_roundw
      case rel =>
        refine ⟨i + 1, by omega, by go_num, (z2.out.setCell (p := ⟨ob, at_ + i, none⟩) (fun _ => (rfl : ob = ob)) _).drewN _, cz.setIfInBounds (at_ + i) (.int .u8 ((x ^^^ y : Nat) : Int)), ?_⟩
        rw [hsu.out, hst1.out]
        have := z0.out.set (i := at_ + i) (x := x ^^^ y) (by rw [hcu.1]; omega) hlx
        exact ⟨this.cell, this.get, this.ok⟩
      case measure => simp [intOf]; omega
    · obtain rfl : i = 16 := by omega
      have he := Lib.hid (show xorAt l at_ t = lc by rw [hdef.out]; exact hde1.out)
      clear hde1 hsu
      go_wp2_with fail
      go_end0
      exact ⟨rfl, z2.out, cz, by rw [he.out]; exact z0.out⟩
end Go.Proofs.Ytkbkobekndfapaa
