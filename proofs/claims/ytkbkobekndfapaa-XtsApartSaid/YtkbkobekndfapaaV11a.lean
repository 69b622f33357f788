/- XtsPrefix: the walk. -/
import Derived.Test.YtkbkobekndfapaaXq
import Derived.Test.YtkbkobekndfapaaRa
import Derived.WalkKit
namespace Go.Proofs.Ytkbkobekndfapaa
open Go.RowKit

theorem Sealed.front {f : List Nat → List Nat} {t0 data r r' : List Nat} {q : Nat} (h : Sealed f t0 data r) (h' : Sealed f t0 (data.take (16 * q)) r') (hq : 16 * q ≤ data.length) : r.take (16 * q) = r' := by
  have hl : (data.take (16 * q)).length = 16 * q := by rw [List.length_take]; omega
  have ht : ∀ (l : List Nat) (m : Nat), m < q → flatKey (l.take (16 * q)) m = flatKey l m := fun l m hm =>
    list_ext16 (flatKey_len _ _) (flatKey_len _ _) fun j hj => by
      rw [flatKey_get _ _ _ hj, flatKey_get _ _ _ hj]
      simp [List.getD, show 16 * m + j < 16 * q by omega]
  refine flat_ext (k := q) (by rw [List.length_take, h.size]; omega) (by rw [h'.size, hl]) fun m hm => ?_
  rw [ht r m hm, h.block m (by omega), h'.block m (by rw [hl]; omega), ht data m hm]
/-- A place that may be of whatever sign, brought in. -/
def spotOf (z : Int) (n : Nat) : Nat := (if z < 0 then -(z + 1) else z).toNat % n
theorem spotOf_lt (z : Int) {n : Nat} (h : 0 < n) : spotOf z n < n := Nat.mod_lt _ h
theorem spotOf_neg {z : Int} (n : Nat) (h : z < 0) : (-(z + 1)).tmod (n : Int) = ((spotOf z n : Nat) : Int) := by
  unfold spotOf
  rw [if_pos h]
  obtain ⟨q, hq⟩ : ∃ q : Nat, -(z + 1) = (q : Int) := ⟨(-(z + 1)).toNat, by omega⟩
  rw [hq]; rfl
theorem spotOf_pos {z : Int} (n : Nat) (h : ¬ z < 0) : z.tmod (n : Int) = ((spotOf z n : Nat) : Int) := by
  unfold spotOf
  rw [if_neg h]
  obtain ⟨q, hq⟩ : ∃ q : Nat, z = (q : Int) := ⟨z.toNat, by omega⟩
  rw [hq]; rfl

set_option maxRecDepth 100000 in
set_option maxHeartbeats 4000000 in
theorem xprefix_walk (key : List Nat) (a : Option Addr) (len cap : Nat) (data : List Nat) (s : Nat) (z : Int) (by_ : List Nat) (w : World) (hk : Bytes 32 key) (hs : s < 18446744073709551616) (hz1 : -9223372036854775808 ≤ z) (hz2 : z ≤ 9223372036854775807)
    (hd : BytesAt w a len cap data) (hle : len ≤ cap) (hmax : cap ≤ maxLen) :
    Calls Try.prog 11 #[.agg (bA key), .slice a len cap, .agg (#[.int .u64 (s : Int), .int .i64 z] ++ bA by_)] w fun e w' => e = .returned (.bool true) ∧ Mod No w w' := by
  have K0 := Lib.hid (blk_old (o' := .cells (#[.int .u64 (s : Int), .int .i64 z] ++ bA by_) 50) (blk_new w (.cells (bA key) 34)))
  have S0 := Lib.hid (show ((w.alloc (.cells (bA key) 34)).alloc (.cells (#[.int .u64 (s : Int), .int .i64 z] ++ bA by_) 50)).heap[w.heap.size + 1]? = some (.cells (#[.int .u64 (s : Int), .int .i64 z] ++ bA by_) 50 (0, 0)) from blk_new' _ (by simp))
  have M0 := Lib.hid (((Mod.refl No w).alloc (.cells (bA key) 34)).alloc (.cells (#[.int .u64 (s : Int), .int .i64 z] ++ bA by_) 50))
  have D0 := Lib.hid hd
  have hds := hd.size
  have hright := keyOf_right hk
  obtain ⟨n, hn⟩ : ∃ n, n = len / 16 := ⟨_, rfl⟩
  have hn1 := Lib.hid hn
  have hq : ((len : Int) / 16) = (n : Int) := by omega
  have hcap9 : cap ≤ 9223372036854775807 := by unfold maxLen at hmax; omega
  clear hd hn
  by_cases hbig : 256 < len ∨ n = 0
  · have hc2 : decide ((256 : Int) < (len : Int)) = true ∨ (decide ((256 : Int) < (len : Int)) = false ∧ ((n : Int) == 0) = true) := by
      by_cases h1 : 256 < len
      · left; simp; omega
      · right; constructor <;> simp <;> omega
    clear hbig
    rcases hc2 with t0 | ⟨t0, t1⟩
    all_goals
      go_enter Try.func11, Try.ntmps11
      go_wp2_with fail
      refine (xalive_any _).mono ?_
      rintro e w1 ⟨rfl, hm⟩
      go_wp2_with fail
      go_ret
      exact ⟨rfl, M0.out.then hm⟩
  · have t0 : decide ((256 : Int) < (len : Int)) = false := by simp; omega
    have t1 : ((n : Int) == 0) = false := by simp; omega
    have hn0 : 0 < n := by omega
    have hnl : 16 * n ≤ len := by have := hn1.out; omega
    have hl256 : len ≤ 256 := by omega
    go_enter Try.func11, Try.ntmps11
    go_wp2_with (refine load32w rfl _ rfl w.heap.size rfl 34 key hk.1 K0.out ?_)
    refine (key_any key _ hk).mono ?_
    rintro e w1 ⟨g, c, rfl, hm1, hc, hc2, hb⟩
    have M1 := Lib.hid (M0.out.then hm1)
    have S1 := Lib.hid (hm1.blk S0.out (fun x => x))
    have B1 := Lib.hid hb
    clear hm1 hb K0 M0 S0
    generalize keyOf key = kk at *
    go_wp2_with fail
    refine (xnew_any _ 32 c kk w1 B1.out hc hc2).mono ?_
    rintro e w2 ⟨h1, _⟩
    obtain ⟨xb, rfl, hm2, hxc⟩ := h1 hright
    have X2 := Lib.hid hxc
    have M2 := Lib.hid (M1.out.then hm2)
    have S2 := Lib.hid (hm2.blk S1.out (fun x => x))
    clear h1 hxc hm2 B1 M1 S1
    generalize xk1 kk = k1 at *
    generalize xk2 kk = k2 at *
    have cs : w2.cell? ⟨w.heap.size + 1, 0, none⟩ = some (.int .u64 (s : Int)) := blk_cell S2.out (by rw [Array.getElem?_append_left (by simp)]; rfl)
    have cz : w2.cell? ⟨w.heap.size + 1, 1, none⟩ = some (.int .i64 z) := blk_cell S2.out (by rw [Array.getElem?_append_left (by simp)]; rfl)
    have hmn := spotOf_lt z hn0
    have hcase : (z < 0 ∧ decide (z < 0) = true ∧ (-(z + 1)).tmod (n : Int) = ((spotOf z n : Nat) : Int)) ∨ (0 ≤ z ∧ decide (z < 0) = false ∧ z.tmod (n : Int) = ((spotOf z n : Nat) : Int)) := by
      by_cases hz : z < 0
      · exact .inl ⟨hz, by simp; omega, spotOf_neg n hz⟩
      · exact .inr ⟨by omega, by simp; omega, spotOf_pos n hz⟩
    generalize spotOf z n = m at *
    have hn16 : n ≤ 16 := by have := hn1.out; omega
    have hD1 := Lib.hid (fun wx (hm : Mod No w wx) => (D0.out.take (n := 16 * n) hnl).later hm)
    have hD2 := Lib.hid (fun wx (hm : Mod No w wx) => (D0.out.take (n := 16 * (1 + m)) (by omega)).later hm)
    have hlt1 : (data.take (16 * n)).length = 16 * n := by rw [List.length_take]; omega
    have hsp : w.heap.size + 1 < w2.heap.size := blk_lt S2.out
    have cs2 := cs
    have CS := Lib.hid cs
    have L2 := Lib.hid (Mod.refl No w2)
    clear cs
    rcases hcase with ⟨hz0, t2, hm⟩ | ⟨hz0, t2, hm⟩
    all_goals
      go_wp2_with fail
      refine wp_region_mid 7 2 (by kernel_rfl) (by kernel_rfl) ?_
      simp only [List.take_succ_cons, List.take_zero, List.drop_succ_cons, List.drop_zero]
      repeat (go_big_quiet_step (fail))
      refine wpQuiet_nil ?_
      intro nq
      have X3 := Lib.hid (X2.out.later ((Mod.refl No w2).drewN nq))
      have M3 := Lib.hid (M2.out.drewN nq)
      clear cs2
      go_wp2_with fail
      refine (xseal_ok xb k1 k2 s a (16 * n) cap _ _ X3.out hs (hD1.out _ M3.out) (by omega) (by omega) (by omega)).mono ?_
      rintro e w4 ⟨g4, c4, r4, rfl, hm4, hc4, hc42, _, hb4, hs4⟩
      have X4 := Lib.hid (X3.out.later hm4)
      have M4 := Lib.hid (M3.out.then hm4)
      have L4 := Lib.hid (show Mod No w2 w4 from (L2.out.drewN nq).then hm4)
      have B4 := Lib.hid hb4
      have S4 := Lib.hid hs4
      have N4 := Lib.hid (show Mod No w2 w4 from ((Mod.refl No w2).drewN nq).then hm4)
      have cs4 : w4.cell? ⟨w.heap.size + 1, 0, none⟩ = some (.int .u64 (s : Int)) := by rw [World.cell?_of_block (w := w2) (L4.out.block _ hsp (fun x => x))]; exact CS.out
      have c49 : c4 ≤ 9223372036854775807 := by unfold maxLen at hc42; omega
      clear hm4 hb4 hs4 X2 X3 M2 M3
      go_wp2_with fail
      repeat (go_big_quiet_step (fail))
      refine wpQuiet_nil ?_
      go_wp2_with fail
      refine wp_region_mid 6 2 (by kernel_rfl) (by kernel_rfl) ?_
      simp only [List.take_succ_cons, List.take_zero, List.drop_succ_cons, List.drop_zero]
      repeat (go_big_quiet_step (fail))
      refine wpQuiet_nil ?_
      intro nq
      have X5 := Lib.hid (X4.out.later ((Mod.refl No w4).drewN nq))
      have M5 := Lib.hid (M4.out.drewN nq)
      clear cs4
      go_wp2_with fail
      refine (xseal_ok xb k1 k2 s a (16 * (1 + m)) cap _ _ X5.out hs (hD2.out _ M5.out) (by omega) (by omega) (by omega)).mono ?_
      rintro e w6 ⟨g6, c6, r6, rfl, hm6, hc6, hc62, _, hb6, hs6⟩
      have X6 := Lib.hid (X5.out.later hm6)
      have M6 := Lib.hid (M5.out.then hm6)
      have L6 := Lib.hid (show Mod No w2 w6 from (L4.out.drewN nq).then hm6)
      have B6 := Lib.hid hb6
      have S6 := Lib.hid hs6
      have N6 := Lib.hid (show Mod No w4 w6 from ((Mod.refl No w4).drewN nq).then hm6)
      have cs6 : w6.cell? ⟨w.heap.size + 1, 0, none⟩ = some (.int .u64 (s : Int)) := by rw [World.cell?_of_block (w := w2) (L6.out.block _ hsp (fun x => x))]; exact CS.out
      have c69 : c6 ≤ 9223372036854775807 := by unfold maxLen at hc62; omega
      clear hm6 hb6 hs6 X4 X5 M4 M5
      go_wp2_with fail
      repeat (go_big_quiet_step (fail))
      refine wpQuiet_nil ?_
      go_wp2_with fail
      refine wp_region_mid 7 2 (by kernel_rfl) (by kernel_rfl) ?_
      simp only [List.take_succ_cons, List.take_zero, List.drop_succ_cons, List.drop_zero]
      repeat (go_big_quiet_step (fail))
      refine wpQuiet_nil ?_
      intro nq
      have X7 := Lib.hid (X6.out.later ((Mod.refl No w6).drewN nq))
      have M7 := Lib.hid (M6.out.drewN nq)
      clear cs6
      go_wp2_with fail
      refine (xopen_ok xb k1 k2 s a (16 * n) cap _ _ X7.out hs (hD1.out _ M7.out) (by omega) (by omega) (by omega)).mono ?_
      rintro e w8 ⟨g8, c8, r8, rfl, hm8, hc8, hc82, _, hb8, hs8⟩
      have X8 := Lib.hid (X7.out.later hm8)
      have M8 := Lib.hid (M7.out.then hm8)
      have L8 := Lib.hid (show Mod No w2 w8 from (L6.out.drewN nq).then hm8)
      have B8 := Lib.hid hb8
      have S8 := Lib.hid hs8
      have N8 := Lib.hid (show Mod No w6 w8 from ((Mod.refl No w6).drewN nq).then hm8)
      have cs8 : w8.cell? ⟨w.heap.size + 1, 0, none⟩ = some (.int .u64 (s : Int)) := by rw [World.cell?_of_block (w := w2) (L8.out.block _ hsp (fun x => x))]; exact CS.out
      have c89 : c8 ≤ 9223372036854775807 := by unfold maxLen at hc82; omega
      clear hm8 hb8 hs8 X6 X7 M6 M7
      go_wp2_with fail
      repeat (go_big_quiet_step (fail))
      refine wpQuiet_nil ?_
      go_wp2_with fail
      refine wp_region_mid 6 2 (by kernel_rfl) (by kernel_rfl) ?_
      simp only [List.take_succ_cons, List.take_zero, List.drop_succ_cons, List.drop_zero]
      repeat (go_big_quiet_step (fail))
      refine wpQuiet_nil ?_
      intro nq
      have X9 := Lib.hid (X8.out.later ((Mod.refl No w8).drewN nq))
      have M9 := Lib.hid (M8.out.drewN nq)
      clear cs8
      go_wp2_with fail
      refine (xopen_ok xb k1 k2 s a (16 * (1 + m)) cap _ _ X9.out hs (hD2.out _ M9.out) (by omega) (by omega) (by omega)).mono ?_
      rintro e w10 ⟨g10, c10, r10, rfl, hm10, hc10, hc102, _, hb10, hs10⟩
      have X10 := Lib.hid (X9.out.later hm10)
      have M10 := Lib.hid (M9.out.then hm10)
      have L10 := Lib.hid (show Mod No w2 w10 from (L8.out.drewN nq).then hm10)
      have B10 := Lib.hid hb10
      have S10 := Lib.hid hs10
      have N10 := Lib.hid (show Mod No w8 w10 from ((Mod.refl No w8).drewN nq).then hm10)
      have cs10 : w10.cell? ⟨w.heap.size + 1, 0, none⟩ = some (.int .u64 (s : Int)) := by rw [World.cell?_of_block (w := w2) (L10.out.block _ hsp (fun x => x))]; exact CS.out
      have c109 : c10 ≤ 9223372036854775807 := by unfold maxLen at hc102; omega
      clear hm10 hb10 hs10 X8 X9 M8 M9
      go_wp2_with fail
      repeat (go_big_quiet_step (fail))
      refine wpQuiet_nil ?_
      go_wp2_with fail
      have e1 : r4.take (16 * (1 + m)) = r6 := S4.out.front (by rw [List.take_take, Nat.min_eq_left (by omega)]; exact S6.out) (by rw [hlt1]; omega)
      have e2 : r8.take (16 * (1 + m)) = r10 := S8.out.front (by rw [List.take_take, Nat.min_eq_left (by omega)]; exact S10.out) (by rw [hlt1]; omega)
      subst e1 e2
      have b4 := ((B4.out.later N6.out).later N8.out).later N10.out
      have b6 := (B6.out.later N8.out).later N10.out
      have b8 := B8.out.later N10.out
      have b10 := B10.out
      have u4 : ∀ y : Later No w10, (convert 22 9 (.slice (some ⟨g4, 0, none⟩) (16 * (1 + m)) c4)).run Try.prog y.to = .ok (.string (strN (r4.take (16 * (1 + m))))) y.to := fun y => ((b4.take (n := 16 * (1 + m)) (by omega)).later y.ok).str
      have u6 : ∀ y : Later No w10, (convert 22 9 (.slice (some ⟨g6, 0, none⟩) (16 * (1 + m)) c6)).run Try.prog y.to = .ok (.string (strN (r4.take (16 * (1 + m))))) y.to := fun y => (b6.later y.ok).str
      have u8 : ∀ y : Later No w10, (convert 22 9 (.slice (some ⟨g8, 0, none⟩) (16 * (1 + m)) c8)).run Try.prog y.to = .ok (.string (strN (r8.take (16 * (1 + m))))) y.to := fun y => ((b8.take (n := 16 * (1 + m)) (by omega)).later y.ok).str
      have u10 : ∀ y : Later No w10, (convert 22 9 (.slice (some ⟨g10, 0, none⟩) (16 * (1 + m)) c10)).run Try.prog y.to = .ok (.string (strN (r8.take (16 * (1 + m))))) y.to := fun y => (b10.later y.ok).str
      have al := Lib.hid (fun y : Later No w10 => xalive_later y)
      generalize strN (r4.take (16 * (1 + m))) = x4 at *
      generalize strN (r8.take (16 * (1 + m))) = x8 at *
      clear b4 b6 b8 b10 B4 B6 B8 B10 S4 S6 S8 S10 hD1 hD2
      refine wp_region_laters (by kernel_rfl) (by kernel_rfl) ?_
      iterate 1 (go_big_quiet_step (exact al.out _))
      repeat (go_big_quiet_step (fail))
      refine wpQuiet_nil ?_
      intro y
      go_wp2_with fail
      go_ret
      exact ⟨rfl, M10.out.then y.ok⟩
end Go.Proofs.Ytkbkobekndfapaa
