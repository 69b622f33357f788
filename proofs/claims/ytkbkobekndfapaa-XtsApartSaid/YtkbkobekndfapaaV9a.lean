/- XtsApart: the walk, the place below nought. -/
import Derived.Test.YtkbkobekndfapaaXr
import Derived.Test.YtkbkobekndfapaaV11a
import Derived.WalkKit
namespace Go.Proofs.Ytkbkobekndfapaa
open Go.RowKit

set_option maxRecDepth 100000 in
set_option maxHeartbeats 8000000 in
theorem xapart_walk_neg (key : List Nat) (a : Option Addr) (len cap : Nat) (data : List Nat) (s : Nat) (z : Int) (by_ : List Nat) (w : World) (hk : Bytes 32 key) (hs : s < 18446744073709551616) (hz1 : -9223372036854775808 ≤ z) (hz2 : z ≤ 9223372036854775807)
    (hz0 : z < 0) (hby : Bytes 16 by_) (hd : BytesAt w a len cap data) (hnil : a = none → len = 0 ∧ cap = 0) (hle : len ≤ cap) (hmax : cap ≤ maxLen) :
    Calls Try.prog 9 #[.agg (bA key), .slice a len cap, .agg (#[.int .u64 (s : Int), .int .i64 z] ++ bA by_)] w fun e w' => e = .returned (.bool true) ∧ Mod No w w' := by
  have K0 := Lib.hid (blk_old (o' := .cells (#[.int .u64 (s : Int), .int .i64 z] ++ bA by_) 50) (blk_new w (.cells (bA key) 34)))
  have S0 := Lib.hid (show ((w.alloc (.cells (bA key) 34)).alloc (.cells (#[.int .u64 (s : Int), .int .i64 z] ++ bA by_) 50)).heap[w.heap.size + 1]? = some (.cells (#[.int .u64 (s : Int), .int .i64 z] ++ bA by_) 50 (0, 0)) from blk_new' _ (by simp))
  have M0 := Lib.hid (((Mod.refl No w).alloc (.cells (bA key) 34)).alloc (.cells (#[.int .u64 (s : Int), .int .i64 z] ++ bA by_) 50))
  have D0 := Lib.hid hd
  have hds := hd.size
  have hright := keyOf_right hk
  obtain ⟨n, hn⟩ : ∃ n, n = len / 16 := ⟨_, rfl⟩
  have hn1 := Lib.hid hn
  have hq : ((len : Int) / 16) = (n : Int) := by omega
  have hcap9 : cap ≤ 9223372036854775807 := by unfold maxLen at hmax; omega
  clear hd hn
  by_cases hbig : 256 < len ∨ n = 0
  · have hc2 : decide ((256 : Int) < (len : Int)) = true ∨ (decide ((256 : Int) < (len : Int)) = false ∧ ((n : Int) == 0) = true) := by
      by_cases h1 : 256 < len
      · left; simp; omega
      · right; constructor <;> simp <;> omega
    clear hbig
    rcases hc2 with t0 | ⟨t0, t1⟩
    all_goals
      go_enter Try.func9, Try.ntmps9
      go_wp2_with fail
      refine (xalive_any _).mono ?_
      rintro e w1 ⟨rfl, hm⟩
      go_wp2_with fail
      go_ret
      exact ⟨rfl, M0.out.then hm⟩
  · have t0 : decide ((256 : Int) < (len : Int)) = false := by simp; omega
    have t1 : ((n : Int) == 0) = false := by simp; omega
    have hn0 : 0 < n := by omega
    have hnl : 16 * n ≤ len := by have := hn1.out; omega
    have hl256 : len ≤ 256 := by omega
    go_enter Try.func9, Try.ntmps9
    go_wp2_with (refine load32w rfl _ rfl w.heap.size rfl 34 key hk.1 K0.out ?_)
    refine (key_any key _ hk).mono ?_
    rintro e w1 ⟨g, c, rfl, hm1, hc, hc2, hb⟩
    have M1 := Lib.hid (M0.out.then hm1)
    have S1 := Lib.hid (hm1.blk S0.out (fun x => x))
    have B1 := Lib.hid hb
    clear hm1 hb K0 M0 S0
    generalize keyOf key = kk at *
    go_wp2_with fail
    refine (xnew_any _ 32 c kk w1 B1.out hc hc2).mono ?_
    rintro e w2 ⟨h1, _⟩
    obtain ⟨xb, rfl, hm2, hxc⟩ := h1 hright
    have X2 := Lib.hid hxc
    have M2 := Lib.hid (M1.out.then hm2)
    have S2 := Lib.hid (hm2.blk S1.out (fun x => x))
    clear h1 hxc hm2 B1 M1 S1
    generalize xk1 kk = k1 at *
    generalize xk2 kk = k2 at *
    have cz : w2.cell? ⟨w.heap.size + 1, 1, none⟩ = some (.int .i64 z) := blk_cell S2.out (by rw [Array.getElem?_append_left (by simp)]; rfl)
    have hmn := spotOf_lt z hn0
    have hm : (-(z + 1)).tmod (n : Int) = ((spotOf z n : Nat) : Int) := spotOf_neg n hz0
    have t2 : decide (z < 0) = true := by simp; omega
    generalize spotOf z n = m at *
    have hn16 : n ≤ 16 := by have := hn1.out; omega
    have hsp : w.heap.size + 1 < w2.heap.size := blk_lt S2.out
    have hob : Bytes (16 * n) (data.take (16 * n)) := ⟨by rw [List.length_take]; omega, fun x hx => D0.out.ok x (List.mem_of_mem_take hx)⟩
    have D2 := Lib.hid ((D0.out.take (n := 16 * n) hnl).later M2.out)
    have hne : a = none → 16 * n = 0 ∧ cap = 0 := fun h => absurd (hnil h).1 (by omega)
    generalize hone : data.take (16 * n) = one at *
    clear hone hnil D0
    have A1 := Lib.hid ((Mod.refl No w2).alloc (.cells #[] 5))
    have A2 := Lib.hid (show (w2.alloc (.cells #[] 5)).ownsRow w2.heap.size 5 1 (.slice (some ⟨w2.heap.size, 0, none⟩) 0 0) 0 [] from ⟨rfl, .inr ⟨w2.heap.size, 0, #[], rfl, Nat.le_refl _, blk_new' _ (by simp), Nat.le_refl _, Nat.zero_le _, rfl, rfl⟩⟩)
    have A3 := Lib.hid (D2.out.later A1.out)
    have A4 : w2.heap.size ≤ (w2.alloc (.cells #[] 5)).heap.size := by simp
    go_wp2_with (refine append_bytes rfl (.tmp 57) (.tmp 61) rfl w2.heap.size (.slice (some ⟨w2.heap.size, 0, none⟩) 0 0) 0 [] rfl A2.out a (16 * n) cap one rfl A3.out hne (by omega) A4 ?_; refine hold ?_)
    unfold Hold
    intro v3 w3 o3 m3
    have M3 := Lib.hid (show Mod No w2 w3 from A1.out.trans m3 (fun i hi h => absurd (show w2.heap.size = i by injection h) (by omega)))
    have o3' : w3.ownsRow w2.heap.size 5 1 v3 (16 * n) (bL one) := by simpa using o3
    obtain ⟨g3, c3, rfl, hg3, hg3l, hc3, hc32⟩ := own_slice o3' (by omega)
    obtain ⟨cu3, hf3⟩ := own_flat o3' hob.2
    have F3 := Lib.hid hf3
    have R3 := Lib.hid (show BytesAt w3 (some ⟨g3, 0, none⟩) (16 * n) c3 one by have := hf3.bytes (c := c3); rwa [hob.1] at this)
    clear A1 A2 A3 A4 o3 o3' m3 hf3
    have A1 := Lib.hid ((Mod.refl No w3).alloc (.cells #[] 5))
    have A2 := Lib.hid (show (w3.alloc (.cells #[] 5)).ownsRow w3.heap.size 5 1 (.slice (some ⟨w3.heap.size, 0, none⟩) 0 0) 0 [] from ⟨rfl, .inr ⟨w3.heap.size, 0, #[], rfl, Nat.le_refl _, blk_new' _ (by simp), Nat.le_refl _, Nat.zero_le _, rfl, rfl⟩⟩)
    have A3 := Lib.hid (R3.out.later A1.out)
    have A4 : w3.heap.size ≤ (w3.alloc (.cells #[] 5)).heap.size := by simp
    go_wp2_with (refine append_bytes rfl (.tmp 63) (.tmp 64) rfl w3.heap.size (.slice (some ⟨w3.heap.size, 0, none⟩) 0 0) 0 [] rfl A2.out (some ⟨g3, 0, none⟩) (16 * n) c3 one rfl A3.out (fun h => absurd h (by simp)) (by omega) A4 ?_; refine hold ?_)
    unfold Hold
    intro v4 w4 o4 m4
    have M4 := Lib.hid (show Mod No w3 w4 from A1.out.trans m4 (fun i hi h => absurd (show w3.heap.size = i by injection h) (by omega)))
    have o4' : w4.ownsRow w3.heap.size 5 1 v4 (16 * n) (bL one) := by simpa using o4
    obtain ⟨g4, c4, rfl, hg4, hg4l, hc4, hc42⟩ := own_slice o4' (by omega)
    obtain ⟨cu4, hf4⟩ := own_flat o4' hob.2
    have F4 := Lib.hid hf4
    clear A1 A2 A3 A4 o4 o4' m4 hf4
    have c39 : c3 ≤ 9223372036854775807 := by unfold maxLen at hc32; omega
    have c49 : c4 ≤ 9223372036854775807 := by unfold maxLen at hc42; omega
    have S4 := Lib.hid (M4.out.blk (M3.out.blk S2.out (fun x => x)) (fun x => x))
    have hw43 : w3.heap.size ≤ w4.heap.size := M4.out.size
    have hw32 : w2.heap.size ≤ w3.heap.size := M3.out.size
    clear F3 D2 S2 cz
    go_wp2_with fail
    go_loopw [13] (fun v wr => ∃ i : Nat, i ≤ 16 ∧ v = .int .i64 i ∧ Mod (Just g4) w4 wr ∧ ∃ cw, FlatAt wr g4 cw (foldUp (xaStep (16 * m) by_) one i)) (fun v _ => 16 - (intOf v).toNat)
    case atStart => exact ⟨0, by omega, rfl, Mod.refl _ _, cu4, by rw [foldUp_zero]; exact F4.out⟩
    case round =>
      obtain ⟨i, hi, rfl, y2, cw, y0⟩ := hrel
      have hcu : Bytes (16 * n) (foldUp (xaStep (16 * m) by_) one i) := foldUp_inv hob (fun _ i h => xaStep_bytes hby h i) i
      have hsu := Lib.hid (foldUp_succ (xaStep (16 * m) by_) one i)
      generalize hde : foldUp (xaStep (16 * m) by_) one i = lc at *
      have hde1 := Lib.hid hde
      have z0 := Lib.hid y0
      have z2 := Lib.hid y2
      clear hde y0 y2
      by_cases hli : i < 16
      · have cA := z0.out.at (j := 16 * m + i) (by rw [hcu.1]; omega)
        have cB : wr.cell? ⟨w.heap.size + 1, 2 + i, none⟩ = some (.int .u8 ((by_.getD i 0 : Nat) : Int)) := blk_cell (z2.out.blk S4.out (not_just (by omega))) (spot_by i _ (bA_get (by rw [hby.1]; exact hli)))
        have cf : wr.frozen? ⟨g4, 16 * m + i, none⟩ = false := blk_free z0.out.cell
        have hx := bxor _ _ (hcu.get (16 * m + i)) (hby.get i)
        have hlx := xor_lt _ _ (hcu.get (16 * m + i)) (hby.get i)
        have hst := Lib.hid (xaStep_def (16 * m) by_ lc i)
        generalize lc.getD (16 * m + i) 0 = xa at *
        generalize by_.getD i 0 = xb at *
        have q1 : (16 * (m : Int) + (i : Int)).toNat = 16 * m + i := by omega
        have q2 : 0 ≤ 16 * (m : Int) + (i : Int) := by omega
        have q3 : 16 * (m : Int) + (i : Int) < 16 * (n : Int) := by omega
        go_wp2_with fail
        refine wp_region_drew 18 (by kernel_rfl) (by kernel_rfl) ?_
        simp only [List.take_succ_cons, List.take_zero, List.drop_succ_cons, List.drop_zero]
        repeat (go_big_quiet_step (fail))
        refine wpQuiet_nil ?_
        intro nq
        go_wp2_with fail
        go_roundw
        case rel =>
          refine ⟨i + 1, by omega, by go_num, (z2.out.setCell (p := ⟨g4, 16 * m + i, none⟩) (fun _ => (rfl : g4 = g4)) _).drewN _, cw.setIfInBounds (16 * m + i) (.int .u8 ((xa ^^^ xb : Nat) : Int)), ?_⟩
          rw [hsu.out, hst.out]
          have := z0.out.set (i := 16 * m + i) (x := xa ^^^ xb) (by rw [hcu.1]; omega) hlx
          exact ⟨this.cell, this.get, this.ok⟩
        case measure => simp [intOf]; omega
      · obtain rfl : i = 16 := by omega
        have he := Lib.hid (show xorAt one (16 * m) by_ = lc by rw [xorAt_def]; exact hde1.out)
        have hX := Lib.hid (show Bytes (16 * n) lc from hcu)
        clear hsu hde1
        have L5 := Lib.hid (show Mod No w2 wr from (M3.out.then M4.out).trans z2.out (fun i hi h => absurd (show i = g4 from h) (by omega)))
        have L53 := Lib.hid (show Mod No w3 wr from M4.out.trans z2.out (fun i hi h => absurd (show i = g4 from h) (by omega)))
        have X5 := Lib.hid (X2.out.later L5.out)
        have B3 := Lib.hid (R3.out.later L53.out)
        have B4 := Lib.hid (show BytesAt wr (some ⟨g4, 0, none⟩) (16 * n) c4 lc by have := z0.out.bytes (c := c4); rwa [hX.out.1] at this)
        have S5 := Lib.hid (z2.out.blk S4.out (not_just (by omega)))
        have N5 := Lib.hid (M2.out.then L5.out)
        have cs : wr.cell? ⟨w.heap.size + 1, 0, none⟩ = some (.int .u64 (s : Int)) := blk_cell S5.out (by rw [Array.getElem?_append_left (by simp)]; rfl)
        clear L5 L53 X2 R3 F4 S4 M2 M3 M4 z0 z2 hcu
        go_wp2_with fail
        refine (xseal_ok xb k1 k2 s (some ⟨g3, 0, none⟩) (16 * n) c3 _ _ X5.out hs B3.out (by omega) (by omega) (by omega)).mono ?_
        rintro e w6 ⟨g6, c6, r6, rfl, hm6, hc6, hc62, _, hb6, hs6⟩
        have X6 := Lib.hid (X5.out.later hm6)
        have N6 := Lib.hid (N5.out.then hm6)
        have B3' := Lib.hid (B3.out.later hm6)
        have B4' := Lib.hid (B4.out.later hm6)
        have S6 := Lib.hid (hm6.blk S5.out (fun x => x))
        have V6 := Lib.hid hb6
        have Y6 := Lib.hid hs6
        have c69 : c6 ≤ 9223372036854775807 := by unfold maxLen at hc62; omega
        have cs6 : w6.cell? ⟨w.heap.size + 1, 0, none⟩ = some (.int .u64 (s : Int)) := blk_cell S6.out (by rw [Array.getElem?_append_left (by simp)]; rfl)
        clear hm6 hb6 hs6 cs X5 N5 B3 B4 S5
        go_wp2_with fail
        refine (xseal_ok xb k1 k2 s (some ⟨g4, 0, none⟩) (16 * n) c4 _ _ X6.out hs B4'.out (by omega) (by omega) (by omega)).mono ?_
        rintro e w7 ⟨g7, c7, r7, rfl, hm7, hc7, hc72, _, hb7, hs7⟩
        have X7 := Lib.hid (X6.out.later hm7)
        have N7 := Lib.hid (N6.out.then hm7)
        have B3'' := Lib.hid (B3'.out.later hm7)
        have B4'' := Lib.hid (B4'.out.later hm7)
        have V6' := Lib.hid (V6.out.later hm7)
        have S7 := Lib.hid (hm7.blk S6.out (fun x => x))
        have V7 := Lib.hid hb7
        have Y7 := Lib.hid hs7
        have c79 : c7 ≤ 9223372036854775807 := by unfold maxLen at hc72; omega
        have cs7 : w7.cell? ⟨w.heap.size + 1, 0, none⟩ = some (.int .u64 (s : Int)) := blk_cell S7.out (by rw [Array.getElem?_append_left (by simp)]; rfl)
        clear hm7 hb7 hs7 cs6 X6 N6 B3' B4' S6
        go_wp2_with fail
        refine (xopen_ok xb k1 k2 s (some ⟨g3, 0, none⟩) (16 * n) c3 _ _ X7.out hs B3''.out (by omega) (by omega) (by omega)).mono ?_
        rintro e w8 ⟨g8, c8, r8, rfl, hm8, hc8, hc82, _, hb8, hs8⟩
        have X8 := Lib.hid (X7.out.later hm8)
        have N8 := Lib.hid (N7.out.then hm8)
        have B3''' := Lib.hid (B3''.out.later hm8)
        have B4''' := Lib.hid (B4''.out.later hm8)
        have V6'' := Lib.hid (V6'.out.later hm8)
        have V7' := Lib.hid (V7.out.later hm8)
        have S8 := Lib.hid (hm8.blk S7.out (fun x => x))
        have V8 := Lib.hid hb8
        have Y8 := Lib.hid hs8
        have c89 : c8 ≤ 9223372036854775807 := by unfold maxLen at hc82; omega
        have cs8 : w8.cell? ⟨w.heap.size + 1, 0, none⟩ = some (.int .u64 (s : Int)) := blk_cell S8.out (by rw [Array.getElem?_append_left (by simp)]; rfl)
        clear hm8 hb8 hs8 cs7 X7 N7 B3'' B4'' S7
        go_wp2_with fail
        refine (xopen_ok xb k1 k2 s (some ⟨g4, 0, none⟩) (16 * n) c4 _ _ X8.out hs B4'''.out (by omega) (by omega) (by omega)).mono ?_
        rintro e w9 ⟨g9, c9, r9, rfl, hm9, hc9, hc92, _, hb9, hs9⟩
        have X9 := Lib.hid (X8.out.later hm9)
        have N9 := Lib.hid (N8.out.then hm9)
        have B3'''' := Lib.hid (B3'''.out.later hm9)
        have B4'''' := Lib.hid (B4'''.out.later hm9)
        have V6''' := Lib.hid (V6''.out.later hm9)
        have V7'' := Lib.hid (V7'.out.later hm9)
        have V8' := Lib.hid (V8.out.later hm9)
        have S9 := Lib.hid (hm9.blk S8.out (fun x => x))
        have V9 := Lib.hid hb9
        have Y9 := Lib.hid hs9
        have c99 : c9 ≤ 9223372036854775807 := by unfold maxLen at hc92; omega
        have cs9 : w9.cell? ⟨w.heap.size + 1, 0, none⟩ = some (.int .u64 (s : Int)) := blk_cell S9.out (by rw [Array.getElem?_append_left (by simp)]; rfl)
        clear hm9 hb9 hs9 cs8 X8 N8 B3''' B4''' S8
        go_wp2_with fail
        obtain ⟨p1, p2, p3, p4, p5, p6, p7, p8, n1, n2, _, hk1, hk2, hn1', hn2'⟩ := X9.out
        have ht0 := enc_bytes hk2 hn2' (secB_bytes s)
        have E1 := Lib.hid (fun i hi => apart_blocks (i := i) (g := dec k1) ht0 hob hmn hby he.out.symm Y6.out Y7.out (fun y hy => enc_bytes hk1 hn1' hy) (fun y hy => dec_enc hk1 hn1' hy) hi)
        have E2 := Lib.hid (fun i hi => apart_blocks (i := i) (g := enc k1) ht0 hob hmn hby he.out.symm Y8.out Y9.out (fun y hy => dec_bytes hk1 hn1' hy) (fun y hy => enc_dec hk1 hn1' hy) hi)
        have hq16 := fun w => run_neq16 by_ (noughts 16) hby.1 (noughts_bytes 16).1 w
        clear cs9 Y6 Y7 Y8 Y9 X9 B3'''' B4'''' hk1 hk2 hn1' hn2' ht0 he hX hob hcap9
        go_loopw [22] (fun v wz => ∃ i : Nat, i ≤ n ∧ v = .int .i64 i ∧ Mod No w9 wz) (fun v _ => n - (intOf v).toNat)
        case atStart => exact ⟨0, by omega, rfl, Mod.refl _ _⟩
        case round =>
          obtain ⟨i, hi, rfl, y2⟩ := hrel
          have Z := Lib.hid y2
          by_cases hli : i < n
          · have t3 : decide ((i : Int) < (n : Int)) = true := by simp; omega
            have e1 := E1.out i hli
            have e2 := E2.out i hli
            have SS := Lib.hid (y2.blk S9.out (fun x => x))
            have b6 := (V6'''.out.later y2).block (i := i) (by omega)
            have b7 := (V7''.out.later y2).block (i := i) (by omega)
            have b8 := (V8'.out.later y2).block (i := i) (by omega)
            have b9 := (V9.out.later y2).block (i := i) (by omega)
            have u6 : ∀ y : Later No wr, (convert 22 9 (.slice (some ⟨g6, 16 * i, none⟩) 16 (c6 - 16 * i))).run Try.prog y.to = .ok (.string (strN (flatKey r6 i))) y.to := fun y => (b6.later y.ok).str
            have u7 : ∀ y : Later No wr, (convert 22 9 (.slice (some ⟨g7, 16 * i, none⟩) 16 (c7 - 16 * i))).run Try.prog y.to = .ok (.string (strN (flatKey r7 i))) y.to := fun y => (b7.later y.ok).str
            have u8 : ∀ y : Later No wr, (convert 22 9 (.slice (some ⟨g8, 16 * i, none⟩) 16 (c8 - 16 * i))).run Try.prog y.to = .ok (.string (strN (flatKey r8 i))) y.to := fun y => (b8.later y.ok).str
            have u9 : ∀ y : Later No wr, (convert 22 9 (.slice (some ⟨g9, 16 * i, none⟩) 16 (c9 - 16 * i))).run Try.prog y.to = .ok (.string (strN (flatKey r9 i))) y.to := fun y => (b9.later y.ok).str
            have s67 := strN_eq b6.ok b7.ok
            have s89 := strN_eq b8.ok b9.ok
            rw [show decide (flatKey r6 i = flatKey r7 i) = decide (¬ (i = m ∧ by_ ≠ noughts 16)) from decide_eq_decide.2 e1] at s67
            rw [show decide (flatKey r8 i = flatKey r9 i) = decide (¬ (i = m ∧ by_ ≠ noughts 16)) from decide_eq_decide.2 e2] at s89
            clear y2 b6 b7 b8 b9 e1 e2
            generalize strN (flatKey r6 i) = x6 at *
            generalize strN (flatKey r7 i) = x7 at *
            generalize strN (flatKey r8 i) = x8 at *
            generalize strN (flatKey r9 i) = x9 at *
            have hcs : (((i : Int) == (m : Int)) = false ∧ ¬ (i = m ∧ by_ ≠ noughts 16)) ∨ (((i : Int) == (m : Int)) = true ∧ decide (by_ ≠ noughts 16) = false ∧ ¬ (i = m ∧ by_ ≠ noughts 16)) ∨ (((i : Int) == (m : Int)) = true ∧ decide (by_ ≠ noughts 16) = true ∧ (i = m ∧ by_ ≠ noughts 16)) := by
              by_cases h1 : i = m
              · right
                have h2 : ((i : Int) == (m : Int)) = true := by simp; omega
                by_cases h3 : by_ = noughts 16
                · left; exact ⟨h2, by simp [h3], fun h => h.2 h3⟩
                · right; exact ⟨h2, by simp [h3], h1, h3⟩
              · left; exact ⟨by simp; omega, fun h => h1 h.1⟩
            rcases hcs with ⟨v1, v2⟩ | ⟨v1, v2, v3⟩ | ⟨v1, v2, v3⟩
            · rw [decide_eq_true v2] at s67 s89
              go_wp2_with (first
                | (refine load16go (by simp [Region.wanted, yielded]) _ rfl (w.heap.size + 1) 2 rfl 50 (#[.int .u64 (s : Int), .int .i64 z] ++ bA by_) by_ hby.1 SS.out spot_by ?_)
                | (refine lit16g (by simp [Region.wanted, yielded]) 23 _ rfl (bA (noughts 16)) (by kernel_rfl) ?_))
              refine wp_region_laters (by kernel_rfl) (by kernel_rfl) ?_
              repeat (go_big_quiet_step (fail))
              refine wpQuiet_nil ?_
              intro y
              go_wp2_with fail
              go_roundw
              case rel => exact ⟨i + 1, by omega, by go_num, Z.out.then y.ok⟩
              case measure => simp [intOf]; omega
            · rw [decide_eq_true v3] at s67 s89
              rw [v2] at hq16
              go_wp2_with (first
                | (refine load16go (by simp [Region.wanted, yielded]) _ rfl (w.heap.size + 1) 2 rfl 50 (#[.int .u64 (s : Int), .int .i64 z] ++ bA by_) by_ hby.1 SS.out spot_by ?_)
                | (refine lit16g (by simp [Region.wanted, yielded, Act.put]) 23 _ rfl (bA (noughts 16)) (by kernel_rfl) ?_))
              refine wp_region_laters (by kernel_rfl) (by kernel_rfl) ?_
              repeat (go_big_quiet_step (fail))
              refine wpQuiet_nil ?_
              intro y
              go_wp2_with fail
              go_roundw
              case rel => exact ⟨i + 1, by omega, by go_num, Z.out.then y.ok⟩
              case measure => simp [intOf]; omega
            · rw [decide_eq_false (fun h => h v3)] at s67 s89
              rw [v2] at hq16
              clear v3
              go_wp2_with (first
                | (refine load16go (by simp [Region.wanted, yielded]) _ rfl (w.heap.size + 1) 2 rfl 50 (#[.int .u64 (s : Int), .int .i64 z] ++ bA by_) by_ hby.1 SS.out spot_by ?_)
                | (refine lit16g (by simp [Region.wanted, yielded, Act.put]) 23 _ rfl (bA (noughts 16)) (by kernel_rfl) ?_))
              refine wp_region_laters (by kernel_rfl) (by kernel_rfl) ?_
              repeat (go_big_quiet_step (fail))
              refine wpQuiet_nil ?_
              intro y
              go_wp2_with fail
              go_roundw
              case rel => exact ⟨i + 1, by omega, by go_num, Z.out.then y.ok⟩
              case measure => simp [intOf]; omega
          · have t3 : decide ((i : Int) < (n : Int)) = false := by simp; omega
            go_wp2_with fail
            refine (xalive_any _).mono ?_
            rintro e w10 ⟨rfl, hm10⟩
            go_wp2_with fail
            go_ret
            exact ⟨rfl, N9.out.then (Z.out.then hm10)⟩
end Go.Proofs.Ytkbkobekndfapaa
