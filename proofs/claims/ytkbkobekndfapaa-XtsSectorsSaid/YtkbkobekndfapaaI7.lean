/- The document's Keys, at a key of 32 bytes. -/
import Derived.Test.YtkbkobekndfapaaI5
import Derived.Test.YtkbkobekndfapaaF
namespace Go.Proofs.Ytkbkobekndfapaa
open Go.RowKit

set_option maxRecDepth 100000 in
set_option maxHeartbeats 8000000 in
theorem keys_8 (ka : Addr) (cap : Nat) (key : List Nat) (w : World) (hk : Bytes 32 key)
    (hc : ∀ j, j < 32 → w.cell? (ka.add j) = some (.int .u8 ((key.getD j 0 : Nat) : Int))) :
    Calls Try.prog 13 #[.slice (some ka) 32 cap] w fun e w' => ∃ g c cur, e = .returned (.slice (some ⟨g, 0, none⟩) 240 c) ∧ Mod No w w' ∧ w.heap.size ≤ g ∧ FlatAt w' g cur (expand 8 key) := by
  obtain ⟨i5, hi5, hz5, hs5, hb5⟩ := info_parts info5
  have hown0 := Lib.hid (show (w.alloc (.cells #[] 5)).ownsRow w.heap.size 5 1 (.slice (some ⟨w.heap.size, 0, none⟩) 0 0) 0 [] from ⟨rfl, .inr ⟨w.heap.size, 0, #[], rfl, Nat.le_refl _, blk_new _ _, Nat.le_refl _, Nat.zero_le _, rfl, rfl⟩⟩)
  have hnw : ∀ j u, (bL key)[j]? = some u → (w.alloc (.cells #[] 5)).cell? (ka.add j) = some u := by
    intro j u hu
    have hj : j < 32 := by
      have := (List.getElem?_eq_some_iff.1 hu).1
      rw [bL_len, hk.1] at this; exact this
    have h := hc j hj
    rw [World.cell?_of_block (w := w) (Below.heap_alloc _ _ _ (World.block_lt_of_cell? _ _ h)), h, ← hu]
    simp [bL, bv, List.getD, hj, hk.1]
  have hnw1 := Lib.hid hnw
  have hlast := Lib.hid (expand_eq 8 key)
  have hexb := Lib.hid (expand_bytes (N := 8) (key := key) hk)
  clear hnw hc
  go_enter Try.func13, Try.ntmps13
  go_wp2_with (at_builtin; refine wpList_append_own _ rfl (.tmp 20) (.tmp 21) 22 rfl w.heap.size 5 i5 (.int .u8 0) 1 1 Try.underlying22 hi5 hz5 hs5 hb5 rfl (by omega) (.slice (some ⟨w.heap.size, 0, none⟩) 0 0) 0 [] rfl hown0.out ka 32 cap (bL key) rfl (by rw [bL_len, hk.1]) hnw1.out (bL_one key) (by unfold maxLen; omega) (by omega) (by simp) ?_; refine hold ?_)
  unfold Hold
  intro v4 w1 hown1 hgr1 _
  have own1 := Lib.hid hown1
  have hm1 := Lib.hid (((Mod.refl No w).alloc (.cells #[] 5)).grown hgr1 (fun k hk hlt => absurd hlt (by cases hk; simp)))
  clear hown1 hgr1 hown0 hnw1
  go_wp2_with fail
  go_loopw [4, 5, 6] (fun va v5 v6 wr => ∃ i p : Nat, ∃ l : List Nat, 8 ≤ i ∧ i ≤ 60 ∧ v6 = .int .i64 i ∧ v5 = .int .u8 (p : Int) ∧
      expSt 8 key (i - 8) = (l, p) ∧ wr.ownsRow w.heap.size 5 1 va (4 * i) (bL l) ∧ Mod No w wr) (fun _ _ v6 _ => 60 - (intOf v6).toNat)
  case atStart => exact ⟨8, 1, key, by omega, by omega, rfl, rfl, expSt_zero 8 key, own1.out, hm1.out⟩
  case round =>
    clear own1 hm1
    obtain ⟨i, p, l, hi4, hi, rfl, rfl, hst, hown, hmr⟩ := hrel
    have hin := expSt_in (N := 8) (show Bytes (4 * 8) key from hk) (i - 8)
    rw [hst, show 4 * (8 + (i - 8)) = 4 * i from by omega] at hin
    obtain ⟨hl, hp⟩ := hin
    simp only at hl hp
    obtain ⟨g, cp, rfl, hbg, hgl, hcp, hcp2⟩ := own_slice hown (by omega)
    unfold maxLen at hcp2
    have hst1 := Lib.hid hst
    have own := Lib.hid hown
    have hmr1 := Lib.hid hmr
    clear hst hown hmr
    by_cases hlt : i < 60
    · have hdl : decide (((i : Nat) : Int) < 60) = true := by simp; omega
      have hnext1 := Lib.hid (show expSt 8 key (i - 8 + 1) = expStep 8 (l, p) (i - 8) by rw [expSt_succ, hst1.out])
      have c0 := own_cell own.out (j := 4 * i - 4) (by rw [hl.1]; omega)
      have c1 := own_cell own.out (j := 4 * i - 3) (by rw [hl.1]; omega)
      have c2 := own_cell own.out (j := 4 * i - 2) (by rw [hl.1]; omega)
      have c3 := own_cell own.out (j := 4 * i - 1) (by rw [hl.1]; omega)
      have la := hl.get (4 * i - 4)
      have lb := hl.get (4 * i - 3)
      have lc := hl.get (4 * i - 2)
      have ld := hl.get (4 * i - 1)
      have hw1 := Lib.hid (show wordAt 8 i l p = turnW 8 i p (l.getD (4 * i - 4) 0) (l.getD (4 * i - 3) 0) (l.getD (4 * i - 2) 0) (l.getD (4 * i - 1) 0) by unfold wordAt; rfl)
      generalize l.getD (4 * i - 4) 0 = a at *
      generalize l.getD (4 * i - 3) 0 = b at *
      generalize l.getD (4 * i - 2) 0 = c at *
      generalize l.getD (4 * i - 1) 0 = d at *
      have k0 : (4 * (i : Int) - 4).toNat = 4 * i - 4 := by omega
      have k1 : (4 * (i : Int) - 3).toNat = 4 * i - 3 := by omega
      have k2 : (4 * (i : Int) - 2).toNat = 4 * i - 2 := by omega
      have k3 : (4 * (i : Int) - 1).toNat = 4 * i - 1 := by omega
      by_cases h0 : i % 8 = 0
      · have g0 : ((i : Int) % 8 == 0) = true := by simp; omega
        go_wp2_with fail
        refine wp_region_drew 24 (by kernel_rfl) (by kernel_rfl) ?_
        simp only [List.take_succ_cons, List.take_zero, List.drop_succ_cons, List.drop_zero]
        repeat (go_big_quiet_step (fail))
        refine wpQuiet_nil ?_
        intro nq
        go_wp2_with fail
        clear c0 c1 c2 c3 k0 k1 k2 k3
        have x0 := Lib.hid (show ((wr.drewN nq).alloc (.cells (bA [a, b, c, d]) 5)).heap[wr.heap.size]? = some (.cells (bA [a, b, c, d]) 5 (0, 0)) from blk_new' _ (by simp))
        have x1 := Lib.hid ((own_mod own.out ((Mod.refl No wr).drewN nq) (fun x => x)).alloc (.cells (bA [a, b, c, d]) 5))
        have x2 := Lib.hid ((hmr1.out.drewN nq).alloc (.cells (bA [a, b, c, d]) 5))
        have xg : wr.heap.size < ((wr.drewN nq).alloc (.cells (bA [a, b, c, d]) 5)).heap.size := by simp
        have e4 : (#[.int .u8 (a : Int), .int .u8 (b : Int), .int .u8 (c : Int), .int .u8 (d : Int)] : Array Value) = bA [a, b, c, d] := rfl
        try rw [e4]
        clear own hmr1 e4
        generalize ((wr.drewN nq).alloc (.cells (bA [a, b, c, d]) 5)) = wt at *
        have d0 := byte_cell x0.out (j := 0) (by simp)
        have d1 := byte_cell x0.out (j := 1) (by simp)
        have d2 := byte_cell x0.out (j := 2) (by simp)
        have d3 := byte_cell x0.out (j := 3) (by simp)
        simp only [List.getD_cons_zero, List.getD_cons_succ] at d0 d1 d2 d3
        have hwt := Lib.hid (show wordAt 8 i l p = [sbox b ^^^ p, sbox c, sbox d, sbox a] by rw [hw1.out, turnW_0 h0])
        have hpp := Lib.hid (show (if i % 8 = 0 then dbl p else p) = dbl p from if_pos h0)
        have htt := wordAt_bytes (N := 8) (i := i) hp hl.2
        rw [hwt.out] at htt
        have hnx1 := Lib.hid (show expSt 8 key (i + 1 - 8) = (l ++ someB 8 i l [sbox b ^^^ p, sbox c, sbox d, sbox a] 4, dbl p) by
          have h := hnext1.out
          rw [show i - 8 + 1 = i + 1 - 8 from by omega] at h
          rw [h]
          simp only [expStep]
          rw [show 8 + (i - 8) = i from by omega, hwt.out, hpp.out])
        clear hnext1 hwt hpp hw1 hst1
        have hxp : bits .xor .u8 ((sbox b : Nat) : Int) (p : Int) = ((sbox b ^^^ p : Nat) : Int) := bxor _ _ (sbox_lt b) hp
        have hmul := Lib.hid (fun w => mul_any p 2 hp (by omega) w)
        rw [mul_by_2 p hp] at hmul
        have hSa := fun w => S_any a la w
        have hSb := fun w => S_any b lb w
        have hSc := fun w => S_any c lc w
        have hSd := fun w => S_any d ld w
        generalize sbox a = sa at *
        generalize sbox b = sb at *
        generalize sbox c = sc at *
        generalize sbox d = sd at *
        generalize dbl p = pp at *
        generalize sb ^^^ p = sbp at *
        go_wp2_with fail
        refine wp_region_drew 18 (by kernel_rfl) (by kernel_rfl) ?_
        simp only [List.take_succ_cons, List.take_zero, List.drop_succ_cons, List.drop_zero]
        iterate 6 (go_big_quiet_step ((go_at_call 30; refine Calls.quiet_of_same ((hSb _).mono fun _ _ h => ⟨h.1, h.2.symm⟩))))
        iterate 4 (go_big_quiet_step ((go_at_call 30; refine Calls.quiet_of_same ((hSc _).mono fun _ _ h => ⟨h.1, h.2.symm⟩))))
        iterate 4 (go_big_quiet_step ((go_at_call 30; refine Calls.quiet_of_same ((hSd _).mono fun _ _ h => ⟨h.1, h.2.symm⟩))))
        iterate 4 (go_big_quiet_step ((go_at_call 30; refine Calls.quiet_of_same ((hSa _).mono fun _ _ h => ⟨h.1, h.2.symm⟩))))
        refine wpQuiet_nil ?_
        intro nr
        go_wp2_with fail
        have e5 : (#[.int .u8 (sbp : Int), .int .u8 (sc : Int), .int .u8 (sd : Int), .int .u8 (sa : Int)] : Array Value) = bA [sbp, sc, sd, sa] := rfl
        try rw [e5]
        clear e5
        have v0 := Lib.hid (show ((wt.drewN nr).alloc (.cells (bA [sbp, sc, sd, sa]) 5)).heap[wt.heap.size]? = some (.cells (bA [sbp, sc, sd, sa]) 5 (0, 0)) from blk_new' _ (by simp))
        have v1 := Lib.hid ((own_mod x1.out ((Mod.refl No wt).drewN nr) (fun x => x)).alloc (.cells (bA [sbp, sc, sd, sa]) 5))
        have v2 := Lib.hid ((x2.out.drewN nr).alloc (.cells (bA [sbp, sc, sd, sa]) 5))
        have hnt : (Value.slice (some ⟨g, 0, none⟩) (4 * i) cp).ownBlock ≠ some wt.heap.size := fun e => absurd (show g = wt.heap.size by injection e) (by omega)
        generalize (wt.drewN nr).alloc (.cells (bA [sbp, sc, sd, sa]) 5) = wv at *
        generalize wt.heap.size = tb at *
        refine (hmul.out _).mono ?_
        rintro e w' ⟨rfl, rfl⟩
        clear x0 x1 x2
        generalize [sbp, sc, sd, sa] = tt at *
        go_wp2_with fail
        refine rapp_loop (N := 8) (nI := 8) (by rfl) i tb l tt _ w _ (by omega) (by omega) (by omega) hl htt v0.out hnt v1.out v2.out _ _ _ _ _ _ _ _ _ _ _ _ _ _ _ _ _ _ _ _ _ _ _ _ _ _ _ _ _ _ _ _ _ _ _ _ _ _ _ _ _ _ _ _ _ _ _ _ _ _ _ _ _ _ _ _ _ _ _ _ _ _ _ _ _ _ _ _ _ _ _ _ _ _ _ _ _ _ _ _ _ _ _ _ _ _ _ _ _ _ _ _ _ _ _ _ _ _ _ _ _ _ _ _ _ _ _ _ _ _ _ _ _ _ _ _ _ _ _ _ _ _ _ (by intro d _ _ _ _ h; cases d <;> exact h) ?_
        intro v4' u8 u105 u106 u107 u108 u109 u110 u111 u112 u113 u114 u115 u116 u117 u118 u119 u120 u121 u122 u123 u124 u125 w3 y2 y1
        have t1 := Lib.hid y1
        have t2 := Lib.hid y2
        clear y1 y2 v0 v1 v2
        go_wp2_with fail
        go_roundw
        case rel => exact ⟨i + 1, pp, l ++ someB 8 i l tt 4, by omega, by omega, by go_num, rfl, hnx1.out, by rw [show 4 * (i + 1) = 4 * i + 4 from by omega]; exact t1.out, t2.out⟩
        case measure => simp [intOf]; omega
      · by_cases h4 : i % 8 = 4
        · have g0 : ((i : Int) % 8 == 0) = false := by simp; omega
          have g4 : ((i : Int) % 8 == 4) = true := by simp; omega
          go_wp2_with fail
          refine wp_region_drew 24 (by kernel_rfl) (by kernel_rfl) ?_
          simp only [List.take_succ_cons, List.take_zero, List.drop_succ_cons, List.drop_zero]
          repeat (go_big_quiet_step (fail))
          refine wpQuiet_nil ?_
          intro nq
          go_wp2_with fail
          clear c0 c1 c2 c3 k0 k1 k2 k3
          have x0 := Lib.hid (show ((wr.drewN nq).alloc (.cells (bA [a, b, c, d]) 5)).heap[wr.heap.size]? = some (.cells (bA [a, b, c, d]) 5 (0, 0)) from blk_new' _ (by simp))
          have x1 := Lib.hid ((own_mod own.out ((Mod.refl No wr).drewN nq) (fun x => x)).alloc (.cells (bA [a, b, c, d]) 5))
          have x2 := Lib.hid ((hmr1.out.drewN nq).alloc (.cells (bA [a, b, c, d]) 5))
          have xg : wr.heap.size < ((wr.drewN nq).alloc (.cells (bA [a, b, c, d]) 5)).heap.size := by simp
          have e4 : (#[.int .u8 (a : Int), .int .u8 (b : Int), .int .u8 (c : Int), .int .u8 (d : Int)] : Array Value) = bA [a, b, c, d] := rfl
          try rw [e4]
          clear own hmr1 e4
          generalize ((wr.drewN nq).alloc (.cells (bA [a, b, c, d]) 5)) = wt at *
          have d0 := byte_cell x0.out (j := 0) (by simp)
          have d1 := byte_cell x0.out (j := 1) (by simp)
          have d2 := byte_cell x0.out (j := 2) (by simp)
          have d3 := byte_cell x0.out (j := 3) (by simp)
          simp only [List.getD_cons_zero, List.getD_cons_succ] at d0 d1 d2 d3
          have hwt := Lib.hid (show wordAt 8 i l p = [sbox a, sbox b, sbox c, sbox d] by rw [hw1.out, turnW_4 h0 rfl h4])
          have hpp := Lib.hid (show (if i % 8 = 0 then dbl p else p) = p from if_neg h0)
          have htt := wordAt_bytes (N := 8) (i := i) hp hl.2
          rw [hwt.out] at htt
          have hnx1 := Lib.hid (show expSt 8 key (i + 1 - 8) = (l ++ someB 8 i l [sbox a, sbox b, sbox c, sbox d] 4, p) by
            have h := hnext1.out
            rw [show i - 8 + 1 = i + 1 - 8 from by omega] at h
            rw [h]
            simp only [expStep]
            rw [show 8 + (i - 8) = i from by omega, hwt.out, hpp.out])
          clear hnext1 hwt hpp hw1 hst1
          have hSa := fun w => S_any a la w
          have hSb := fun w => S_any b lb w
          have hSc := fun w => S_any c lc w
          have hSd := fun w => S_any d ld w
          generalize sbox a = sa at *
          generalize sbox b = sb at *
          generalize sbox c = sc at *
          generalize sbox d = sd at *
          obtain ⟨pp, rfl⟩ : ∃ pp : Nat, pp = p := ⟨_, rfl⟩
          go_wp2_with fail
          refine wp_region_drew 16 (by kernel_rfl) (by kernel_rfl) ?_
          simp only [List.take_succ_cons, List.take_zero, List.drop_succ_cons, List.drop_zero]
          iterate 4 (go_big_quiet_step ((go_at_call 30; refine Calls.quiet_of_same ((hSa _).mono fun _ _ h => ⟨h.1, h.2.symm⟩))))
          iterate 4 (go_big_quiet_step ((go_at_call 30; refine Calls.quiet_of_same ((hSb _).mono fun _ _ h => ⟨h.1, h.2.symm⟩))))
          iterate 4 (go_big_quiet_step ((go_at_call 30; refine Calls.quiet_of_same ((hSc _).mono fun _ _ h => ⟨h.1, h.2.symm⟩))))
          iterate 4 (go_big_quiet_step ((go_at_call 30; refine Calls.quiet_of_same ((hSd _).mono fun _ _ h => ⟨h.1, h.2.symm⟩))))
          refine wpQuiet_nil ?_
          intro nr
          go_wp2_with fail
          have e5 : (#[.int .u8 (sa : Int), .int .u8 (sb : Int), .int .u8 (sc : Int), .int .u8 (sd : Int)] : Array Value) = bA [sa, sb, sc, sd] := rfl
          try rw [e5]
          clear e5
          have v0 := Lib.hid (show ((wt.drewN nr).alloc (.cells (bA [sa, sb, sc, sd]) 5)).heap[wt.heap.size]? = some (.cells (bA [sa, sb, sc, sd]) 5 (0, 0)) from blk_new' _ (by simp))
          have v1 := Lib.hid ((own_mod x1.out ((Mod.refl No wt).drewN nr) (fun x => x)).alloc (.cells (bA [sa, sb, sc, sd]) 5))
          have v2 := Lib.hid ((x2.out.drewN nr).alloc (.cells (bA [sa, sb, sc, sd]) 5))
          have hnt : (Value.slice (some ⟨g, 0, none⟩) (4 * i) cp).ownBlock ≠ some wt.heap.size := fun e => absurd (show g = wt.heap.size by injection e) (by omega)
          generalize (wt.drewN nr).alloc (.cells (bA [sa, sb, sc, sd]) 5) = wv at *
          generalize wt.heap.size = tb at *
          clear x0 x1 x2
          generalize [sa, sb, sc, sd] = tt at *
          go_wp2_with fail
          refine rapp_loop (N := 8) (nI := 8) (by rfl) i tb l tt _ w _ (by omega) (by omega) (by omega) hl htt v0.out hnt v1.out v2.out _ _ _ _ _ _ _ _ _ _ _ _ _ _ _ _ _ _ _ _ _ _ _ _ _ _ _ _ _ _ _ _ _ _ _ _ _ _ _ _ _ _ _ _ _ _ _ _ _ _ _ _ _ _ _ _ _ _ _ _ _ _ _ _ _ _ _ _ _ _ _ _ _ _ _ _ _ _ _ _ _ _ _ _ _ _ _ _ _ _ _ _ _ _ _ _ _ _ _ _ _ _ _ _ _ _ _ _ _ _ _ _ _ _ _ _ _ _ _ _ _ _ _ (by intro d _ _ _ _ h; cases d <;> exact h) ?_
          intro v4' u8 u105 u106 u107 u108 u109 u110 u111 u112 u113 u114 u115 u116 u117 u118 u119 u120 u121 u122 u123 u124 u125 w3 y2 y1
          have t1 := Lib.hid y1
          have t2 := Lib.hid y2
          clear y1 y2 v0 v1 v2
          go_wp2_with fail
          go_roundw
          case rel => exact ⟨i + 1, pp, l ++ someB 8 i l tt 4, by omega, by omega, by go_num, rfl, hnx1.out, by rw [show 4 * (i + 1) = 4 * i + 4 from by omega]; exact t1.out, t2.out⟩
          case measure => simp [intOf]; omega
        · have g0 : ((i : Int) % 8 == 0) = false := by simp; omega
          have g4 : ((i : Int) % 8 == 4) = false := by simp; omega
          go_wp2_with fail
          refine wp_region_drew 24 (by kernel_rfl) (by kernel_rfl) ?_
          simp only [List.take_succ_cons, List.take_zero, List.drop_succ_cons, List.drop_zero]
          repeat (go_big_quiet_step (fail))
          refine wpQuiet_nil ?_
          intro nq
          go_wp2_with fail
          clear c0 c1 c2 c3 k0 k1 k2 k3
          have x0 := Lib.hid (show ((wr.drewN nq).alloc (.cells (bA [a, b, c, d]) 5)).heap[wr.heap.size]? = some (.cells (bA [a, b, c, d]) 5 (0, 0)) from blk_new' _ (by simp))
          have x1 := Lib.hid ((own_mod own.out ((Mod.refl No wr).drewN nq) (fun x => x)).alloc (.cells (bA [a, b, c, d]) 5))
          have x2 := Lib.hid ((hmr1.out.drewN nq).alloc (.cells (bA [a, b, c, d]) 5))
          have xg : wr.heap.size < ((wr.drewN nq).alloc (.cells (bA [a, b, c, d]) 5)).heap.size := by simp
          have e4 : (#[.int .u8 (a : Int), .int .u8 (b : Int), .int .u8 (c : Int), .int .u8 (d : Int)] : Array Value) = bA [a, b, c, d] := rfl
          try rw [e4]
          clear own hmr1 e4
          generalize ((wr.drewN nq).alloc (.cells (bA [a, b, c, d]) 5)) = wt at *
          have d0 := byte_cell x0.out (j := 0) (by simp)
          have d1 := byte_cell x0.out (j := 1) (by simp)
          have d2 := byte_cell x0.out (j := 2) (by simp)
          have d3 := byte_cell x0.out (j := 3) (by simp)
          simp only [List.getD_cons_zero, List.getD_cons_succ] at d0 d1 d2 d3
          have hwt := Lib.hid (show wordAt 8 i l p = [a, b, c, d] by rw [hw1.out, turnW_n h0 (by omega)])
          have hpp := Lib.hid (show (if i % 8 = 0 then dbl p else p) = p from if_neg h0)
          have htt := wordAt_bytes (N := 8) (i := i) hp hl.2
          rw [hwt.out] at htt
          have hnx1 := Lib.hid (show expSt 8 key (i + 1 - 8) = (l ++ someB 8 i l [a, b, c, d] 4, p) by
            have h := hnext1.out
            rw [show i - 8 + 1 = i + 1 - 8 from by omega] at h
            rw [h]
            simp only [expStep]
            rw [show 8 + (i - 8) = i from by omega, hwt.out, hpp.out])
          clear hnext1 hwt hpp hw1 hst1
          obtain ⟨pp, rfl⟩ : ∃ pp : Nat, pp = p := ⟨_, rfl⟩
          have v0 := x0
          have v1 := x1
          have v2 := x2
          clear x0 x1 x2
          have hnt : (Value.slice (some ⟨g, 0, none⟩) (4 * i) cp).ownBlock ≠ some wr.heap.size := fun e => absurd (show g = wr.heap.size by injection e) (by omega)
          generalize wr.heap.size = tb at *
          generalize [a, b, c, d] = tt at *
          go_wp2_with fail
          refine rapp_loop (N := 8) (nI := 8) (by rfl) i tb l tt _ w _ (by omega) (by omega) (by omega) hl htt v0.out hnt v1.out v2.out _ _ _ _ _ _ _ _ _ _ _ _ _ _ _ _ _ _ _ _ _ _ _ _ _ _ _ _ _ _ _ _ _ _ _ _ _ _ _ _ _ _ _ _ _ _ _ _ _ _ _ _ _ _ _ _ _ _ _ _ _ _ _ _ _ _ _ _ _ _ _ _ _ _ _ _ _ _ _ _ _ _ _ _ _ _ _ _ _ _ _ _ _ _ _ _ _ _ _ _ _ _ _ _ _ _ _ _ _ _ _ _ _ _ _ _ _ _ _ _ _ _ _ (by intro d _ _ _ _ h; cases d <;> exact h) ?_
          intro v4' u8 u105 u106 u107 u108 u109 u110 u111 u112 u113 u114 u115 u116 u117 u118 u119 u120 u121 u122 u123 u124 u125 w3 y2 y1
          have t1 := Lib.hid y1
          have t2 := Lib.hid y2
          clear y1 y2 v0 v1 v2
          go_wp2_with fail
          go_roundw
          case rel => exact ⟨i + 1, pp, l ++ someB 8 i l tt 4, by omega, by omega, by go_num, rfl, hnx1.out, by rw [show 4 * (i + 1) = 4 * i + 4 from by omega]; exact t1.out, t2.out⟩
          case measure => simp [intOf]; omega
    · have hiW : i = 60 := by omega
      have he := Lib.hid (show l = expand 8 key by rw [hlast.out, show 3 * 8 + 28 = i - 8 by omega, hst1.out])
      have hdl : decide (((i : Nat) : Int) < 60) = false := by simp; omega
      obtain ⟨cur, f1, f2⟩ := World.ownsRow.form own.out
      have hfl := Lib.hid (show FlatAt wr g cur (expand 8 key) from ⟨f1, fun j hj => by rw [← he.out] at hj ⊢; exact f2 j (by rw [hl.1] at hj; exact hj), hexb.out.2⟩)
      clear f1 f2 hst1 he own hlast
      subst hiW
      go_wp2_with fail
      go_ret
      exact ⟨g, cp, cur, rfl, hmr1.out, hbg, hfl.out⟩
end Go.Proofs.Ytkbkobekndfapaa
