/- New of package aes, first half, a key of 16 bytes: the bytes of all round keys. -/
import Derived.Test.YtkbkobekndfapaaZ
namespace Go.Proofs.Ytkbkobekndfapaa
open Go.RowKit

set_option maxRecDepth 100000 in
set_option maxHeartbeats 8000000 in
theorem new_4 (ka : Addr) (cap : Nat) (key : List Nat) (w : World) (hk : Bytes 16 key) (hcap : 16 ≤ cap) (hcap2 : cap ≤ maxLen)
    (hc : ∀ j, j < 16 → w.cell? (ka.add j) = some (.int .u8 ((key.getD j 0 : Nat) : Int))) :
    Calls Try.prog 12 #[.slice (some ka) 16 cap] w fun e w' => ∃ pb kb c cur, e = .returned (.tuple #[.pointer (some ⟨pb, 0, none⟩), .int .i64 0]) ∧ Mod No w w' ∧
      w.heap.size ≤ pb ∧ w.heap.size ≤ kb ∧ CipherAt w' pb kb c cur (keysOf (expand 4 key) 11) := by
  replace hcap : 16 ≤ cap := hcap
  replace hcap2 : cap ≤ maxLen := hcap2
  unfold maxLen at hcap2
  obtain ⟨i5, hi5, hz5, hs5, hb5⟩ := info_parts info5
  have hmk : ∀ w, (Instr.makeSlice 22 (.int .i64 0) (.int .i64 176)).run Try.prog w = .ok (.slice (some ⟨w.heap.size, 0, none⟩) 0 176) (w.alloc (.cells (bA (noughts 176)) 5)) := fun _ => by kernel_rfl
  go_enter Try.func12, Try.ntmps12
  have hmax : (176 : Nat) ≤ maxLen := by unfold maxLen; omega
  have hnw : ∀ j u, (bL key)[j]? = some u → (w.alloc (.cells (bA (noughts 176)) 5)).cell? (ka.add j) = some u := by
    intro j u hu
    have hj : j < 16 := by
      have := (List.getElem?_eq_some_iff.1 hu).1
      rw [bL_len, hk.1] at this; exact this
    have h := hc j hj
    rw [World.cell?_of_block (w := w) (Below.heap_alloc _ _ _ (World.block_lt_of_cell? _ _ h)), h, ← hu]
    simp [bL, bv, List.getD, hj, hk.1]
  have hnw1 := Lib.hid hnw
  clear hnw hc
  go_wp2_with (first
    | (at_builtin; refine wpList_append_fits _ rfl (.tmp 28) (.tmp 29) 22 rfl w.heap.size 5 i5 1 Try.underlying22 hi5 hs5 w.heap.size 0 176 [] rfl (World.ownsRow_made w _ 176 (Nat.le_refl _) hmax (by rw [bA_size, (noughts_bytes 176).1])) ka 16 cap (bL key) rfl (by rw [bL_len, hk.1]) hnw1.out (bL_one key) (by omega) ?_; intro w1 hown1 hgr1; have own1 := Lib.hid hown1; have gr1 := Lib.hid hgr1; clear hown1 hgr1))
  have hs0 : w.heap.size < w1.heap.size := by have := gr1.out.size; simp at this; omega
  have hm1 := Lib.hid (((Mod.refl No w).alloc (.cells (bA (noughts 176)) 5)).grown gr1.out (fun k hk hlt => absurd hlt (by cases hk; omega)))
  clear hmk
  go_loopw [5, 6, 7] (fun v5 v6 v7 wr => ∃ i p : Nat, ∃ l : List Nat, 4 ≤ i ∧ i ≤ 44 ∧ v7 = .int .i64 i ∧ v6 = .int .u8 (p : Int) ∧ v5 = .slice (some ⟨w.heap.size, 0, none⟩) (4 * i) 176 ∧
      expSt 4 key (i - 4) = (l, p) ∧ wr.ownsRow w.heap.size 5 1 (.slice (some ⟨w.heap.size, 0, none⟩) (4 * i) 176) (4 * i) (bL l) ∧ Mod No w wr ∧ w.heap.size < wr.heap.size) (fun _ _ v7 _ => 44 - (intOf v7).toNat)
  case atStart => exact ⟨4, 1, key, by omega, by omega, rfl, rfl, rfl, expSt_zero 4 key, own1.out, hm1.out, hs0⟩
  case round =>
    clear own1 gr1 hm1 hs0
    obtain ⟨i, p, l, hi4, hi, rfl, rfl, rfl, hst, hown, hmr, hsz⟩ := hrel
    have hin := expSt_in (N := 4) (show Bytes (4 * 4) key from hk) (i - 4)
    rw [hst, show 4 * (4 + (i - 4)) = 4 * i from by omega] at hin
    obtain ⟨hl, hp⟩ := hin
    simp only at hl hp
    have hst1 := Lib.hid hst
    have own := Lib.hid hown
    have hmr1 := Lib.hid hmr
    clear hst hown hmr
    by_cases hlt : i < 44
    · have hdl : decide (((i : Nat) : Int) < 44) = true := by simp; omega
      have hnext := expSt_succ 4 key (i - 4)
      rw [hst1.out] at hnext
      have hnext1 := Lib.hid hnext
      clear hnext
      have c0 := own_cell own.out (j := 4 * i - 4) (by rw [hl.1]; omega)
      have c1 := own_cell own.out (j := 4 * i - 4 + 1) (by rw [hl.1]; omega)
      have c2 := own_cell own.out (j := 4 * i - 4 + 2) (by rw [hl.1]; omega)
      have c3 := own_cell own.out (j := 4 * i - 4 + 3) (by rw [hl.1]; omega)
      have la := hl.get (4 * i - 4)
      have lb := hl.get (4 * i - 4 + 1)
      have lc := hl.get (4 * i - 4 + 2)
      have ld := hl.get (4 * i - 4 + 3)
      have hw : wordAt 4 i l p = turnW 4 i p (l.getD (4 * i - 4) 0) (l.getD (4 * i - 4 + 1) 0) (l.getD (4 * i - 4 + 2) 0) (l.getD (4 * i - 4 + 3) 0) := by
        unfold wordAt
        rw [show 4 * i - 4 + 1 = 4 * i - 3 from by omega, show 4 * i - 4 + 2 = 4 * i - 2 from by omega, show 4 * i - 4 + 3 = 4 * i - 1 from by omega]
      have hw1 := Lib.hid hw
      clear hw
      generalize l.getD (4 * i - 4) 0 = a at *
      generalize l.getD (4 * i - 4 + 1) 0 = b at *
      generalize l.getD (4 * i - 4 + 2) 0 = c at *
      generalize l.getD (4 * i - 4 + 3) 0 = d at *
      have hlen4 : 4 * i - (4 * i - 4) = 4 := by omega
      have harr := fun (a : Addr) (c : Nat) (w : World) => run_array4 w a 4 c (Nat.le_refl _)
      by_cases h0 : i % 4 = 0
      · have g0 : ((i : Int) % 4 == 0) = true := by simp; omega
        go_wp2_with fail
        have x0 := Lib.hid (show (wr.alloc (.cells (bA [b, c, d, a]) 53)).heap[wr.heap.size]? = some (.cells (bA [b, c, d, a]) 53 (0, 0)) from blk_new wr _)
        have x1 := Lib.hid (own.out.alloc (.cells (bA [b, c, d, a]) 53))
        have x2 := Lib.hid (hmr1.out.alloc (.cells (bA [b, c, d, a]) 53))
        clear own hmr1
        obtain ⟨wq, rfl⟩ : ∃ wq : World, wq = wr := ⟨_, rfl⟩
        refine sub_loop _ wq.heap.size [b, c, d, a] (⟨rfl, by simp only [List.mem_cons, List.not_mem_nil, or_false, forall_eq_or_imp, forall_eq]; exact ⟨lb, lc, ld, la⟩⟩) x0.out _ _ _ _ _ _ _ _ _ _ _ _ _ _ _ _ _ _ _ _ _ _ _ _ _ _ _ _ _ _ _ _ _ _ _ _ _ _ _ _ _ _ _ _ _ _ _ _ _ _ _ _ _ _ _ _ _ _ _ _ _ _ _ _ _ _ _ _ _ _ _ _ _ _ _ _ _ _ _ _ _ _ _ _ _ _ _ _ _ _ _ _ _ _ _ _ _ _ _ _ _ _ _ _ _ _ _ _ _ _ _ _ _ _ _ _ _ _ _ _ _ _ _ _ _ _ _ _ _ _ _ _ _ _ _ _ _ _ _ _ _ _ _ _ _ _ ?_
        intro u9 u72 u73 u74 u75 u76 u77 u78 u79 u80 u81 u82 w2 y2 y0
        rw [sub4_eq] at y0
        have z1 := own_mod x1.out y2 (not_just (by omega))
        have z2 := x2.out.fresh y2 (by omega)
        have zsz := y2.size
        clear x1 x2 y2
        have q0 := byte_cell y0 (j := 0) (by simp)
        have qf : w2.frozen? ⟨wq.heap.size, 0, none⟩ = false := blk_free y0
        have hxp : bits .xor .u8 ((sbox b : Nat) : Int) (p : Int) = ((sbox b ^^^ p : Nat) : Int) := bxor _ _ (sbox_lt b) hp
        have v0 := Lib.hid (show (w2.setCell ⟨wq.heap.size, 0, none⟩ (.int .u8 ((sbox b ^^^ p : Nat) : Int))).heap[wq.heap.size]? = some (.cells (bA [sbox b ^^^ p, sbox c, sbox d, sbox a]) 53 (0, 0)) from byte_set (l := [sbox b, sbox c, sbox d, sbox a]) (j := 0) y0)
        have v1 := Lib.hid (own_mod z1 ((Mod.refl (Just wq.heap.size) w2).setCell (p := ⟨wq.heap.size, 0, none⟩) (fun _ => (rfl : wq.heap.size = wq.heap.size)) (.int .u8 ((sbox b ^^^ p : Nat) : Int))) (not_just (by omega)))
        have v2 := Lib.hid (z2.setCell (p := ⟨wq.heap.size, 0, none⟩) (fun h => absurd h (by simp; omega)) (.int .u8 ((sbox b ^^^ p : Nat) : Int)))
        have hwt := Lib.hid (show wordAt 4 i l p = [sbox b ^^^ p, sbox c, sbox d, sbox a] by rw [hw1.out, turnW_0 h0])
        have hpp := Lib.hid (show (if i % 4 = 0 then dbl p else p) = dbl p from if_pos h0)
        have htt := wordAt_bytes (N := 4) (i := i) hp hl.2
        rw [hwt.out] at htt
        have hnx : expSt 4 key (i + 1 - 4) = (l ++ someB 4 i l [sbox b ^^^ p, sbox c, sbox d, sbox a] 4, dbl p) := by
          have h := hnext1.out
          rw [show i - 4 + 1 = i + 1 - 4 from by omega] at h
          rw [h]
          simp only [expStep]
          rw [show 4 + (i - 4) = i from by omega, hwt.out, hpp.out]
        have hnx1 := Lib.hid hnx
        clear hnx hnext1 hwt hpp hw1 hst1
        have hsz3 : w2.heap.size ≤ (w2.setCell ⟨wq.heap.size, 0, none⟩ (.int .u8 ((sbox b ^^^ p : Nat) : Int))).heap.size := by simp [World.setCell]
        have hs01 : ([sbox b, sbox c, sbox d, sbox a] : List Nat).getD 0 0 = sbox b := rfl
        rw [hs01] at q0
        clear y0 z1 z2 hs01 x0
        go_wp2_with fail
        refine (double_any p hp _).mono ?_
        rintro e w' ⟨rfl, rfl⟩
        clear q0 qf hxp
        generalize dbl p = pp at *
        generalize [sbox b ^^^ p, sbox c, sbox d, sbox a] = tt at *
        generalize w2.setCell ⟨wq.heap.size, 0, none⟩ (.int .u8 ((sbox b ^^^ p : Nat) : Int)) = wv at *
        have hsq : w.heap.size < wq.heap.size := hsz
        have hsv : wq.heap.size < wv.heap.size := by simp at zsz; omega
        generalize wq.heap.size = tb at *
        go_wp2_with fail
        refine app_loop (N := 4) (nI := 4) (by rfl) i 176 w.heap.size tb l tt _ (by omega) (by omega) (by omega) (by omega) (by omega) hl htt v0.out (by omega) w.heap.size (by omega) v1.out _ _ _ _ _ _ _ _ _ _ _ _ _ _ _ _ _ _ _ _ _ _ _ _ _ _ _ _ _ _ _ _ _ _ _ _ _ _ _ _ _ _ _ _ _ _ _ _ _ _ _ _ _ _ _ _ _ _ _ _ _ _ _ _ _ _ _ _ _ _ _ _ _ _ _ _ _ _ _ _ _ _ _ _ _ _ _ _ _ _ _ _ _ _ _ _ _ _ _ _ _ _ _ _ _ _ _ _ _ _ _ _ _ _ _ _ _ _ _ _ _ _ _ _ _ _ _ _ _ _ _ _ _ _ _ _ _ _ _ _ _ _ _ (by intro d _ _ _ _ h; cases d <;> exact h) ?_
        intro u10 u94 u95 u96 u97 u98 u99 u100 u101 u102 u103 u104 u105 u106 u107 u108 u109 u110 u111 u112 u113 w3 y2 y1
        have t1 := Lib.hid y1
        have t2 := Lib.hid (v2.out.fresh y2 (Nat.le_refl _))
        have tsz := y2.size
        clear y1 y2 v0 v1 v2
        go_wp2_with fail
        go_roundw
        case rel => exact ⟨i + 1, pp, l ++ someB 4 i l tt 4, by omega, by omega, by go_num, rfl, by rw [show 4 * (i + 1) = 4 * i + 4 from by omega], hnx1.out, by rw [show 4 * (i + 1) = 4 * i + 4 from by omega]; exact t1.out, t2.out, by omega⟩
        case measure => simp [intOf]; omega
      · have g0 : ((i : Int) % 4 == 0) = false := by simp; omega
        go_wp2_with fail
        have x0 := Lib.hid (show (wr.alloc (.cells (bA [a, b, c, d]) 53)).heap[wr.heap.size]? = some (.cells (bA [a, b, c, d]) 53 (0, 0)) from blk_new wr _)
        have x1 := Lib.hid (own.out.alloc (.cells (bA [a, b, c, d]) 53))
        have x2 := Lib.hid (hmr1.out.alloc (.cells (bA [a, b, c, d]) 53))
        clear own hmr1
        obtain ⟨wq, rfl⟩ : ∃ wq : World, wq = wr := ⟨_, rfl⟩
        have v0 := x0
        have v1 := x1
        have v2 := x2
        have hwt := Lib.hid (show wordAt 4 i l p = [a, b, c, d] by rw [hw1.out, turnW_n h0 (by omega)])
        have hpp := Lib.hid (show (if i % 4 = 0 then dbl p else p) = p from if_neg h0)
        have htt := wordAt_bytes (N := 4) (i := i) hp hl.2
        rw [hwt.out] at htt
        have hnx : expSt 4 key (i + 1 - 4) = (l ++ someB 4 i l [a, b, c, d] 4, p) := by
          have h := hnext1.out
          rw [show i - 4 + 1 = i + 1 - 4 from by omega] at h
          rw [h]
          simp only [expStep]
          rw [show 4 + (i - 4) = i from by omega, hwt.out, hpp.out]
        have hnx1 := Lib.hid hnx
        clear hnx hnext1 hwt hpp hw1 hst1
        clear x0 x1 x2
        have hsv : wq.heap.size < (wq.alloc (.cells (bA [a, b, c, d]) 53)).heap.size := by simp
        change Code.wp _ _ _ _ (wq.alloc (.cells (bA [a, b, c, d]) 53))
        generalize hpq : p = pp at *
        clear hpq
        generalize wq.alloc (.cells (bA [a, b, c, d]) 53) = wv at *
        generalize [a, b, c, d] = tt at *
        have hsq : w.heap.size < wq.heap.size := hsz
        generalize wq.heap.size = tb at *
        refine app_loop (N := 4) (nI := 4) (by rfl) i 176 w.heap.size tb l tt _ (by omega) (by omega) (by omega) (by omega) (by omega) hl htt v0.out (by omega) w.heap.size (by omega) v1.out _ _ _ _ _ _ _ _ _ _ _ _ _ _ _ _ _ _ _ _ _ _ _ _ _ _ _ _ _ _ _ _ _ _ _ _ _ _ _ _ _ _ _ _ _ _ _ _ _ _ _ _ _ _ _ _ _ _ _ _ _ _ _ _ _ _ _ _ _ _ _ _ _ _ _ _ _ _ _ _ _ _ _ _ _ _ _ _ _ _ _ _ _ _ _ _ _ _ _ _ _ _ _ _ _ _ _ _ _ _ _ _ _ _ _ _ _ _ _ _ _ _ _ _ _ _ _ _ _ _ _ _ _ _ _ _ _ _ _ _ _ _ _ (by intro d _ _ _ _ h; cases d <;> exact h) ?_
        intro u10 u94 u95 u96 u97 u98 u99 u100 u101 u102 u103 u104 u105 u106 u107 u108 u109 u110 u111 u112 u113 w3 y2 y1
        have t1 := Lib.hid y1
        have t2 := Lib.hid (v2.out.fresh y2 (Nat.le_refl _))
        have tsz := y2.size
        clear y1 y2 v0 v1 v2
        go_wp2_with fail
        go_roundw
        case rel => exact ⟨i + 1, pp, l ++ someB 4 i l tt 4, by omega, by omega, by go_num, rfl, by rw [show 4 * (i + 1) = 4 * i + 4 from by omega], hnx1.out, by rw [show 4 * (i + 1) = 4 * i + 4 from by omega]; exact t1.out, t2.out, by omega⟩
        case measure => simp [intOf]; omega
    · obtain rfl : i = 44 := by omega
      have hfl : l = expand 4 key := by
        have h := hst1.out
        rw [expand_eq]
        show l = (expSt 4 key (44 - 4)).1
        rw [h]
      have hfl1 := Lib.hid hfl
      clear hfl hst1 hp hi hi4 hlt
      have hfb := expand_bytes (N := 4) (show Bytes (4 * 4) key from hk)
      rw [← hfl1.out] at hfb
      have HN := Lib.hid (World.ownsRow.form own.out)
      go_wp2_with (first
        | (refine wpList_lit rfl 59 _ rfl (#[.slice none 0 0] ++ bA (noughts 256)) (by kernel_rfl) ?_))
      obtain ⟨cur, hcur, hrow⟩ := HN.out
      have hcur1 := Lib.hid hcur
      have hrow1 := Lib.hid hrow
      have p0 := Lib.hid (blk_new wr (.cells (#[.slice none 0 0] ++ bA (noughts 256)) 59))
      have p1 := Lib.hid (hmr1.out.alloc (.cells (#[.slice none 0 0] ++ bA (noughts 256)) 59))
      have p2 := Lib.hid (blk_old (o' := .cells (#[.slice none 0 0] ++ bA (noughts 256)) 59) hcur)
      have psz : (wr.alloc (.cells (#[.slice none 0 0] ++ bA (noughts 256)) 59)).heap.size = wr.heap.size + 1 := by simp
      have psz1 := Lib.hid psz
      clear psz hcur hrow HN own hmr1
      obtain ⟨wq, rfl⟩ : ∃ wq : World, wq = wr := ⟨_, rfl⟩
      generalize wq.alloc (.cells (#[.slice none 0 0] ++ bA (noughts 256)) 59) = wp at *
      refine key_loop 11 w.heap.size wq.heap.size l cur _ (by omega) hfb hrow1.out p2.out p0.out (by omega) _ _ _ _ _ _ _ _ _ _ _ _ _ _ _ _ _ _ _ _ _ _ _ _ _ _ _ _ _ _ _ _ _ _ _ _ _ _ _ _ _ _ _ _ _ _ _ _ _ _ _ _ _ _ _ _ _ _ _ _ _ _ _ _ _ _ _ _ _ _ _ _ _ _ _ _ _ _ _ _ _ _ _ _ _ _ _ _ _ _ _ _ _ _ _ _ _ _ _ _ _ _ _ _ _ _ _ _ _ _ _ _ _ _ _ _ _ _ _ _ _ _ _ _ _ _ _ _ _ _ _ _ _ _ _ _ _ _ _ _ _ _ _ _ _ _ (by intro d _ _ _ _ h; cases d <;> exact h) ?_
      intro u5 u116 u117 u118 u119 u120 u121 u122 u123 u124 u125 u126 u127 u128 u129 u130 u131 u132 w3 kv y2 y0 y1
      have q0 := Lib.hid y0
      have q1 := Lib.hid y1
      have q2 := Lib.hid (p1.out.fresh y2 (by omega))
      have hsz3 := y2.size
      clear y0 y1 y2
      go_wp2_with (go_at_call 28; refine (through_any _).mono ?_; rintro e w4 ⟨rfl, rfl⟩)
      refine back_loop _ wq.heap.size kv (blk_old q0.out) _ _ _ _ _ _ _ _ _ _ _ _ _ _ _ _ _ _ _ _ _ _ _ _ _ _ _ _ _ _ _ _ _ _ _ _ _ _ _ _ _ _ _ _ _ _ _ _ _ _ _ _ _ _ _ _ _ _ _ _ _ _ _ _ _ _ _ _ _ _ _ _ _ _ _ _ _ _ _ _ _ _ _ _ _ _ _ _ _ _ _ _ _ _ _ _ _ _ _ _ _ _ _ _ _ _ _ _ _ _ _ _ _ _ _ _ _ _ _ _ _ _ _ _ _ _ _ _ _ _ _ _ _ _ _ _ _ _ _ _ _ _ _ _ _ ?_
      intro u12 u13 u134 u135 u136 u137 u138 u139 u140 u141 u142 u143 u144 u145 w5 y2 y0
      have r0 := Lib.hid y0
      have r1 := Lib.hid (own_mod2 (q1.out.alloc (.cells (bA sboxL) 54)) y2 (by rw [psz1.out]; omega))
      have r2 := Lib.hid ((q2.out.alloc (.cells (bA sboxL) 54)).fresh y2 (by omega))
      clear y0 y2 q0 q1 q2
      go_wp2_with fail
      refine bodyPost_ret (v := .tuple #[.pointer (some ⟨wq.heap.size, 0, none⟩), .int .i64 0]) (by simp [results, Try.results12, go_sem]) rfl ?_
      obtain ⟨kb, c, cu, rfl, hkb, hcu, hck, hle, hmx⟩ := keys_form r1.out
      refine ⟨wq.heap.size, kb, c, cu, rfl, r2.out, by omega, by rw [psz1.out] at hkb; omega, ?_⟩
      rw [hfl1.out] at *
      exact ⟨by rw [keysOf_len]; exact r0.out, hcu, hck, by rw [keysOf_len]; exact hle, by rw [keysOf_len]; omega, hmx, (keysOf_keys hfb.2 11).2⟩
end Go.Proofs.Ytkbkobekndfapaa
