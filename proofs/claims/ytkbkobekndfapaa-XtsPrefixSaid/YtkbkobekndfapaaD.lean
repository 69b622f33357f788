/- What Decrypt of package aes does: its contract. -/
import Derived.Test.YtkbkobekndfapaaE
namespace Go.Proofs.Ytkbkobekndfapaa
open Go.RowKit

set_option maxRecDepth 100000 in
set_option maxHeartbeats 4000000 in
theorem decrypt_any (pb kb cap : Nat) (cur : Array Value) (ks : List (List Nat)) (s : List Nat) (w : World) (hs : Bytes 16 s) (hc : CipherAt w pb kb cap cur ks) :
    Calls Try.prog 18 #[.pointer (some ⟨pb, 0, none⟩), .agg (bA s)] w fun e w' => e = .returned (.agg (bA (dec ks s))) ∧ Mod No w w' := by
  have hz : ∀ w, (zeroValue 23).run Try.prog w = .ok (.agg (bA (noughts 16))) w := fun _ => by kernel_rfl
  have e0 := hc.slice
  have hc1 := Lib.hid hc
  have hle := hc.le
  have htwo := hc.two
  have hfew : cap ≤ 9223372036854775807 := by have := hc.few; unfold maxLen at this; omega
  have hpb : pb < w.heap.size := blk_lt hc.cell
  have hkb : kb < w.heap.size := blk_lt hc.keys
  have hfold1 := Lib.hid (dec_eq ks s)
  clear hc
  go_enter Try.func18, Try.ntmps18
  go_wp2_with fail
  go_loopw [5] (fun v wr => ∃ j kk : Nat, j + kk ≤ ks.length - 1 ∧ ks.length - 1 ≤ j + kk ∧ v = .int .i64 kk ∧ Mod No w wr ∧ w.heap.size + 2 ≤ wr.heap.size ∧
      wr.heap[w.heap.size]? = some (.cells (bA (foldUp (decRound ks) s j)) 23 (0, 0)) ∧ wr.heap[w.heap.size + 1]? = some (.cells (bA (noughts 16)) 23 (0, 0))) (fun v _ => (intOf v).toNat)
  case atStart => exact ⟨0, ks.length - 1, by omega, by omega, by congr 1; omega, ((Mod.refl _ _).alloc _).alloc _, by simp, by rw [foldUp_zero]; exact blk_old (blk_new _ _), blk_new' _ (by simp)⟩
  case round =>
    clear e0
    obtain ⟨j, kk, hj1, hj2, rfl, hmr, hsz, hb0, hr⟩ := hrel
    have hmr1 := Lib.hid hmr
    have hb01 := Lib.hid hb0
    have hr1 := Lib.hid hr
    have hcr := Lib.hid (hc1.out.later hmr (fun x => x) (fun x => x))
    have er := hcr.out.slice
    clear hmr hb0 hr
    have hcs : Bytes 16 (foldUp (decRound ks) s j) := by
      clear hfold1 hb01 er hcr hmr1 hr1 hj2
      induction j generalizing kk with
      | zero => rw [foldUp_zero]; exact hs
      | succ j ih => rw [foldUp_succ]; exact decRound_bytes ⟨rfl, hc1.out.ok⟩ (ih (kk + 1) (by omega)) (by omega)
    have hsucc := Lib.hid (foldUp_succ (decRound ks) s j)
    generalize hce : foldUp (decRound ks) s j = cs at *
    have hce1 := Lib.hid hce
    clear hce
    by_cases hlt : 0 < kk
    · have hkj := Lib.hid (hc1.out.get (i := kk) (by omega))
      have hrj : ∀ t v, (bA (ks.getD kk []))[t]? = some v → cur[kk * 16 + t]? = some v := by
        intro t v hv
        have := hc1.out.row (i := kk) (by omega) t v hv
        rwa [show 16 * kk = kk * 16 from by omega] at this
      have hrj1 := Lib.hid hrj
      clear hrj
      have hround := decRound_eq ks cs j
      rw [show ks.length - 1 - j = kk from by omega] at hround
      have hround1 := Lib.hid hround
      clear hround
      generalize ks.getD kk [] = kj at *
      go_wp2_with (refine load16 rfl _ rfl kb _ rfl 23 cur kj hkj.out.1 (hcr.out.keys) hrj1.out ?_)
      refine (xor_any w.heap.size 23 cs kj _ hcs hkj.out hb01.out).mono ?_
      rintro e w2 ⟨rfl, n4, n0⟩
      have hsz2 := n4.size
      have z4 := Lib.hid (hmr1.out.fresh n4 (Nat.le_refl _))
      have z1 := Lib.hid (n4.blk hr1.out (not_just (by omega)))
      have z0 := Lib.hid n0
      have hts : Bytes 16 (xorS cs kj) := xorS_bytes hkj.out hcs
      generalize xorS cs kj = ts at *
      clear n4 n0 hmr1 hb01 hr1 hcr er
      have ec := (hc1.out.later z4.out (fun x => x) (fun x => x)).slice
      by_cases hmx : kk < ks.length - 1
      · have hd2 : decide (((kk : Nat) : Int) < (ks.length : Int) - 1) = true := by simp; omega
        rw [if_pos (by omega)] at hround1
        clear hmx
        go_wp2_with fail
        obtain ⟨wv, rfl⟩ : ∃ wv : World, wv = w2 := ⟨_, rfl⟩
        go_loopw [6] (fun v wi => ∃ c : Nat, c ≤ 4 ∧ v = .int .i64 (4 * (c : Int)) ∧ Mod No w wi ∧ wv.heap.size ≤ wi.heap.size ∧
          wi.heap[w.heap.size]? = some (.cells (bA (foldUp (fun s c => mix3 s (4 * c)) ts c)) 23 (0, 0)) ∧ wi.heap[w.heap.size + 1]? = some (.cells (bA (noughts 16)) 23 (0, 0))) (fun v _ => 16 - (intOf v).toNat)
        case atStart => exact ⟨0, by omega, rfl, z4.out, Nat.le_refl _, by rw [foldUp_zero]; exact z0.out, z1.out⟩
        case round =>
          clear z0 z1 z4 ec
          obtain ⟨c, hc, rfl, y4, ysz, y0, y1⟩ := hrel
          have hcm : Bytes 16 (foldUp (fun s c => mix3 s (4 * c)) ts c) := foldUp_inv hts (fun _ _ h => mix3_bytes h _) c
          have hsu := Lib.hid (foldUp_succ (fun s c => mix3 s (4 * c)) ts c)
          generalize hde : foldUp (fun s c => mix3 s (4 * c)) ts c = cm at *
          have hde1 := Lib.hid hde
          have z0 := Lib.hid y0
          have z1 := Lib.hid y1
          have z4 := Lib.hid y4
          clear hde y0 y1 y4
          by_cases hlc : c < 4
          · have hd3 : decide (4 * ((c : Nat) : Int) < 16) = true := by simp; omega
            have hlc1 := Lib.hid hlc
            have hlc3 : c ≤ 3 := by omega
            clear hlc
            go_wp2_with fail
            obtain ⟨wu, rfl⟩ : ∃ wu : World, wu = wr := ⟨_, rfl⟩
            go_loopw [42] (fun v wi => ∃ r : Nat, r ≤ 3 ∧ v = .int .i64 r ∧ Mod No w wi ∧ wv.heap.size ≤ wi.heap.size ∧
              wi.heap[w.heap.size]? = some (.cells (bA (foldUp (fun s _ => mixAt s (4 * c)) cm r)) 23 (0, 0)) ∧ wi.heap[w.heap.size + 1]? = some (.cells (bA (noughts 16)) 23 (0, 0))) (fun v _ => 3 - (intOf v).toNat)
            case atStart => exact ⟨0, by omega, rfl, z4.out, ysz, by rw [foldUp_zero]; exact z0.out, z1.out⟩
            case round =>
              clear z0 z1 z4
              obtain ⟨r, hr, rfl, y4, zsz, y0, y1⟩ := hrel
              have hcn : Bytes 16 (foldUp (fun s _ => mixAt s (4 * c)) cm r) := foldUp_inv hcm (fun _ _ h => mixAt_bytes h _) r
              have hsv := Lib.hid (foldUp_succ (fun s _ => mixAt s (4 * c)) cm r)
              generalize hdf : foldUp (fun s _ => mixAt s (4 * c)) cm r = cn at *
              have hdf1 := Lib.hid hdf
              have z0 := Lib.hid y0
              have z1 := Lib.hid y1
              have z4 := Lib.hid y4
              clear hdf y0 y1 y4
              by_cases hlr : r < 3
              · have hsl := run_slice16 (c := c) hlc1.out
                go_wp2_with fail
                refine (mix_any w.heap.size (4 * c) _ 23 cn 16 _ hcn (by omega) (by omega) z0.out).mono ?_
                rintro e w3 ⟨rfl, n4, n0⟩
                have hsz3 := n4.size
                have u4 := Lib.hid (z4.out.fresh n4 (Nat.le_refl _))
                have u1 := Lib.hid (n4.blk z1.out (not_just (by omega)))
                have u0 := Lib.hid n0
                clear n4 n0 hsl
                go_wp2_with fail
                go_roundw
                case rel => exact ⟨r + 1, by omega, by go_num, u4.out, by omega, by rw [hsv.out]; exact u0.out, u1.out⟩
                case measure => simp [intOf]; omega
              · obtain rfl : r = 3 := by omega
                have hmS : cn = mix3 cm (4 * c) := by rw [mix3_eq]; exact hdf1.out.symm
                have hmS1 := Lib.hid hmS
                clear hmS hdf1 hsv
                go_wp2_with fail
                go_roundw
                case rel => exact ⟨c + 1, by omega, by go_num, z4.out, zsz, by rw [hsu.out, ← hmS1.out]; exact z0.out, z1.out⟩
                case measure => simp [intOf]; omega
          · have hc4 : c = 4 := by omega
            have hmS : cm = imixS ts := by
              have h := hde1.out.symm
              rw [hc4] at h
              rw [imixS_eq]; exact h
            rw [← hmS] at hround1
            have hdec : decide (4 * ((c : Nat) : Int) < 16) = false := by simp; omega
            clear hde1 hsu hmS hts
            have hts := hcm
            clear hcm hc hc4 hlc
            go_wp2_with (first
              | (refine load16w rfl _ rfl w.heap.size rfl 23 cm hts.1 z0.out ?_)
              | (refine store16 rfl _ _ rfl wr.heap.size rfl cm (noughts 16) rfl 23 hts.1 (noughts_bytes 16).1 (blk_new _ _) ?_; rw [alloc_setRow]))
            obtain ⟨wq, rfl⟩ : ∃ wq : World, wq = wr := ⟨_, rfl⟩
            have x0 := Lib.hid (blk_old (o' := .cells (bA cm) 23) z0.out)
            have x1 := Lib.hid (blk_old (o' := .cells (bA cm) 23) z1.out)
            have x3 := Lib.hid (blk_new wq (.cells (bA cm) 23))
            have x4 := Lib.hid ((z4.out).alloc (.cells (bA cm) 23))
            have xsz : (wq.alloc (.cells (bA cm) 23)).heap.size = wq.heap.size + 1 := by simp
            have xsz1 := Lib.hid xsz
            clear xsz z0 z1 z4
            generalize wq.alloc (.cells (bA cm) 23) = wo at *
            go_loopw [51] (fun v wi => ∃ i : Nat, i ≤ 16 ∧ v = .int .i64 i ∧ Mod No w wi ∧ wq.heap.size + 1 ≤ wi.heap.size ∧
              wi.heap[w.heap.size]? = some (.cells (bA (foldUp (isubStep cm) cm i)) 23 (0, 0)) ∧ wi.heap[w.heap.size + 1]? = some (.cells (bA (noughts 16)) 23 (0, 0)) ∧
              wi.heap[wq.heap.size]? = some (.cells (bA cm) 23 (0, 0))) (fun v _ => 16 - (intOf v).toNat)
            case atStart => exact ⟨0, by omega, rfl, x4.out, by rw [xsz1.out]; exact Nat.le_refl _, by rw [foldUp_zero]; exact x0.out, x1.out, x3.out⟩
            case round =>
              clear x0 x1 x3 x4 xsz1
              obtain ⟨i, hi, rfl, y4, zsz, y0, y1, y3⟩ := hrel
              have hcu : Bytes 16 (foldUp (isubStep cm) cm i) := foldUp_inv hts (fun _ i h => isubStep_bytes cm h i) i
              have hsu := Lib.hid (foldUp_succ (isubStep cm) cm i)
              generalize hde : foldUp (isubStep cm) cm i = cu at *
              have hde1 := Lib.hid hde
              have z0 := Lib.hid y0
              have z1 := Lib.hid y1
              have z3 := Lib.hid y3
              have z4 := Lib.hid y4
              clear hde y0 y1 y3 y4
              have hcq := Lib.hid (hc1.out.later z4.out (fun x => x) (fun x => x))
              by_cases hli : i < 16
              · have q2 : (i + 4 * (i % 4)) % 16 < 16 := Nat.mod_lt _ (by omega)
                have q3 := hts.get i
                have cT := byte_cell z3.out (j := i) (by rw [hts.1]; exact hli)
                have cB := hcq.out.backAt (x := cm.getD i 0) q3
                have xf : wr.frozen? ⟨w.heap.size, (i + 4 * (i % 4)) % 16, none⟩ = false := blk_free z0.out
                have xc := byte_cell z0.out (j := (i + 4 * (i % 4)) % 16) (by rw [hcu.1]; exact q2)
                have hst1 := Lib.hid (isubStep_eq cm cu i)
                generalize isbox (cm.getD i 0) = sv at *
                generalize cm.getD i 0 = tv at *
                go_wp2_with fail
                refine wp_region_drew 15 (by kernel_rfl) (by kernel_rfl) ?_
                simp only [List.take_succ_cons, List.take_zero, List.drop_succ_cons, List.drop_zero]
                repeat (go_big_quiet_step (fail))
                refine wpQuiet_nil ?_
                intro nq
                go_wp2_with fail
                go_roundw
                case rel =>
                  refine ⟨i + 1, by omega, by go_num, (z4.out.setCell (p := ⟨w.heap.size, (i + 4 * (i % 4)) % 16, none⟩) (fun h => absurd h (by simp)) _).drewN _, ?_, ?_, ?_, ?_⟩
                  · simpa [World.setCell] using zsz
                  · rw [hsu.out, hst1.out]; exact byte_set z0.out
                  · exact blk_set_other z1.out (by simp)
                  · exact blk_set_other z3.out (by simp; omega)
                case measure => simp [intOf]; omega
              · have hi16 : i = 16 := by omega
                have hcuS : cu = isubS cm := by rw [isubS_eq, ← hi16]; exact hde1.out.symm
                rw [← hcuS] at hround1
                have hcuS1 := Lib.hid hcuS
                have hdec : decide (((i : Nat) : Int) < 16) = false := by simp; omega
                clear hcuS hde1 hsu hi hi16 hli
                go_wp2_with fail
                go_roundw
                case rel => exact ⟨j + 1, kk - 1, by omega, by omega, by go_num, z4.out, by omega, by rw [hsucc.out, hround1.out]; exact z0.out, z1.out⟩
                case measure => simp [intOf]; omega
      · have hd2 : decide (((kk : Nat) : Int) < (ks.length : Int) - 1) = false := by simp; omega
        rw [if_neg (by omega)] at hround1
        clear hmx
        obtain ⟨wr, rfl⟩ : ∃ wv : World, wv = w2 := ⟨_, rfl⟩
        go_wp2_with (first
          | (refine load16w rfl _ rfl w.heap.size rfl 23 ts hts.1 z0.out ?_)
          | (refine store16 rfl _ _ rfl wr.heap.size rfl ts (noughts 16) rfl 23 hts.1 (noughts_bytes 16).1 (blk_new _ _) ?_; rw [alloc_setRow]))
        obtain ⟨wq, rfl⟩ : ∃ wq : World, wq = wr := ⟨_, rfl⟩
        have x0 := Lib.hid (blk_old (o' := .cells (bA ts) 23) z0.out)
        have x1 := Lib.hid (blk_old (o' := .cells (bA ts) 23) z1.out)
        have x3 := Lib.hid (blk_new wq (.cells (bA ts) 23))
        have x4 := Lib.hid ((z4.out).alloc (.cells (bA ts) 23))
        have xsz : (wq.alloc (.cells (bA ts) 23)).heap.size = wq.heap.size + 1 := by simp
        have xsz1 := Lib.hid xsz
        clear xsz z0 z1 z4
        generalize wq.alloc (.cells (bA ts) 23) = wo at *
        go_loopw [51] (fun v wi => ∃ i : Nat, i ≤ 16 ∧ v = .int .i64 i ∧ Mod No w wi ∧ wq.heap.size + 1 ≤ wi.heap.size ∧
          wi.heap[w.heap.size]? = some (.cells (bA (foldUp (isubStep ts) ts i)) 23 (0, 0)) ∧ wi.heap[w.heap.size + 1]? = some (.cells (bA (noughts 16)) 23 (0, 0)) ∧
          wi.heap[wq.heap.size]? = some (.cells (bA ts) 23 (0, 0))) (fun v _ => 16 - (intOf v).toNat)
        case atStart => exact ⟨0, by omega, rfl, x4.out, by rw [xsz1.out]; exact Nat.le_refl _, by rw [foldUp_zero]; exact x0.out, x1.out, x3.out⟩
        case round =>
          clear x0 x1 x3 x4 xsz1
          obtain ⟨i, hi, rfl, y4, zsz, y0, y1, y3⟩ := hrel
          have hcu : Bytes 16 (foldUp (isubStep ts) ts i) := foldUp_inv hts (fun _ i h => isubStep_bytes ts h i) i
          have hsu := Lib.hid (foldUp_succ (isubStep ts) ts i)
          generalize hde : foldUp (isubStep ts) ts i = cu at *
          have hde1 := Lib.hid hde
          have z0 := Lib.hid y0
          have z1 := Lib.hid y1
          have z3 := Lib.hid y3
          have z4 := Lib.hid y4
          clear hde y0 y1 y3 y4
          have hcq := Lib.hid (hc1.out.later z4.out (fun x => x) (fun x => x))
          by_cases hli : i < 16
          · have q2 : (i + 4 * (i % 4)) % 16 < 16 := Nat.mod_lt _ (by omega)
            have q3 := hts.get i
            have cT := byte_cell z3.out (j := i) (by rw [hts.1]; exact hli)
            have cB := hcq.out.backAt (x := ts.getD i 0) q3
            have xf : wr.frozen? ⟨w.heap.size, (i + 4 * (i % 4)) % 16, none⟩ = false := blk_free z0.out
            have xc := byte_cell z0.out (j := (i + 4 * (i % 4)) % 16) (by rw [hcu.1]; exact q2)
            have hst1 := Lib.hid (isubStep_eq ts cu i)
            generalize isbox (ts.getD i 0) = sv at *
            generalize ts.getD i 0 = tv at *
            go_wp2_with fail
            refine wp_region_drew 15 (by kernel_rfl) (by kernel_rfl) ?_
            simp only [List.take_succ_cons, List.take_zero, List.drop_succ_cons, List.drop_zero]
            repeat (go_big_quiet_step (fail))
            refine wpQuiet_nil ?_
            intro nq
            go_wp2_with fail
            go_roundw
            case rel =>
              refine ⟨i + 1, by omega, by go_num, (z4.out.setCell (p := ⟨w.heap.size, (i + 4 * (i % 4)) % 16, none⟩) (fun h => absurd h (by simp)) _).drewN _, ?_, ?_, ?_, ?_⟩
              · simpa [World.setCell] using zsz
              · rw [hsu.out, hst1.out]; exact byte_set z0.out
              · exact blk_set_other z1.out (by simp)
              · exact blk_set_other z3.out (by simp; omega)
            case measure => simp [intOf]; omega
          · have hi16 : i = 16 := by omega
            have hcuS : cu = isubS ts := by rw [isubS_eq, ← hi16]; exact hde1.out.symm
            rw [← hcuS] at hround1
            have hcuS1 := Lib.hid hcuS
            have hdec : decide (((i : Nat) : Int) < 16) = false := by simp; omega
            clear hcuS hde1 hsu hi hi16 hli
            go_wp2_with fail
            go_roundw
            case rel => exact ⟨j + 1, kk - 1, by omega, by omega, by go_num, z4.out, by omega, by rw [hsucc.out, hround1.out]; exact z0.out, z1.out⟩
            case measure => simp [intOf]; omega
    · have hk0 : kk = 0 := by omega
      have hj0 : j = ks.length - 1 := by omega
      have h0 := Lib.hid (hc1.out.get (i := 0) (by omega))
      have hr0 := Lib.hid (hc1.out.row (i := 0) (by omega))
      have hend : dec ks s = xorS cs (ks.getD 0 []) := by rw [hfold1.out, ← hj0, hce1.out]
      have hend1 := Lib.hid hend
      clear hend hfold1 hsucc hce1 hj0 hk0
      generalize ks.getD 0 [] = k0 at *
      go_wp2_with (refine load16 rfl _ rfl kb 0 rfl 23 cur k0 h0.out.1 (hcr.out.keys) hr0.out ?_)
      refine (xor_any w.heap.size 23 cs k0 _ hcs h0.out hb01.out).mono ?_
      rintro e w2 ⟨rfl, n4, n0⟩
      have hsz2 := n4.size
      have z4 := Lib.hid (hmr1.out.fresh n4 (Nat.le_refl _))
      have z1 := Lib.hid (n4.blk hr1.out (not_just (by omega)))
      have z0 := Lib.hid n0
      have hts : Bytes 16 (xorS cs k0) := xorS_bytes h0.out hcs
      generalize xorS cs k0 = ts at *
      clear n4 n0 hmr1 hb01 hr1 hcr er
      have hrs := Lib.hid (blk_setRow (cs := bA ts) z1.out)
      go_wp2_with (first
        | (refine load16w rfl _ rfl w.heap.size rfl 23 ts hts.1 z0.out ?_)
        | (refine store16 rfl _ _ rfl (w.heap.size + 1) rfl ts (noughts 16) rfl 23 hts.1 (noughts_bytes 16).1 z1.out ?_))
      refine bodyPost_ret (v := .agg (bA ts)) (ret16 rfl _ _ (w.heap.size + 1) 23 ts rfl hts.1 hrs.out) rfl ⟨by rw [hend1.out], z4.out.setRow _ _ (fun h => absurd h (by omega))⟩
end Go.Proofs.Ytkbkobekndfapaa
