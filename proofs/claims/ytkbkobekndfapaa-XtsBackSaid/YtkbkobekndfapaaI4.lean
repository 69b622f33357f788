/- The document's Decrypt: what it computes. -/
import Derived.Test.YtkbkobekndfapaaI1
import Derived.Test.YtkbkobekndfapaaI2
namespace Go.Proofs.Ytkbkobekndfapaa
open Go.RowKit

theorem isubRow_bytes (s : List Nat) (r : Nat) {t : List Nat} (ht : Bytes 16 t) (c : Nat) : Bytes 16 (isubRow s r t c) := ht.set _ (isbox_lt _)
def isubRs (s t : List Nat) (r : Nat) : List Nat := foldUp (isubRow s r) t 4
theorem isubRs_bytes (s : List Nat) {t : List Nat} (ht : Bytes 16 t) (r : Nat) : Bytes 16 (isubRs s t r) := foldUp_inv ht (fun _ i h => isubRow_bytes s r h i) 4
theorem isubRs_def (s t : List Nat) (r : Nat) : isubRs s t r = foldUp (isubRow s r) t 4 := rfl
theorem isubR_def (s : List Nat) : isubR s = foldUp (isubRs s) (noughts 16) 4 := rfl
theorem isubRow_def (s : List Nat) (r : Nat) (t : List Nat) (c : Nat) : isubRow s r t c = t.set (r + 4 * ((c + r) % 4)) (isbox (s.getD (r + 4 * c) 0)) := rfl
attribute [local irreducible] isubRs isubRow isubR

theorem mix_dec (t : List Nat) (w : World) (h : Bytes 16 t) : Calls Try.prog 35 #[.agg (bA t), .agg #[.int .u8 14, .int .u8 11, .int .u8 13, .int .u8 9]] w fun e w' => e = .returned (.agg (bA (imixS t))) ∧ Mod No w w' := by
  have := mixed_any t [14, 11, 13, 9] w h ⟨rfl, by decide⟩
  rw [imixS_def h] at this
  exact this

set_option maxRecDepth 100000 in
set_option maxHeartbeats 8000000 in
theorem refdec_any (g cc m n : Nat) (cur : Array Value) (flat s : List Nat) (w : World) (hs : Bytes 16 s) (hf : FlatAt w g cur flat) (hfl : flat.length = n) (hn : n = 16 * m) (hm : 2 ≤ m) (hm2 : m ≤ 15) :
    Calls Try.prog 19 #[.slice (some ⟨g, 0, none⟩) n cc, .agg (bA s)] w fun e w' => e = .returned (.agg (bA (dec (keysOf flat m) s))) ∧ Mod No w w' := by
  have hz : ∀ w, (zeroValue 23).run Try.prog w = .ok (.agg (bA (noughts 16))) w := fun _ => by kernel_rfl
  have hn0 := noughts_bytes 16
  have F0 := Lib.hid hf
  have hgw := blk_lt hf.cell
  have hq : (n : Int).tdiv 16 = (m : Int) := by
    rw [hn]
    exact congrArg Int.ofNat (Nat.mul_div_cancel_left m (by omega))
  have hlen : (keysOf flat m).length = m := keysOf_len flat m
  have hks := Lib.hid (keysOf_keys hf.ok m)
  have hkg := Lib.hid (fun i hi => keysOf_get flat m i hi)
  have hadd := Lib.hid (show ∀ (k : Nat) (z : Int) (hz : z = (k : Int)) (x : List Nat) (w' : World) (hx : Bytes 16 x) (h : FlatAt w' g cur flat) (hk : k < m), Calls Try.prog 34 #[.agg (bA x), .slice (some ⟨g, 0, none⟩) n cc, .int .i64 z] w' fun e w'' => e = .returned (.agg (bA (xorS x (flatKey flat k)))) ∧ Mod No w' w'' from fun k z hz x w' hx h hk => by rw [hz]; exact added_any g cc k n cur flat x w' hx h (by omega) (by omega) (by omega))
  have hfk := Lib.hid (fun k => flatKey_bytes hf.ok k)
  have hfull := Lib.hid (dec_eq (keysOf flat m) s)
  clear hf hn hfl
  have L0 := Lib.hid (show ((w.alloc (.cells (bA s) 23)).alloc (.cells (bA (noughts 16)) 23)).heap[w.heap.size]? = _ from blk_old (blk_new w (.cells (bA s) 23)))
  have L1 := Lib.hid (show ((w.alloc (.cells (bA s) 23)).alloc (.cells (bA (noughts 16)) 23)).heap[w.heap.size + 1]? = some (.cells (bA (noughts 16)) 23 (0, 0)) from blk_new' _ (by simp))
  have L2 := Lib.hid (((Mod.refl No w).alloc (.cells (bA s) 23)).alloc (.cells (bA (noughts 16)) 23))
  have hmix := Lib.hid mix_dec
  rw [hlen, hkg.out 0 (by omega)] at hfull
  go_enter Try.func19, Try.ntmps19
  go_wp2_with fail
  generalize (w.alloc (.cells (bA s) 23)).alloc (.cells (bA (noughts 16)) 23) = w2 at *
  go_loopw [6] (fun v wr => ∃ j kk : Nat, j + kk = m - 1 ∧ j ≤ m - 1 ∧ v = .int .i64 kk ∧ Mod No w wr ∧ wr.heap[w.heap.size]? = some (.cells (bA (foldUp (decRound (keysOf flat m)) s j)) 23 (0, 0)) ∧ wr.heap[w.heap.size + 1]? = some (.cells (bA (noughts 16)) 23 (0, 0))) (fun v _ => (intOf v).toNat)
  case atStart => exact ⟨0, m - 1, by omega, by omega, by go_num, L2.out, by rw [foldUp_zero]; exact L0.out, L1.out⟩
  case round =>
    clear L0 L1 L2
    obtain ⟨j, kk, hjk, hj, rfl, y2, y0, y1⟩ := hrel
    have hcs : Bytes 16 (foldUp (decRound (keysOf flat m)) s j) := by
      clear y2 y0 y1 hfull hjk
      induction j with
      | zero => rw [foldUp_zero]; exact hs
      | succ j ih => rw [foldUp_succ]; exact decRound_bytes hks.out (ih (by omega)) (by omega)
    have hsj := Lib.hid (foldUp_succ (decRound (keysOf flat m)) s j)
    generalize hde : foldUp (decRound (keysOf flat m)) s j = os at *
    have hdej := Lib.hid hde
    have z0 := Lib.hid y0
    have z1 := Lib.hid y1
    have z2 := Lib.hid y2
    clear hde y0 y1 y2
    by_cases hlj : j < m - 1
    · have hkk : 1 ≤ kk := by omega
      have hdj : decide (1 ≤ ((kk : Nat) : Int)) = true := by simp; omega
      go_wp2_with (refine load16w rfl _ rfl w.heap.size rfl 23 os hcs.1 z0.out ?_)
      refine (hadd.out kk _ rfl os _ hcs (F0.out.later z2.out (fun x => x)) (by omega)).mono ?_
      rintro e w5 ⟨rfl, hm5⟩
      have K0 := Lib.hid (hm5.blk z0.out (fun x => x))
      have K1 := Lib.hid (hm5.blk z1.out (fun x => x))
      have K2 := Lib.hid (z2.out.then hm5)
      have hr5 : Bytes 16 (xorS os (flatKey flat kk)) := xorS_bytes (hfk.out kk) hcs
      have hrd := Lib.hid (show decRound (keysOf flat m) os j = isubS (if 0 < j then imixS (xorS os (flatKey flat kk)) else xorS os (flatKey flat kk)) by rw [decRound_eq, hlen, hkg.out _ (by omega), show m - 1 - j = kk by omega])
      generalize xorS os (flatKey flat kk) = x5 at *
      clear hm5 z0 z1 z2
      have M0 := Lib.hid (blk_setRow (cs := bA x5) K0.out)
      have M1 := Lib.hid (blk_setRow_other (cs := bA x5) K1.out (by omega : w.heap.size + 1 ≠ w.heap.size))
      have M2 := Lib.hid (K2.out.setRow w.heap.size (bA x5) (fun h => absurd h (by omega)))
      by_cases hmx : 0 < j
      · have hd2 : decide (((kk : Nat) : Int) < (m : Int) - 1) = true := by simp; omega
        rw [if_pos hmx] at hrd
        clear hmx
        go_wp2_with (first
          | (refine store16 rfl _ _ rfl w.heap.size rfl x5 os rfl 23 hr5.1 hcs.1 K0.out ?_)
          | (refine load16w rfl _ rfl w.heap.size rfl 23 x5 hr5.1 M0.out ?_))
        clear K0 K1 K2
        generalize w5.setRow w.heap.size (bA x5) = w5 at *
        refine (hmix.out x5 _ hr5).mono ?_
        rintro e w4 ⟨rfl, hm4⟩
        have J0 := Lib.hid (hm4.blk M0.out (fun x => x))
        have J1 := Lib.hid (hm4.blk M1.out (fun x => x))
        have J2 := Lib.hid (M2.out.then hm4)
        have hcm : Bytes 16 (imixS x5) := imixS_bytes hr5
        generalize imixS x5 = cs at *
        clear M0 M1 M2 hm4 hcs
        have hcs := hcm
        have N0 := Lib.hid (blk_setRow (cs := bA cs) J0.out)
        have N1 := Lib.hid (blk_setRow_other (cs := bA cs) J1.out (by omega : w.heap.size + 1 ≠ w.heap.size))
        have N2 := Lib.hid (J2.out.setRow w.heap.size (bA cs) (fun h => absurd h (by omega)))
        go_wp2_with (first
          | (refine store16 rfl _ _ rfl w.heap.size rfl cs x5 rfl 23 hcs.1 hr5.1 J0.out ?_; refine hold ?_))
        unfold Hold
        clear J0 J1 J2
        generalize w4.setRow w.heap.size (bA cs) = wq at *
        have hro := hrd
        have x0 := Lib.hid (blk_old (o' := .cells (bA (noughts 16)) 23) N0.out)
        have x1 := Lib.hid (blk_old (o' := .cells (bA (noughts 16)) 23) N1.out)
        have x3 := Lib.hid (blk_new wq (.cells (bA (noughts 16)) 23))
        have x4 := Lib.hid (N2.out.alloc (.cells (bA (noughts 16)) 23))
        have xs := Lib.hid (show wq.heap.size + 1 ≤ (wq.alloc (.cells (bA (noughts 16)) 23)).heap.size by simp)
        have z4b := blk_lt N1.out
        clear N0 N1 N2
        go_wp2_with fail
        generalize wq.alloc (.cells (bA (noughts 16)) 23) = wo at *
        go_loopw [8] (fun v wi => ∃ r : Nat, r ≤ 4 ∧ v = .int .i64 r ∧ Mod No w wi ∧ wq.heap.size + 1 ≤ wi.heap.size ∧ wi.heap[w.heap.size]? = some (.cells (bA cs) 23 (0, 0)) ∧ wi.heap[w.heap.size + 1]? = some (.cells (bA (noughts 16)) 23 (0, 0)) ∧ wi.heap[wq.heap.size]? = some (.cells (bA (foldUp (isubRs cs) (noughts 16) r)) 23 (0, 0))) (fun v _ => 4 - (intOf v).toNat)
        case atStart => exact ⟨0, by omega, rfl, x4.out, xs.out, x0.out, x1.out, by rw [foldUp_zero]; exact x3.out⟩
        case round =>
          clear x0 x1 x3 x4 xs
          obtain ⟨r, hr, rfl, y4, ysz, y0, y1, y3⟩ := hrel
          have htr : Bytes 16 (foldUp (isubRs cs) (noughts 16) r) := foldUp_inv (noughts_bytes 16) (fun _ i h => isubRs_bytes cs h i) r
          have hsr := Lib.hid (foldUp_succ (isubRs cs) (noughts 16) r)
          generalize hde : foldUp (isubRs cs) (noughts 16) r = tr at *
          have hder := Lib.hid hde
          have z0 := Lib.hid y0
          have z1 := Lib.hid y1
          have z3 := Lib.hid y3
          have z4 := Lib.hid y4
          have zs := Lib.hid ysz
          clear hde y0 y1 y3 y4 ysz
          by_cases hlr : r < 4
          · obtain ⟨wp, rfl⟩ : ∃ wp : World, wp = wr := ⟨_, rfl⟩
            have hrow := Lib.hid (isubRs_def cs tr r)
            have hdr1 : decide (((r : Nat) : Int) < 4) = true := by simp; omega
            go_wp2_with fail
            go_loopw [9] (fun v wi => ∃ c : Nat, c ≤ 4 ∧ v = .int .i64 c ∧ Mod No w wi ∧ wq.heap.size + 1 ≤ wi.heap.size ∧ wi.heap[w.heap.size]? = some (.cells (bA cs) 23 (0, 0)) ∧ wi.heap[w.heap.size + 1]? = some (.cells (bA (noughts 16)) 23 (0, 0)) ∧ wi.heap[wq.heap.size]? = some (.cells (bA (foldUp (isubRow cs r) tr c)) 23 (0, 0))) (fun v _ => 4 - (intOf v).toNat)
            case atStart => exact ⟨0, by omega, rfl, z4.out, zs.out, z0.out, z1.out, by rw [foldUp_zero]; exact z3.out⟩
            case round =>
              clear z0 z1 z3 z4 zs
              obtain ⟨c, hc, rfl, y4, ysz, y0, y1, y3⟩ := hrel
              have htc : Bytes 16 (foldUp (isubRow cs r) tr c) := foldUp_inv htr (fun _ i h => isubRow_bytes cs r h i) c
              have hsc := Lib.hid (foldUp_succ (isubRow cs r) tr c)
              generalize hde : foldUp (isubRow cs r) tr c = tc at *
              have hdec := Lib.hid hde
              have z0 := Lib.hid y0
              have z1 := Lib.hid y1
              have z3 := Lib.hid y3
              have z4 := Lib.hid y4
              have zs := Lib.hid ysz
              clear hde y0 y1 y3 y4 ysz
              by_cases hlc : c < 4
              · have q4 : (c + r) % 4 < 4 := Nat.mod_lt _ (by omega)
                have hst1 := Lib.hid (isubRow_def cs r tc c)
                have hm4 : ((c : Int) + (r : Int)).tmod 4 = (((c + r) % 4 : Nat) : Int) := by
                  rw [show (c : Int) + (r : Int) = ((c + r : Nat) : Int) by omega]; rfl
                generalize (c + r) % 4 = q at *
                have c1 := byte_cell z0.out (j := r + 4 * c) (by rw [hcs.1]; omega)
                have c2 := byte_cell z3.out (j := r + 4 * q) (by rw [htc.1]; omega)
                have cf : wr.frozen? ⟨wq.heap.size, r + 4 * q, none⟩ = false := blk_free z3.out
                have hxb := hcs.get (r + 4 * c)
                generalize cs.getD (r + 4 * c) 0 = x at *
                go_wp2_with fail
                refine (back_any x hxb _).mono ?_
                rintro e w2 ⟨rfl, rfl⟩
                generalize isbox x = sx at *
                go_wp2_with fail
                go_roundw
                case rel =>
                  refine ⟨c + 1, by omega, by go_num, z4.out.setCell (p := ⟨wq.heap.size, r + 4 * q, none⟩) (fun h => absurd h (by have := z4b; simp; omega)) _, ?_, ?_, ?_, ?_⟩
                  · simpa [World.setCell] using zs.out
                  · exact blk_set_other z0.out (by have := z4b; simp; omega)
                  · exact blk_set_other z1.out (by have := z4b; simp; omega)
                  · rw [hsc.out, hst1.out]; exact byte_set z3.out
                case measure => simp [intOf]; omega
              · have hc4 : c = 4 := by omega
                have he := Lib.hid (show tc = isubRs cs tr r by rw [hrow.out, ← hc4]; exact hdec.out.symm)
                have hdc : decide (((c : Nat) : Int) < 4) = false := by simp; omega
                clear hdec hsc hc4 hlc hc
                go_wp2_with fail
                go_roundw
                case rel => exact ⟨r + 1, by omega, by go_num, z4.out, zs.out, z0.out, z1.out, by rw [hsr.out, ← he.out]; exact z3.out⟩
                case measure => simp [intOf]; omega
          · have hr4 : r = 4 := by omega
            have he := Lib.hid (show tr = isubS cs by rw [← isubR_eq hcs, isubR_def, ← hr4]; exact hder.out.symm)
            have hdr : decide (((r : Nat) : Int) < 4) = false := by simp; omega
            clear hder hsr hr4 hlr hr
            obtain ⟨wm, rfl⟩ : ∃ wm : World, wm = wr := ⟨_, rfl⟩
            go_wp2_with (first
              | (refine load16w rfl _ rfl wq.heap.size rfl 23 tr htr.1 z3.out ?_)
              | (refine store16 rfl _ _ rfl w.heap.size rfl tr cs rfl 23 htr.1 hcs.1 z0.out ?_))
            have M0 := Lib.hid (blk_setRow (cs := bA tr) z0.out)
            have M1 := Lib.hid (blk_setRow_other (cs := bA tr) z1.out (by omega : w.heap.size + 1 ≠ w.heap.size))
            have M2 := Lib.hid (z4.out.setRow w.heap.size (bA tr) (fun h => absurd h (by omega)))
            generalize wm.setRow w.heap.size (bA tr) = w6 at *
            clear z0 z1 z3 z4
            go_wp2_with fail
            go_roundw
            case rel => exact ⟨j + 1, kk - 1, by omega, by omega, by go_num, M2.out, by rw [hsj.out, hro.out, ← he.out]; exact M0.out, M1.out⟩
            case measure => simp [intOf]; omega
      · have hd2 : decide (((kk : Nat) : Int) < (m : Int) - 1) = false := by simp; omega
        rw [if_neg hmx] at hrd
        clear hmx
        go_wp2_with (first
          | (refine store16 rfl _ _ rfl w.heap.size rfl x5 os rfl 23 hr5.1 hcs.1 K0.out ?_; refine hold ?_))
        unfold Hold
        clear K0 K1 K2
        generalize w5.setRow w.heap.size (bA x5) = wq at *
        clear hcs
        obtain ⟨cs, rfl⟩ : ∃ cs : List Nat, cs = x5 := ⟨_, rfl⟩
        have hcs := hr5
        have hro := hrd
        have x0 := Lib.hid (blk_old (o' := .cells (bA (noughts 16)) 23) M0.out)
        have x1 := Lib.hid (blk_old (o' := .cells (bA (noughts 16)) 23) M1.out)
        have x3 := Lib.hid (blk_new wq (.cells (bA (noughts 16)) 23))
        have x4 := Lib.hid (M2.out.alloc (.cells (bA (noughts 16)) 23))
        have xs := Lib.hid (show wq.heap.size + 1 ≤ (wq.alloc (.cells (bA (noughts 16)) 23)).heap.size by simp)
        have z4b := blk_lt M1.out
        clear M0 M1 M2
        go_wp2_with fail
        generalize wq.alloc (.cells (bA (noughts 16)) 23) = wo at *
        go_loopw [8] (fun v wi => ∃ r : Nat, r ≤ 4 ∧ v = .int .i64 r ∧ Mod No w wi ∧ wq.heap.size + 1 ≤ wi.heap.size ∧ wi.heap[w.heap.size]? = some (.cells (bA cs) 23 (0, 0)) ∧ wi.heap[w.heap.size + 1]? = some (.cells (bA (noughts 16)) 23 (0, 0)) ∧ wi.heap[wq.heap.size]? = some (.cells (bA (foldUp (isubRs cs) (noughts 16) r)) 23 (0, 0))) (fun v _ => 4 - (intOf v).toNat)
        case atStart => exact ⟨0, by omega, rfl, x4.out, xs.out, x0.out, x1.out, by rw [foldUp_zero]; exact x3.out⟩
        case round =>
          clear x0 x1 x3 x4 xs
          obtain ⟨r, hr, rfl, y4, ysz, y0, y1, y3⟩ := hrel
          have htr : Bytes 16 (foldUp (isubRs cs) (noughts 16) r) := foldUp_inv (noughts_bytes 16) (fun _ i h => isubRs_bytes cs h i) r
          have hsr := Lib.hid (foldUp_succ (isubRs cs) (noughts 16) r)
          generalize hde : foldUp (isubRs cs) (noughts 16) r = tr at *
          have hder := Lib.hid hde
          have z0 := Lib.hid y0
          have z1 := Lib.hid y1
          have z3 := Lib.hid y3
          have z4 := Lib.hid y4
          have zs := Lib.hid ysz
          clear hde y0 y1 y3 y4 ysz
          by_cases hlr : r < 4
          · obtain ⟨wp, rfl⟩ : ∃ wp : World, wp = wr := ⟨_, rfl⟩
            have hrow := Lib.hid (isubRs_def cs tr r)
            have hdr1 : decide (((r : Nat) : Int) < 4) = true := by simp; omega
            go_wp2_with fail
            go_loopw [9] (fun v wi => ∃ c : Nat, c ≤ 4 ∧ v = .int .i64 c ∧ Mod No w wi ∧ wq.heap.size + 1 ≤ wi.heap.size ∧ wi.heap[w.heap.size]? = some (.cells (bA cs) 23 (0, 0)) ∧ wi.heap[w.heap.size + 1]? = some (.cells (bA (noughts 16)) 23 (0, 0)) ∧ wi.heap[wq.heap.size]? = some (.cells (bA (foldUp (isubRow cs r) tr c)) 23 (0, 0))) (fun v _ => 4 - (intOf v).toNat)
            case atStart => exact ⟨0, by omega, rfl, z4.out, zs.out, z0.out, z1.out, by rw [foldUp_zero]; exact z3.out⟩
            case round =>
              clear z0 z1 z3 z4 zs
              obtain ⟨c, hc, rfl, y4, ysz, y0, y1, y3⟩ := hrel
              have htc : Bytes 16 (foldUp (isubRow cs r) tr c) := foldUp_inv htr (fun _ i h => isubRow_bytes cs r h i) c
              have hsc := Lib.hid (foldUp_succ (isubRow cs r) tr c)
              generalize hde : foldUp (isubRow cs r) tr c = tc at *
              have hdec := Lib.hid hde
              have z0 := Lib.hid y0
              have z1 := Lib.hid y1
              have z3 := Lib.hid y3
              have z4 := Lib.hid y4
              have zs := Lib.hid ysz
              clear hde y0 y1 y3 y4 ysz
              by_cases hlc : c < 4
              · have q4 : (c + r) % 4 < 4 := Nat.mod_lt _ (by omega)
                have hst1 := Lib.hid (isubRow_def cs r tc c)
                have hm4 : ((c : Int) + (r : Int)).tmod 4 = (((c + r) % 4 : Nat) : Int) := by
                  rw [show (c : Int) + (r : Int) = ((c + r : Nat) : Int) by omega]; rfl
                generalize (c + r) % 4 = q at *
                have c1 := byte_cell z0.out (j := r + 4 * c) (by rw [hcs.1]; omega)
                have c2 := byte_cell z3.out (j := r + 4 * q) (by rw [htc.1]; omega)
                have cf : wr.frozen? ⟨wq.heap.size, r + 4 * q, none⟩ = false := blk_free z3.out
                have hxb := hcs.get (r + 4 * c)
                generalize cs.getD (r + 4 * c) 0 = x at *
                go_wp2_with fail
                refine (back_any x hxb _).mono ?_
                rintro e w2 ⟨rfl, rfl⟩
                generalize isbox x = sx at *
                go_wp2_with fail
                go_roundw
                case rel =>
                  refine ⟨c + 1, by omega, by go_num, z4.out.setCell (p := ⟨wq.heap.size, r + 4 * q, none⟩) (fun h => absurd h (by have := z4b; simp; omega)) _, ?_, ?_, ?_, ?_⟩
                  · simpa [World.setCell] using zs.out
                  · exact blk_set_other z0.out (by have := z4b; simp; omega)
                  · exact blk_set_other z1.out (by have := z4b; simp; omega)
                  · rw [hsc.out, hst1.out]; exact byte_set z3.out
                case measure => simp [intOf]; omega
              · have hc4 : c = 4 := by omega
                have he := Lib.hid (show tc = isubRs cs tr r by rw [hrow.out, ← hc4]; exact hdec.out.symm)
                have hdc : decide (((c : Nat) : Int) < 4) = false := by simp; omega
                clear hdec hsc hc4 hlc hc
                go_wp2_with fail
                go_roundw
                case rel => exact ⟨r + 1, by omega, by go_num, z4.out, zs.out, z0.out, z1.out, by rw [hsr.out, ← he.out]; exact z3.out⟩
                case measure => simp [intOf]; omega
          · have hr4 : r = 4 := by omega
            have he := Lib.hid (show tr = isubS cs by rw [← isubR_eq hcs, isubR_def, ← hr4]; exact hder.out.symm)
            have hdr : decide (((r : Nat) : Int) < 4) = false := by simp; omega
            clear hder hsr hr4 hlr hr
            obtain ⟨wm, rfl⟩ : ∃ wm : World, wm = wr := ⟨_, rfl⟩
            go_wp2_with (first
              | (refine load16w rfl _ rfl wq.heap.size rfl 23 tr htr.1 z3.out ?_)
              | (refine store16 rfl _ _ rfl w.heap.size rfl tr cs rfl 23 htr.1 hcs.1 z0.out ?_))
            have M0 := Lib.hid (blk_setRow (cs := bA tr) z0.out)
            have M1 := Lib.hid (blk_setRow_other (cs := bA tr) z1.out (by omega : w.heap.size + 1 ≠ w.heap.size))
            have M2 := Lib.hid (z4.out.setRow w.heap.size (bA tr) (fun h => absurd h (by omega)))
            generalize wm.setRow w.heap.size (bA tr) = w6 at *
            clear z0 z1 z3 z4
            go_wp2_with fail
            go_roundw
            case rel => exact ⟨j + 1, kk - 1, by omega, by omega, by go_num, M2.out, by rw [hsj.out, hro.out, ← he.out]; exact M0.out, M1.out⟩
            case measure => simp [intOf]; omega
    · have hjm : j = m - 1 := by omega
      have hk0 : kk = 0 := by omega
      have hfin := Lib.hid (show dec (keysOf flat m) s = xorS os (flatKey flat 0) by rw [hfull.out, ← hjm, hdej.out])
      clear hdej hsj hfull hjk
      subst hk0
      go_wp2_with (refine load16w rfl _ rfl w.heap.size rfl 23 os hcs.1 z0.out ?_)
      refine (hadd.out 0 0 rfl os _ hcs (F0.out.later z2.out (fun x => x)) (by omega)).mono ?_
      rintro e w5 ⟨rfl, hm5⟩
      have K1 := Lib.hid (hm5.blk z1.out (fun x => x))
      have K2 := Lib.hid (z2.out.then hm5)
      have hr5 : Bytes 16 (xorS os (flatKey flat 0)) := xorS_bytes (hfk.out 0) hcs
      generalize xorS os (flatKey flat 0) = x5 at *
      have hrs := Lib.hid (blk_setRow (cs := bA x5) K1.out)
      go_wp2_with (refine store16 rfl _ _ rfl (w.heap.size + 1) rfl x5 (noughts 16) rfl 23 hr5.1 hn0.1 K1.out ?_)
      refine bodyPost_ret (v := .agg (bA x5)) (ret16 rfl _ _ (w.heap.size + 1) 23 x5 rfl hr5.1 hrs.out) rfl ⟨by rw [hfin.out], K2.out.setRow _ _ (fun h => absurd h (by omega))⟩
end Go.Proofs.Ytkbkobekndfapaa
