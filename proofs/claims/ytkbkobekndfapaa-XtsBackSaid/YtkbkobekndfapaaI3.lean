/- The document's Encrypt: what it computes. -/
import Derived.Test.YtkbkobekndfapaaI1
import Derived.Test.YtkbkobekndfapaaI2
namespace Go.Proofs.Ytkbkobekndfapaa
open Go.RowKit

theorem subRow_bytes (s : List Nat) (r : Nat) {t : List Nat} (ht : Bytes 16 t) (c : Nat) : Bytes 16 (subRow s r t c) := ht.set _ (sbox_lt _)
def subRs (s t : List Nat) (r : Nat) : List Nat := foldUp (subRow s r) t 4
theorem subRs_bytes (s : List Nat) {t : List Nat} (ht : Bytes 16 t) (r : Nat) : Bytes 16 (subRs s t r) := foldUp_inv ht (fun _ i h => subRow_bytes s r h i) 4
theorem subRs_def (s t : List Nat) (r : Nat) : subRs s t r = foldUp (subRow s r) t 4 := rfl
theorem subR_def (s : List Nat) : subR s = foldUp (subRs s) (noughts 16) 4 := rfl
theorem subRow_def (s : List Nat) (r : Nat) (t : List Nat) (c : Nat) : subRow s r t c = t.set (r + 4 * c) (sbox (s.getD (r + 4 * ((c + r) % 4)) 0)) := rfl
attribute [local irreducible] subRs subRow subR

theorem lit53 (a b c d : Nat) : (.agg #[.int .u8 (a : Int), .int .u8 (b : Int), .int .u8 (c : Int), .int .u8 (d : Int)] : Value) = .agg (bA [a, b, c, d]) := rfl
theorem mix_enc (t : List Nat) (w : World) (h : Bytes 16 t) : Calls Try.prog 35 #[.agg (bA t), .agg #[.int .u8 2, .int .u8 3, .int .u8 1, .int .u8 1]] w fun e w' => e = .returned (.agg (bA (mixS t))) ∧ Mod No w w' := by
  have := mixed_any t [2, 3, 1, 1] w h ⟨rfl, by decide⟩
  rw [mixS_def h] at this
  exact this

set_option maxRecDepth 100000 in
set_option maxHeartbeats 8000000 in
theorem refenc_any (g cc m n : Nat) (cur : Array Value) (flat s : List Nat) (w : World) (hs : Bytes 16 s) (hf : FlatAt w g cur flat) (hfl : flat.length = n) (hn : n = 16 * m) (hm : 2 ≤ m) (hm2 : m ≤ 15) :
    Calls Try.prog 17 #[.slice (some ⟨g, 0, none⟩) n cc, .agg (bA s)] w fun e w' => e = .returned (.agg (bA (enc (keysOf flat m) s))) ∧ Mod No w w' := by
  have hz : ∀ w, (zeroValue 23).run Try.prog w = .ok (.agg (bA (noughts 16))) w := fun _ => by kernel_rfl
  have hn0 := noughts_bytes 16
  have F0 := Lib.hid hf
  have hgw := blk_lt hf.cell
  have hq : (n : Int).tdiv 16 = (m : Int) := by
    rw [hn]
    exact congrArg Int.ofNat (Nat.mul_div_cancel_left m (by omega))
  have hlen : (keysOf flat m).length = m := keysOf_len flat m
  have hks := Lib.hid (keysOf_keys hf.ok m)
  have hkg := Lib.hid (fun i hi => keysOf_get flat m i hi)
  have hadd := Lib.hid (show ∀ (k : Nat) (z : Int) (hz : z = (k : Int)) (x : List Nat) (w' : World) (hx : Bytes 16 x) (h : FlatAt w' g cur flat) (hk : k < m), Calls Try.prog 34 #[.agg (bA x), .slice (some ⟨g, 0, none⟩) n cc, .int .i64 z] w' fun e w'' => e = .returned (.agg (bA (xorS x (flatKey flat k)))) ∧ Mod No w' w'' from fun k z hz x w' hx h hk => by rw [hz]; exact added_any g cc k n cur flat x w' hx h (by omega) (by omega) (by omega))
  have hfk := Lib.hid (fun k => flatKey_bytes hf.ok k)
  have hfull := Lib.hid (enc_eq (keysOf flat m) s)
  clear hf hn hfl
  have L0 := Lib.hid (show ((w.alloc (.cells (bA s) 23)).alloc (.cells (bA (noughts 16)) 23)).heap[w.heap.size]? = _ from blk_old (blk_new w (.cells (bA s) 23)))
  have L1 := Lib.hid (show ((w.alloc (.cells (bA s) 23)).alloc (.cells (bA (noughts 16)) 23)).heap[w.heap.size + 1]? = some (.cells (bA (noughts 16)) 23 (0, 0)) from blk_new' _ (by simp))
  have L2 := Lib.hid (((Mod.refl No w).alloc (.cells (bA s) 23)).alloc (.cells (bA (noughts 16)) 23))
  have hmix := Lib.hid mix_enc
  go_enter Try.func17, Try.ntmps17
  go_wp2_with (refine load16w rfl _ rfl w.heap.size rfl 23 s hs.1 L0.out ?_)
  refine (hadd.out 0 0 rfl s _ hs (F0.out.later L2.out (fun x => x)) (by omega)).mono ?_
  rintro e w1 ⟨rfl, hm1⟩
  have J0 := Lib.hid (hm1.blk L0.out (fun x => x))
  have J1 := Lib.hid (hm1.blk L1.out (fun x => x))
  have J2 := Lib.hid (L2.out.then hm1)
  have hs0 : Bytes 16 (xorS s (flatKey flat 0)) := xorS_bytes (hfk.out 0) hs
  rw [hlen, hkg.out 0 (by omega)] at hfull
  generalize xorS s (flatKey flat 0) = s0 at *
  clear hm1 L0 L1 L2
  go_wp2_with (refine store16 rfl _ _ rfl w.heap.size rfl s0 s rfl 23 hs0.1 hs.1 J0.out ?_)
  have M0 := Lib.hid (blk_setRow (cs := bA s0) J0.out)
  have M1 := Lib.hid (blk_setRow_other (cs := bA s0) J1.out (by omega : w.heap.size + 1 ≠ w.heap.size))
  have M2 := Lib.hid (J2.out.setRow w.heap.size (bA s0) (fun h => absurd h (by omega)))
  generalize w1.setRow w.heap.size (bA s0) = w2 at *
  clear J0 J1 J2
  go_wp2_with fail
  go_loopw [6] (fun v wr => ∃ j : Nat, j ≤ m - 1 ∧ v = .int .i64 ((j : Int) + 1) ∧ Mod No w wr ∧ wr.heap[w.heap.size]? = some (.cells (bA (foldUp (encRound (keysOf flat m)) s0 j)) 23 (0, 0)) ∧ wr.heap[w.heap.size + 1]? = some (.cells (bA (noughts 16)) 23 (0, 0))) (fun v _ => m - (intOf v).toNat)
  case atStart => exact ⟨0, by omega, rfl, M2.out, by rw [foldUp_zero]; exact M0.out, M1.out⟩
  case round =>
    clear M0 M1 M2
    obtain ⟨j, hj, rfl, y2, y0, y1⟩ := hrel
    have hcs : Bytes 16 (foldUp (encRound (keysOf flat m)) s0 j) := by
      clear y2 y0 y1 hfull
      induction j with
      | zero => rw [foldUp_zero]; exact hs0
      | succ j ih => rw [foldUp_succ]; exact encRound_bytes hks.out (ih (by omega)) (by omega)
    have hsj := Lib.hid (foldUp_succ (encRound (keysOf flat m)) s0 j)
    generalize hde : foldUp (encRound (keysOf flat m)) s0 j = cs at *
    have hdej := Lib.hid hde
    have z0 := Lib.hid y0
    have z1 := Lib.hid y1
    have z2 := Lib.hid y2
    clear hde y0 y1 y2
    by_cases hlj : j < m - 1
    · have hdj : decide (((j : Nat) : Int) + 1 ≤ (m : Int) - 1) = true := by simp; omega
      obtain ⟨wq, rfl⟩ : ∃ wq : World, wq = wr := ⟨_, rfl⟩
      have z4b := blk_lt z1.out
      have x0 := Lib.hid (blk_old (o' := .cells (bA (noughts 16)) 23) z0.out)
      have x1 := Lib.hid (blk_old (o' := .cells (bA (noughts 16)) 23) z1.out)
      have x3 := Lib.hid (blk_new wq (.cells (bA (noughts 16)) 23))
      have x4 := Lib.hid (z2.out.alloc (.cells (bA (noughts 16)) 23))
      have xs := Lib.hid (show wq.heap.size + 1 ≤ (wq.alloc (.cells (bA (noughts 16)) 23)).heap.size by simp)
      clear z0 z1 z2
      go_wp2_with fail
      generalize wq.alloc (.cells (bA (noughts 16)) 23) = wo at *
      go_loopw [8] (fun v wi => ∃ r : Nat, r ≤ 4 ∧ v = .int .i64 r ∧ Mod No w wi ∧ wq.heap.size + 1 ≤ wi.heap.size ∧ wi.heap[w.heap.size]? = some (.cells (bA cs) 23 (0, 0)) ∧ wi.heap[w.heap.size + 1]? = some (.cells (bA (noughts 16)) 23 (0, 0)) ∧ wi.heap[wq.heap.size]? = some (.cells (bA (foldUp (subRs cs) (noughts 16) r)) 23 (0, 0))) (fun v _ => 4 - (intOf v).toNat)
      case atStart => exact ⟨0, by omega, rfl, x4.out, xs.out, x0.out, x1.out, by rw [foldUp_zero]; exact x3.out⟩
      case round =>
        clear x0 x1 x3 x4 xs
        obtain ⟨r, hr, rfl, y4, ysz, y0, y1, y3⟩ := hrel
        have htr : Bytes 16 (foldUp (subRs cs) (noughts 16) r) := foldUp_inv (noughts_bytes 16) (fun _ i h => subRs_bytes cs h i) r
        have hsr := Lib.hid (foldUp_succ (subRs cs) (noughts 16) r)
        generalize hde : foldUp (subRs cs) (noughts 16) r = tr at *
        have hder := Lib.hid hde
        have z0 := Lib.hid y0
        have z1 := Lib.hid y1
        have z3 := Lib.hid y3
        have z4 := Lib.hid y4
        have zs := Lib.hid ysz
        clear hde y0 y1 y3 y4 ysz
        by_cases hlr : r < 4
        · obtain ⟨wp, rfl⟩ : ∃ wp : World, wp = wr := ⟨_, rfl⟩
          have hrow := Lib.hid (subRs_def cs tr r)
          have hdr1 : decide (((r : Nat) : Int) < 4) = true := by simp; omega
          go_wp2_with fail
          go_loopw [9] (fun v wi => ∃ c : Nat, c ≤ 4 ∧ v = .int .i64 c ∧ Mod No w wi ∧ wq.heap.size + 1 ≤ wi.heap.size ∧ wi.heap[w.heap.size]? = some (.cells (bA cs) 23 (0, 0)) ∧ wi.heap[w.heap.size + 1]? = some (.cells (bA (noughts 16)) 23 (0, 0)) ∧ wi.heap[wq.heap.size]? = some (.cells (bA (foldUp (subRow cs r) tr c)) 23 (0, 0))) (fun v _ => 4 - (intOf v).toNat)
          case atStart => exact ⟨0, by omega, rfl, z4.out, zs.out, z0.out, z1.out, by rw [foldUp_zero]; exact z3.out⟩
          case round =>
            clear z0 z1 z3 z4 zs
            obtain ⟨c, hc, rfl, y4, ysz, y0, y1, y3⟩ := hrel
            have htc : Bytes 16 (foldUp (subRow cs r) tr c) := foldUp_inv htr (fun _ i h => subRow_bytes cs r h i) c
            have hsc := Lib.hid (foldUp_succ (subRow cs r) tr c)
            generalize hde : foldUp (subRow cs r) tr c = tc at *
            have hdec := Lib.hid hde
            have z0 := Lib.hid y0
            have z1 := Lib.hid y1
            have z3 := Lib.hid y3
            have z4 := Lib.hid y4
            have zs := Lib.hid ysz
            clear hde y0 y1 y3 y4 ysz
            by_cases hlc : c < 4
            · have q4 : (c + r) % 4 < 4 := Nat.mod_lt _ (by omega)
              have hst1 := Lib.hid (subRow_def cs r tc c)
              have hm4 : ((c : Int) + (r : Int)).tmod 4 = (((c + r) % 4 : Nat) : Int) := by
                rw [show (c : Int) + (r : Int) = ((c + r : Nat) : Int) by omega]; rfl
              generalize (c + r) % 4 = q at *
              have c1 := byte_cell z0.out (j := r + 4 * q) (by rw [hcs.1]; omega)
              have c2 := byte_cell z3.out (j := r + 4 * c) (by rw [htc.1]; omega)
              have cf : wr.frozen? ⟨wq.heap.size, r + 4 * c, none⟩ = false := blk_free z3.out
              have hxb := hcs.get (r + 4 * q)
              generalize cs.getD (r + 4 * q) 0 = x at *
              go_wp2_with fail
              refine (S_any x hxb _).mono ?_
              rintro e w2 ⟨rfl, rfl⟩
              generalize sbox x = sx at *
              go_wp2_with fail
              go_roundw
              case rel =>
                refine ⟨c + 1, by omega, by go_num, z4.out.setCell (p := ⟨wq.heap.size, r + 4 * c, none⟩) (fun h => absurd h (by have := z4b; simp; omega)) _, ?_, ?_, ?_, ?_⟩
                · simpa [World.setCell] using zs.out
                · exact blk_set_other z0.out (by have := z4b; simp; omega)
                · exact blk_set_other z1.out (by have := z4b; simp; omega)
                · rw [hsc.out, hst1.out]; exact byte_set z3.out
              case measure => simp [intOf]; omega
            · have hc4 : c = 4 := by omega
              have he := Lib.hid (show tc = subRs cs tr r by rw [hrow.out, ← hc4]; exact hdec.out.symm)
              have hdc : decide (((c : Nat) : Int) < 4) = false := by simp; omega
              clear hdec hsc hc4 hlc hc
              go_wp2_with fail
              go_roundw
              case rel => exact ⟨r + 1, by omega, by go_num, z4.out, zs.out, z0.out, z1.out, by rw [hsr.out, ← he.out]; exact z3.out⟩
              case measure => simp [intOf]; omega
        · have hr4 : r = 4 := by omega
          have he := Lib.hid (show tr = subS cs by rw [← subR_eq hcs, subR_def, ← hr4]; exact hder.out.symm)
          have hdr : decide (((r : Nat) : Int) < 4) = false := by simp; omega
          clear hder hsr hr4 hlr hr
          obtain ⟨wm, rfl⟩ : ∃ wm : World, wm = wr := ⟨_, rfl⟩
          have hts : Bytes 16 tr := htr
          by_cases hmx : j + 2 < m
          · have hd2 : decide (((j : Nat) : Int) + 1 < (m : Int) - 1) = true := by simp; omega
            have hmxh := Lib.hid hmx
            clear hmx
            go_wp2_with (refine load16w rfl _ rfl wq.heap.size rfl 23 tr htr.1 z3.out ?_)
            refine (hmix.out tr _ htr).mono ?_
            rintro e w4 ⟨rfl, hm4⟩
            have J0 := Lib.hid (hm4.blk z0.out (fun x => x))
            have J1 := Lib.hid (hm4.blk z1.out (fun x => x))
            have J3 := Lib.hid (hm4.blk z3.out (fun x => x))
            have J4 := Lib.hid (z4.out.then hm4)
            have hmt : Bytes 16 (mixS tr) := mixS_bytes htr
            have hmd := Lib.hid (show mixS tr = mixS (subS cs) by rw [he.out])
            generalize mixS tr = mt at *
            clear z0 z1 z3 z4 hm4
            go_wp2_with (refine store16 rfl _ _ rfl wq.heap.size rfl mt tr rfl 23 hmt.1 htr.1 J3.out ?_; refine hold ?_)
            unfold Hold
            have I0 := Lib.hid (blk_setRow_other (cs := bA mt) J0.out (by have := z4b; omega : w.heap.size ≠ wq.heap.size))
            have I1 := Lib.hid (blk_setRow_other (cs := bA mt) J1.out (by have := z4b; omega : w.heap.size + 1 ≠ wq.heap.size))
            have I3 := Lib.hid (blk_setRow (cs := bA mt) J3.out)
            have I4 := Lib.hid (J4.out.setRow wq.heap.size (bA mt) (fun h => absurd h (by have := z4b; omega)))
            generalize w4.setRow wq.heap.size (bA mt) = w4 at *
            clear J0 J1 J3 J4
            go_wp2_with (refine load16w rfl _ rfl wq.heap.size rfl 23 mt hmt.1 I3.out ?_)
            refine (hadd.out (j + 1) ((j : Int) + 1) (by omega) mt _ hmt (F0.out.later I4.out (fun x => x)) (by omega)).mono ?_
            rintro e w5 ⟨rfl, hm5⟩
            have K0 := Lib.hid (hm5.blk I0.out (fun x => x))
            have K1 := Lib.hid (hm5.blk I1.out (fun x => x))
            have K2 := Lib.hid (I4.out.then hm5)
            have hr5 : Bytes 16 (xorS mt (flatKey flat (j + 1))) := xorS_bytes (hfk.out (j + 1)) hmt
            have hro := Lib.hid (show encRound (keysOf flat m) cs j = xorS mt (flatKey flat (j + 1)) by rw [encRound_eq, hlen, hkg.out _ (by omega), if_pos hmxh.out, hmd.out])
            generalize xorS mt (flatKey flat (j + 1)) = x5 at *
            clear hm5
            go_wp2_with (refine store16 rfl _ _ rfl w.heap.size rfl x5 cs rfl 23 hr5.1 hcs.1 K0.out ?_)
            have M0 := Lib.hid (blk_setRow (cs := bA x5) K0.out)
            have M1 := Lib.hid (blk_setRow_other (cs := bA x5) K1.out (by omega : w.heap.size + 1 ≠ w.heap.size))
            have M2 := Lib.hid (K2.out.setRow w.heap.size (bA x5) (fun h => absurd h (by omega)))
            generalize w5.setRow w.heap.size (bA x5) = w6 at *
            clear K0 K1 K2
            go_wp2_with fail
            go_roundw
            case rel => exact ⟨j + 1, by omega, by go_num, M2.out, by rw [hsj.out, hro.out]; exact M0.out, M1.out⟩
            case measure => simp [intOf]; omega
          · have hd2 : decide (((j : Nat) : Int) + 1 < (m : Int) - 1) = false := by simp; omega
            have hmxh := Lib.hid hmx
            clear hmx
            clear hts
            go_wp2_with (refine load16w rfl _ rfl wq.heap.size rfl 23 tr htr.1 z3.out ?_)
            refine (hadd.out (j + 1) ((j : Int) + 1) (by omega) tr _ htr (F0.out.later z4.out (fun x => x)) (by omega)).mono ?_
            rintro e w5 ⟨rfl, hm5⟩
            have K0 := Lib.hid (hm5.blk z0.out (fun x => x))
            have K1 := Lib.hid (hm5.blk z1.out (fun x => x))
            have K2 := Lib.hid (z4.out.then hm5)
            have hr5 : Bytes 16 (xorS tr (flatKey flat (j + 1))) := xorS_bytes (hfk.out (j + 1)) htr
            have hro := Lib.hid (show encRound (keysOf flat m) cs j = xorS tr (flatKey flat (j + 1)) by rw [encRound_eq, hlen, hkg.out _ (by omega), if_neg hmxh.out, he.out])
            generalize xorS tr (flatKey flat (j + 1)) = x5 at *
            clear hm5
            go_wp2_with (refine store16 rfl _ _ rfl w.heap.size rfl x5 cs rfl 23 hr5.1 hcs.1 K0.out ?_)
            have M0 := Lib.hid (blk_setRow (cs := bA x5) K0.out)
            have M1 := Lib.hid (blk_setRow_other (cs := bA x5) K1.out (by omega : w.heap.size + 1 ≠ w.heap.size))
            have M2 := Lib.hid (K2.out.setRow w.heap.size (bA x5) (fun h => absurd h (by omega)))
            generalize w5.setRow w.heap.size (bA x5) = w6 at *
            clear K0 K1 K2
            go_wp2_with fail
            go_roundw
            case rel => exact ⟨j + 1, by omega, by go_num, M2.out, by rw [hsj.out, hro.out]; exact M0.out, M1.out⟩
            case measure => simp [intOf]; omega
    · have hdj : decide (((j : Nat) : Int) + 1 ≤ (m : Int) - 1) = false := by simp; omega
      have hjm : j = m - 1 := by omega
      have hend := Lib.hid (show enc (keysOf flat m) s = cs by rw [hfull.out, ← hjm]; exact hdej.out)
      have hrs := Lib.hid (blk_setRow (cs := bA cs) z1.out)
      clear hdej hsj
      go_wp2_with (first
        | (refine load16w rfl _ rfl w.heap.size rfl 23 cs hcs.1 z0.out ?_)
        | (refine store16 rfl _ _ rfl (w.heap.size + 1) rfl cs (noughts 16) rfl 23 hcs.1 hn0.1 z1.out ?_))
      refine bodyPost_ret (v := .agg (bA cs)) (ret16 rfl _ _ (w.heap.size + 1) 23 cs rfl hcs.1 hrs.out) rfl ⟨by rw [hend.out], z2.out.setRow _ _ (fun h => absurd h (by omega))⟩
end Go.Proofs.Ytkbkobekndfapaa
