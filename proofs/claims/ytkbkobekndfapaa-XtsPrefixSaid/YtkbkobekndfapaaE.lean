/- What Encrypt of package aes does: its contract. -/
import Derived.Test.YtkbkobekndfapaaL1
import Derived.Test.YtkbkobekndfapaaV
import Derived.Test.YtkbkobekndfapaaW
import Derived.Deep.DeepCutAuto
namespace Go.Proofs.Ytkbkobekndfapaa
open Go.RowKit

set_option maxRecDepth 100000 in
set_option maxHeartbeats 2000000 in
theorem encrypt_any (pb kb cap : Nat) (cur : Array Value) (ks : List (List Nat)) (s : List Nat) (w : World) (hs : Bytes 16 s) (hc : CipherAt w pb kb cap cur ks) :
    Calls Try.prog 16 #[.pointer (some ⟨pb, 0, none⟩), .agg (bA s)] w fun e w' => e = .returned (.agg (bA (enc ks s))) ∧ Mod No w w' := by
  have hz : ∀ w, (zeroValue 23).run Try.prog w = .ok (.agg (bA (noughts 16))) w := fun _ => by kernel_rfl
  have e0 := hc.slice
  have hc1 := Lib.hid hc
  have hle := hc.le
  have htwo := hc.two
  have hfew : cap ≤ 9223372036854775807 := by have := hc.few; unfold maxLen at this; omega
  have hpb : pb < w.heap.size := blk_lt hc.cell
  have hkb : kb < w.heap.size := blk_lt hc.keys
  clear hc
  have h0 := hc1.out.get (i := 0) (by omega)
  have r0 := hc1.out.row (i := 0) (by omega)
  have hk0 := Lib.hid h0
  have hr0 := Lib.hid r0
  clear h0 r0
  have hfold := enc_eq ks s
  have hfold1 := Lib.hid hfold
  clear hfold
  have hs0 : Bytes 16 (xorS s (ks.getD 0 [])) := xorS_bytes hk0.out hs
  generalize hs0e : xorS s (ks.getD 0 []) = s0 at *
  generalize ks.getD 0 [] = k0 at *
  have hs0e1 := Lib.hid hs0e
  clear hs0e
  go_enter Try.func16, Try.ntmps16
  go_wp2_with (refine load16 rfl _ rfl kb 0 rfl 23 cur k0 hk0.out.1 (blk_old (blk_old hc1.out.keys)) hr0.out ?_)
  refine (xor_any w.heap.size 23 s k0 _ hs hk0.out (blk_old (blk_new _ _))).mono ?_
  rintro e w1 ⟨rfl, hm1, hb1⟩
  rw [hs0e1.out] at hb1
  have hres := hm1.blk (b := w.heap.size + 1) (by have := blk_new (w.alloc (.cells (bA s) 23)) (.cells (bA (noughts 16)) 23); simpa using this) (not_just (by omega))
  have hsz1 := hm1.size
  have hm2 : Mod No w w1 := (((Mod.refl No w).alloc _).alloc _).fresh hm1 (Nat.le_refl _)
  clear hm1
  have hc2 := hc1.out.later hm2 (fun x => x) (fun x => x)
  have e1 := hc2.slice
  have H2 := Lib.hid hm2
  have HB := Lib.hid hb1
  have HR := Lib.hid hres
  have HC := Lib.hid hc2
  clear hm2 hb1 hres hc2 e0
  go_wp2_with fail
  go_loopw [26] (fun v wr => ∃ j : Nat, j ≤ ks.length - 1 ∧ v = .int .i64 j ∧ Mod No w wr ∧ w.heap.size + 2 ≤ wr.heap.size ∧
      wr.heap[w.heap.size]? = some (.cells (bA (foldUp (encRound ks) s0 j)) 23 (0, 0)) ∧ wr.heap[w.heap.size + 1]? = some (.cells (bA (noughts 16)) 23 (0, 0))) (fun v _ => ks.length - 1 - (intOf v).toNat)
  case atStart => exact ⟨0, by omega, rfl, H2.out, by simp at hsz1; omega, by rw [foldUp_zero]; exact HB.out, HR.out⟩
  case round =>
    clear e1 H2 HB HR HC
    obtain ⟨j, hj, rfl, hmr, hsz, hb0, hr⟩ := hrel
    have hmr1 := Lib.hid hmr
    have hb01 := Lib.hid hb0
    have hr1 := Lib.hid hr
    have hcr := Lib.hid (hc1.out.later hmr (fun x => x) (fun x => x))
    have er := hcr.out.slice
    clear hmr hb0 hr
    have hcs : Bytes 16 (foldUp (encRound ks) s0 j) := by
      clear hfold1 hb01 er hcr hmr1 hr1
      induction j with
      | zero => rw [foldUp_zero]; exact hs0
      | succ j ih => rw [foldUp_succ]; exact encRound_bytes ⟨rfl, hc1.out.ok⟩ (ih (by omega)) (by omega)
    have hsucc := Lib.hid (foldUp_succ (encRound ks) s0 j)
    generalize hce : foldUp (encRound ks) s0 j = cs at *
    have hce1 := Lib.hid hce
    clear hce
    by_cases hlt : j < ks.length - 1
    · have hkj := Lib.hid (hc1.out.get (i := j + 1) (by omega))
      have hrj : ∀ t v, (bA (ks.getD (j + 1) []))[t]? = some v → cur[16 + j * 16 + t]? = some v := by
        intro t v hv
        have := hc1.out.row (i := j + 1) (by omega) t v hv
        rwa [show 16 * (j + 1) = 16 + j * 16 from by omega] at this
      have hrj1 := Lib.hid hrj
      clear hrj
      have hround := encRound_eq ks cs j
      have hround1 := Lib.hid hround
      clear hround
      generalize ks.getD (j + 1) [] = kj at *
      go_wp2_with (first
        | (refine load16 rfl _ rfl kb _ rfl 23 cur kj hkj.out.1 (hcr.out.keys) hrj1.out ?_)
        | (refine store16 rfl _ _ rfl wr.heap.size rfl kj (noughts 16) rfl 23 hkj.out.1 (noughts_bytes 16).1 (blk_new _ _) ?_; rw [alloc_setRow])
        | (refine load16w rfl _ rfl w.heap.size rfl 23 cs hcs.1 (blk_old hb01.out) ?_)
        | (refine store16 rfl _ _ rfl (wr.heap.size + 1) rfl cs (noughts 16) rfl 23 hcs.1 (noughts_bytes 16).1 (blk_new' _ (by simp)) ?_; rw [alloc_setRow' _ _ _ (by simp)]))
      obtain ⟨wq, rfl⟩ : ∃ wq : World, wq = wr := ⟨_, rfl⟩
      have x0 := Lib.hid (blk_old (o' := .cells (bA cs) 23) (blk_old (o' := .cells (bA kj) 23) hb01.out))
      have x1 := Lib.hid (blk_old (o' := .cells (bA cs) 23) (blk_old (o' := .cells (bA kj) 23) hr1.out))
      have x2 := Lib.hid (blk_old (o' := .cells (bA cs) 23) (blk_new wq (.cells (bA kj) 23)))
      have x3 := Lib.hid (blk_new' (w := wq.alloc (.cells (bA kj) 23)) (g := wq.heap.size + 1) (.cells (bA cs) 23) (by simp))
      have x4 := Lib.hid (((hmr1.out).alloc (.cells (bA kj) 23)).alloc (.cells (bA cs) 23))
      have xsz : ((wq.alloc (.cells (bA kj) 23)).alloc (.cells (bA cs) 23)).heap.size = wq.heap.size + 2 := by simp
      have xsz1 := Lib.hid xsz
      clear xsz er
      generalize (wq.alloc (.cells (bA kj) 23)).alloc (.cells (bA cs) 23) = wo at *
      go_loopw [32] (fun v wi => ∃ i : Nat, i ≤ 16 ∧ v = .int .i64 i ∧ Mod No w wi ∧ wq.heap.size + 2 ≤ wi.heap.size ∧
        wi.heap[w.heap.size]? = some (.cells (bA (foldUp (subStep cs) cs i)) 23 (0, 0)) ∧ wi.heap[w.heap.size + 1]? = some (.cells (bA (noughts 16)) 23 (0, 0)) ∧
        wi.heap[wq.heap.size]? = some (.cells (bA kj) 23 (0, 0)) ∧ wi.heap[wq.heap.size + 1]? = some (.cells (bA cs) 23 (0, 0))) (fun v _ => 16 - (intOf v).toNat)
      case atStart => exact ⟨0, by omega, rfl, x4.out, by rw [xsz1.out]; exact Nat.le_refl _, by rw [foldUp_zero]; exact x0.out, x1.out, x2.out, x3.out⟩
      case round =>
        clear x0 x1 x2 x3 x4 xsz1
        obtain ⟨i, hi, rfl, y4, ysz, y0, y1, y2, y3⟩ := hrel
        have hcu : Bytes 16 (foldUp (subStep cs) cs i) := foldUp_inv hcs (fun _ i h => subStep_bytes cs h i) i
        have hsu := Lib.hid (foldUp_succ (subStep cs) cs i)
        generalize hde : foldUp (subStep cs) cs i = cu at *
        have hde1 := Lib.hid hde
        have z0 := Lib.hid y0
        have z1 := Lib.hid y1
        have z2 := Lib.hid y2
        have z3 := Lib.hid y3
        have z4 := Lib.hid y4
        clear hde y0 y1 y2 y3 y4
        by_cases hli : i < 16
        ·
          -- <R2
          have q2 : (i + 4 * (i % 4)) % 16 < 16 := Nat.mod_lt _ (by omega)
          have cT : ∀ x : Later No wr, x.to.cell? ⟨wq.heap.size + 1, (i + 4 * (i % 4)) % 16, none⟩ = some (.int .u8 ((cs.getD ((i + 4 * (i % 4)) % 16) 0 : Nat) : Int)) :=
            fun x => byte_cell (x.ok.blk z3.out (fun x => x)) (by rw [hcs.1]; exact q2)
          have hix := run_index_table sboxL sboxL_bytes.1 _ (hcs.get ((i + 4 * (i % 4)) % 16))
          have hst : subStep cs cu i = cu.set i (sboxL.getD (cs.getD ((i + 4 * (i % 4)) % 16) 0) 0) := by rw [subStep_eq, sbox_eq]
          have hst1 := Lib.hid hst
          clear hst
          generalize sboxL.getD (cs.getD ((i + 4 * (i % 4)) % 16) 0) 0 = sv at *
          generalize cs.getD ((i + 4 * (i % 4)) % 16) 0 = tv at *
          go_wp2_with fail
          refine wp_region_later 12 (by kernel_rfl) (by kernel_rfl) ?_
          simp only [List.take_succ_cons, List.take_zero, List.drop_succ_cons, List.drop_zero]
          repeat (go_big_quiet_step (exact through_later _))
          refine wpQuiet_nil ?_
          intro x
          have xf : x.to.frozen? ⟨w.heap.size, i, none⟩ = false := blk_free (x.ok.blk z0.out (fun x => x))
          have xc := byte_cell (x.ok.blk z0.out (fun x => x)) (j := i) (by rw [hcu.1]; omega)
          go_wp2_with fail
          go_roundw
          case rel =>
            have m1 := z4.out.then x.ok
            refine ⟨i + 1, by omega, by go_num, m1.setCell (p := ⟨w.heap.size, i, none⟩) (fun h => absurd h (by simp)) _, ?_, ?_, ?_, ?_, ?_⟩
            · have := x.ok.size; simp [World.setCell]; omega
            · rw [hsu.out, hst1.out]; exact byte_set (x.ok.blk z0.out (fun x => x))
            · exact blk_set_other (x.ok.blk z1.out (fun x => x)) (by simp)
            · exact blk_set_other (x.ok.blk z2.out (fun x => x)) (by simp; omega)
            · exact blk_set_other (x.ok.blk z3.out (fun x => x)) (by simp; omega)
          case measure => simp [intOf]; omega
          -- R2>
        · have hi16 : i = 16 := by omega
          have hcuS : cu = subS cs := by rw [subS_eq, ← hi16]; exact hde1.out.symm
          have hcuS1 := Lib.hid hcuS
          have hdec : decide (((i : Nat) : Int) < 16) = false := by simp; omega
          clear hcuS hde1 hsu hi hi16 hli
          obtain ⟨wm, rfl⟩ : ∃ wm : World, wm = wr := ⟨_, rfl⟩
          have ec := (hc1.out.later z4.out (fun x => x) (fun x => x)).slice
          by_cases hmx : j + 2 < ks.length
          · have hd2 : decide (((j : Nat) : Int) + 2 < (ks.length : Int)) = true := by simp; omega
            have hmx1 := Lib.hid hmx
            clear hmx
            go_wp2_with fail
            go_loopw [9] (fun v wi => ∃ c : Nat, c ≤ 4 ∧ v = .int .i64 ((4 * c : Nat) : Int) ∧ Mod No w wi ∧ wq.heap.size + 2 ≤ wi.heap.size ∧
              wi.heap[w.heap.size]? = some (.cells (bA (foldUp (fun s c => mixAt s (4 * c)) cu c)) 23 (0, 0)) ∧ wi.heap[w.heap.size + 1]? = some (.cells (bA (noughts 16)) 23 (0, 0)) ∧
              wi.heap[wq.heap.size]? = some (.cells (bA kj) 23 (0, 0))) (fun v _ => 16 - (intOf v).toNat)
            case atStart => exact ⟨0, by omega, rfl, z4.out, ysz, by rw [foldUp_zero]; exact z0.out, z1.out, z2.out⟩
            case round =>
              clear z0 z1 z2 z3 z4 ec ysz
              obtain ⟨c, hc, rfl, y4, ysz, y0, y1, y2⟩ := hrel
              have hcm : Bytes 16 (foldUp (fun s c => mixAt s (4 * c)) cu c) := foldUp_inv hcu (fun _ _ h => mixAt_bytes h _) c
              have hsu := Lib.hid (foldUp_succ (fun s c => mixAt s (4 * c)) cu c)
              generalize hde : foldUp (fun s c => mixAt s (4 * c)) cu c = cm at *
              have hde1 := Lib.hid hde
              have z0 := Lib.hid y0
              have z1 := Lib.hid y1
              have z2 := Lib.hid y2
              have z4 := Lib.hid y4
              clear hde y0 y1 y2 y4
              by_cases hlc : c < 4
              · have hsl := run_slice16 (c := c) hlc
                go_wp2_with fail
                refine (mix_any w.heap.size (4 * c) _ 23 cm 16 _ hcm (by omega) (by omega) z0.out).mono ?_
                rintro e w2 ⟨rfl, n4, n0⟩
                have hsz2 := n4.size
                have u4 := Lib.hid (z4.out.fresh n4 (Nat.le_refl _))
                have u1 := Lib.hid (n4.blk z1.out (not_just (by omega)))
                have u2 := Lib.hid (n4.blk z2.out (not_just (by omega)))
                have u0 := Lib.hid n0
                clear n4 n0 hsl
                go_wp2_with fail
                go_roundw
                case rel =>
                  exact ⟨c + 1, by omega, by go_num, u4.out, by omega, by rw [hsu.out]; exact u0.out, u1.out, u2.out⟩
                case measure => simp [intOf]; omega
              · obtain rfl : c = 4 := by omega
                have hmS : cm = mixS cu := by rw [mixS_eq]; exact hde1.out.symm
                rw [hcuS1.out] at hmS
                rw [if_pos hmx1.out, ← hmS] at hround1
                clear hde1 hsu
                go_wp2_with (refine load16w rfl _ rfl wq.heap.size rfl 23 kj hkj.out.1 z2.out ?_)
                refine (xor_any w.heap.size 23 cm kj _ hcm hkj.out z0.out).mono ?_
                rintro e w2 ⟨rfl, n4, n0⟩
                have hsz2 := n4.size
                have u4 := Lib.hid (z4.out.fresh n4 (Nat.le_refl _))
                have u1 := Lib.hid (n4.blk z1.out (not_just (by omega)))
                have u0 := Lib.hid n0
                clear n4 n0
                go_wp2_with fail
                go_roundw
                case rel => exact ⟨j + 1, by omega, by go_num, u4.out, by omega, by rw [hsucc.out, hround1.out]; exact u0.out, u1.out⟩
                case measure => simp [intOf]; omega
          · rw [if_neg hmx, ← hcuS1.out] at hround1
            go_wp2_with (refine load16w rfl _ rfl wq.heap.size rfl 23 kj hkj.out.1 z2.out ?_)
            refine (xor_any w.heap.size 23 cu kj _ hcu hkj.out z0.out).mono ?_
            rintro e w2 ⟨rfl, n4, n0⟩
            have hsz2 := n4.size
            have u4 := Lib.hid (z4.out.fresh n4 (Nat.le_refl _))
            have u1 := Lib.hid (n4.blk z1.out (not_just (by omega)))
            have u0 := Lib.hid n0
            clear n4 n0 ec
            go_wp2_with fail
            go_roundw
            case rel => exact ⟨j + 1, by omega, by go_num, u4.out, by omega, by rw [hsucc.out, hround1.out]; exact u0.out, u1.out⟩
            case measure => simp [intOf]; omega
    · obtain rfl : j = ks.length - 1 := by omega
      have hend : enc ks s = cs := by rw [hfold1.out]; exact hce1.out
      have hend1 := Lib.hid hend
      clear hend hfold1 hsucc hce1
      have hrs := Lib.hid (blk_setRow (cs := bA cs) hr1.out)
      go_wp2_with (first
        | (refine load16w rfl _ rfl w.heap.size rfl 23 cs hcs.1 hb01.out ?_)
        | (refine store16 rfl _ _ rfl (w.heap.size + 1) rfl cs (noughts 16) rfl 23 hcs.1 (noughts_bytes 16).1 hr1.out ?_))
      refine bodyPost_ret (v := .agg (bA cs)) (ret16 rfl _ _ (w.heap.size + 1) 23 cs rfl hcs.1 hrs.out) rfl ⟨by rw [hend1.out], hmr1.out.setRow _ _ (fun h => absurd h (by omega))⟩
end Go.Proofs.Ytkbkobekndfapaa
