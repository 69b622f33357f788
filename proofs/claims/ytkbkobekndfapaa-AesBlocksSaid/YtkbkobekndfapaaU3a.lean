/- AesBlocks: the walk. -/
import Derived.Test.YtkbkobekndfapaaI9
import Derived.WalkKit
namespace Go.Proofs.Ytkbkobekndfapaa
open Go.RowKit

set_option maxRecDepth 100000 in
set_option maxHeartbeats 8000000 in
theorem blocks_walk (a : Option Addr) (len cap : Nat) (key b : List Nat) (w : World) (hk : BytesAt w a len cap key) (hnil : a = none → len = 0 ∧ cap = 0) (hb : Bytes 16 b) (hlen : len ≤ 140737488351232) :
    Calls Try.prog 3 #[.slice a len cap, .agg (bA b)] w fun e w' => e = .returned (.bool true) ∧ Mod No w w' := by
  obtain ⟨i5, hi5, hz5, hs5, hb5⟩ := info_parts info5
  have HK := Lib.hid hk
  have hks := hk.size
  have A0 := Lib.hid (show ((w.alloc (.cells (bA b) 23)).alloc (.cells #[] 5)).heap[w.heap.size]? = some (.cells (bA b) 23 (0, 0)) from blk_old (blk_new _ _))
  have A1 := Lib.hid (((Mod.refl No w).alloc (.cells (bA b) 23)).alloc (.cells #[] 5))
  have A2 := Lib.hid (show ((w.alloc (.cells (bA b) 23)).alloc (.cells #[] 5)).ownsRow (w.heap.size + 1) 5 1 (.slice (some ⟨w.heap.size + 1, 0, none⟩) 0 0) 0 [] from ⟨rfl, .inr ⟨w.heap.size + 1, 0, #[], rfl, Nat.le_refl _, blk_new' _ (by simp), Nat.le_refl _, Nat.zero_le _, rfl, rfl⟩⟩)
  have A3 := Lib.hid (show BytesAt ((w.alloc (.cells (bA b) 23)).alloc (.cells #[] 5)) a len cap key from hk.later A1.out)
  have A4 : w.heap.size + 1 ≤ ((w.alloc (.cells (bA b) 23)).alloc (.cells #[] 5)).heap.size := by simp
  clear hk
  go_enter Try.func3, Try.ntmps3
  go_wp2_with (refine append_bytes rfl (.tmp 11) (.tmp 12) rfl (w.heap.size + 1) (.slice (some ⟨w.heap.size + 1, 0, none⟩) 0 0) 0 [] rfl A2.out a len cap key rfl A3.out hnil (by omega) A4 ?_; refine hold ?_)
  unfold Hold
  intro v1 w1 o1 m1
  have B0 := Lib.hid (m1.blk A0.out (fun h => absurd (show w.heap.size + 1 = w.heap.size by injection h) (by omega)))
  have B1 := Lib.hid (show Mod No w w1 from A1.out.trans m1 (fun i hi h => absurd (show w.heap.size + 1 = i by injection h) (by omega)))
  have B2 := Lib.hid o1
  have B3 := Lib.hid (show BytesAt w1 a len cap key from HK.out.later B1.out)
  have B4 : w.heap.size + 1 ≤ w1.heap.size := by have := m1.size; simp at this; omega
  have hnr : ∀ k, v1.ownBlock = some k → w.heap.size + 1 ≤ k := fun k h => (o1.lt k h).1
  clear A0 A1 A2 A3 A4 o1 m1
  go_wp2_with (at_builtin; refine wpList_append_own _ rfl (.tmp 13) (.tmp 14) 22 rfl (w.heap.size + 1) 5 i5 (.int .u8 0) 1 1 Try.underlying22 hi5 hz5 hs5 hb5 rfl (by omega) v1 len _ rfl (B2.out.alloc (.cells #[bv 77] 5)) ⟨w1.heap.size, 0, none⟩ 1 1 [bv 77] rfl rfl (new_one w1 _ (bv 77) 5 rfl) (fun u hu => by simp at hu; subst hu; rfl) (by unfold maxLen; omega) (by omega) (by simp; omega) ?_; refine hold ?_)
  unfold Hold
  intro v2 w2 o2 g2 _
  have C0 := Lib.hid ((g2.block w.heap.size (by simp; omega) (fun e => absurd (hnr _ e.symm) (by omega))).trans (blk_old (o' := .cells #[bv 77] 5) B0.out))
  have C1 := Lib.hid (show Mod No w w2 from (B1.out.alloc (.cells #[bv 77] 5)).grown g2 (fun k hk hlt => absurd hlt (by have := hnr k hk; omega)))
  have o3 : w2.ownsRow (w.heap.size + 1) 5 1 v2 (len + 1) (bL (key ++ [77])) := by rw [bL_append]; exact o2
  obtain ⟨g, cp, rfl, hg, hgl, hcp, hcp2⟩ := own_slice o3 (by omega)
  obtain ⟨cu, hcu, hcg⟩ := World.ownsRow.form o3
  have hcl : len + 1 ≤ cu.size := by
    have := hcg len (by omega)
    have := (Array.getElem?_eq_some_iff.1 this).1
    omega
  have C2 := Lib.hid hcu
  have C3 := Lib.hid (HK.out.later C1.out)
  have C4 := Lib.hid (show BytesAt w2 (some ⟨g, 0, none⟩) len cp key from ⟨hks, HK.out.ok, .inr ⟨g, 0, rfl, fun j hj => by
    rw [Nat.zero_add, blk_cell hcu (hcg j (by omega))]
    simp [List.getD, List.getElem?_append_left (show j < key.length by omega)]⟩⟩)
  have C5 := Lib.hid (show w2.cell? ⟨g, len, none⟩ = some (.int .u8 77) by
    rw [blk_cell hcu (hcg len (by omega))]
    simp [List.getD, ← hks])
  have hcp3 : cp ≤ 9223372036854775807 := by unfold maxLen at hcp2; omega
  clear B0 B1 B2 B3 B4 hnr o2 g2 o3 hcu hcg
  have hsame : ∀ wx, Mod No w2 wx → Calls Try.prog 14 #[.slice (some ⟨g, 0, none⟩) len cp, .slice a len cap] wx fun e w' => e = .returned (.bool true) ∧ wx = w' := fun wx hm => by
    have := same_any (some ⟨g, 0, none⟩) a len len cp cap key key wx (C4.out.later hm) (C3.out.later hm)
    rwa [decide_eq_true rfl] at this
  have HS := Lib.hid hsame
  clear hsame HK
  by_cases hn : len = 16 ∨ len = 32
  · have hN := Lib.hid (fun wx (hm : Mod No w2 wx) => new_ok len g 0 cp hn key wx (C4.out.later hm) (by omega) hcp2)
    have hY := Lib.hid (fun wx (hm : Mod No w2 wx) => keys_ok len cap a hn key wx (C3.out.later hm))
    have hfl := flatOf_ok C4.out.ok (by rw [hks]; exact hn)
    rw [hks] at hfl
    have hmm := mOf_in len
    generalize flatOf key = flat at *
    generalize mOf len = m at *
    obtain ⟨nn, hnn⟩ : ∃ nn, nn = 16 * m := ⟨_, rfl⟩
    rw [← hnn] at hY hfl
    have HN := Lib.hid hnn
    have hk2 := keysOf_keys hfl.2 m
    have e0 : ((nn : Int) == 0) = false := by simp; omega
    have e1 : ¬ ((nn : Int) = 0) := by omega
    have hlen2 : len ≤ 32 := by omega
    clear hnn
    go_wp2_with fail
    refine (hN.out _ (Mod.refl _ _)).mono ?_
    rintro e w3 ⟨pb, kb, c, cur, rfl, hm3, hpb, hkb, hci⟩
    have D0 := Lib.hid (hm3.blk C0.out (fun x => x))
    have D1 := Lib.hid (C1.out.then hm3)
    have D2 := Lib.hid (hm3.blk C2.out (fun x => x))
    have D3 := Lib.hid hm3
    have D4 := Lib.hid hci
    have hs3 := hm3.size
    clear hm3 hci C0 C1 C2
    go_wp2_with fail
    refine (hY.out _ D3.out).mono ?_
    rintro e w4 ⟨gk, ck, cuk, rfl, hm4, hgk, hfk⟩
    have E0 := Lib.hid (hm4.blk D0.out (fun x => x))
    have E1 := Lib.hid (D1.out.then hm4)
    have E2 := Lib.hid (hm4.blk D2.out (fun x => x))
    have E3 := Lib.hid (D3.out.then hm4)
    have E4 := Lib.hid (D4.out.later hm4 (fun x => x) (fun x => x))
    have E5 := Lib.hid hfk
    have E6 := Lib.hid (show w4.cell? ⟨g, len, none⟩ = some (.int .u8 77) by rw [World.cell?_of_block (w := w2) (E3.out.block _ hgl (fun x => x))]; exact C5.out)
    have hs4 := hm4.size
    clear hm4 hfk D0 D1 D2 D3 D4 C5 hN hY
    go_wp2_with fail
    refine (HS.out _ E3.out).mono ?_
    rintro e w5 ⟨rfl, rfl⟩
    have E7 := E6.out
    go_wp2_with fail
    clear E7 E6 C3 C4 HS
    go_loopw [10] (fun v wi => ∃ i : Nat, i ≤ len ∧ v = .int .i64 i ∧ Mod (Just g) w4 wi ∧ ∃ cz, wi.heap[g]? = some (.cells cz 5 (0, 0)) ∧ len + 1 ≤ cz.size) (fun v _ => len - (intOf v).toNat)
    case atStart => exact ⟨0, by omega, rfl, Mod.refl _ _, cu, E2.out, hcl⟩
    case round =>
      obtain ⟨i, hi, rfl, y2, cz, y0, hcz⟩ := hrel
      have z0 := Lib.hid y0
      have z2 := Lib.hid y2
      clear y0 y2
      by_cases hli : i < len
      · obtain ⟨vo, hvo⟩ : ∃ vo, cz[i]? = some vo := ⟨cz[i], by simp⟩
        have xc := blk_cell (j := i) z0.out hvo
        have xf : wr.frozen? ⟨g, i, none⟩ = false := blk_free z0.out
        clear hvo
        go_wp2_with fail
        go_roundw
        case rel =>
          refine ⟨i + 1, by omega, by go_num, z2.out.setCell (p := ⟨g, i, none⟩) (fun _ => (rfl : g = g)) _, _, blk_set (.int .u8 99) z0.out, by simpa using hcz⟩
        case measure => simp [intOf]; omega
      · have hil : i = len := by omega
        have hd : decide (((i : Nat) : Int) < (len : Int)) = false := by simp; omega
        have P0 := Lib.hid (z2.out.blk E0.out (not_just (by omega)))
        have P1 := Lib.hid (show Mod No w wr from E1.out.trans z2.out (fun k hk h => absurd (show k = g from h) (by omega)))
        have P2 := E4.out.later z2.out (not_just (by omega)) (not_just (by omega))
        have P3 := E5.out.later z2.out (not_just (by omega))
        have a1 := Lib.hid (fun y : Later No wr => encrypt_later hb P2 y)
        have a2 := Lib.hid (fun y : Later No wr => decrypt_later hb P2 y)
        have a3 := Lib.hid (fun y : Later No wr => refenc_later (cc := ck) hb P3 hfl.1 HN.out hmm.1 hmm.2 y)
        have a4 := Lib.hid (fun y : Later No wr => refdec_later (cc := ck) hb P3 hfl.1 HN.out hmm.1 hmm.2 y)
        have a5 := Lib.hid (fun y : Later No wr => alive_later y)
        have x1 := enc_bytes hk2 (by omega) hb
        have x2 := dec_bytes hk2 (by omega) hb
        generalize enc (keysOf flat m) b = xe at *
        generalize dec (keysOf flat m) b = xd at *
        have q1 := run_eq16 xe xe x1.1 x1.1
        have q2 := run_eq16 xd xd x2.1 x2.1
        rw [decide_eq_true rfl] at q1 q2
        clear P2 P3 E0 E1 E2 E3 E4 E5 z0 z2 hk2 hfl hcz
        go_wp2_with fail
        refine wp_region_laters (by kernel_rfl) (by kernel_rfl) ?_
        iterate 3 (go_big_quiet_step (exact a5.out _))
        (refine quiet_load16 rfl _ rfl w.heap.size 0 rfl 23 (bA b) b hb.1 (fun w ⟨y, hy⟩ => by rw [hy]; exact y.ok.blk P0.out (fun x => x)) (fun j v hv => by rw [Nat.zero_add]; exact hv) (fun K hK => ?_); go_simp; refine hK _ ?_; clear hK K)
        iterate 2 (go_big_quiet_step (exact a1.out _))
        (refine quiet_load16 rfl _ rfl w.heap.size 0 rfl 23 (bA b) b hb.1 (fun w ⟨y, hy⟩ => by rw [hy]; exact y.ok.blk P0.out (fun x => x)) (fun j v hv => by rw [Nat.zero_add]; exact hv) (fun K hK => ?_); go_simp; refine hK _ ?_; clear hK K)
        iterate 5 (go_big_quiet_step (exact a3.out _))
        (refine quiet_load16 rfl _ rfl w.heap.size 0 rfl 23 (bA b) b hb.1 (fun w ⟨y, hy⟩ => by rw [hy]; exact y.ok.blk P0.out (fun x => x)) (fun j v hv => by rw [Nat.zero_add]; exact hv) (fun K hK => ?_); go_simp; refine hK _ ?_; clear hK K)
        iterate 2 (go_big_quiet_step (exact a2.out _))
        (refine quiet_load16 rfl _ rfl w.heap.size 0 rfl 23 (bA b) b hb.1 (fun w ⟨y, hy⟩ => by rw [hy]; exact y.ok.blk P0.out (fun x => x)) (fun j v hv => by rw [Nat.zero_add]; exact hv) (fun K hK => ?_); go_simp; refine hK _ ?_; clear hK K)
        iterate 1 (go_big_quiet_step (exact a4.out _))
        repeat (go_big_quiet_step (fail))
        refine wpQuiet_nil ?_
        intro y
        go_wp2
        go_ret
        exact ⟨rfl, P1.out.then y.ok⟩
  · have hN := Lib.hid (fun wx => new_wrong (some ⟨g, 0, none⟩) len cp wx (by omega) (by omega))
    have hY := Lib.hid (fun wx => keys_wrong a len cap wx (by omega) (by omega))
    have E6 := C5.out
    go_wp2_with fail
    refine (hN.out _).mono ?_
    rintro e w3 ⟨rfl, rfl⟩
    go_wp2_with fail
    refine (hY.out _).mono ?_
    rintro e w3 ⟨rfl, rfl⟩
    go_wp2_with fail
    refine (HS.out _ (Mod.refl _ _)).mono ?_
    rintro e w5 ⟨rfl, rfl⟩
    go_wp2_with fail
    refine (alive_any _).mono ?_
    rintro e w5 ⟨rfl, hm⟩
    go_wp2_with fail
    go_ret
    exact ⟨rfl, C1.out.then hm⟩
end Go.Proofs.Ytkbkobekndfapaa
