/- The live question of layer 18: its answer is yes. -/
import Derived.Test.YtmijbomfekopjaaGreatDoorQ
import Derived.Test.YtmijbomfekopjaaGreatDoorTb
namespace Go.Proofs.YtmijbomfekopjaaGreatDoor
open Go.RowKit

set_option maxRecDepth 100000 in
set_option maxHeartbeats 8000000 in
theorem ealive_any (w : World) : Calls Tryz.prog 5 #[] w fun e w' => e = .returned (.bool true) ∧ Mod No w w' := by
  go_enter Tryz.func5, Tryz.ntmps5
  go_wp2_with fail
  refine (dev_new w).mono ?_
  rintro e w1 ⟨db, m1, m2, m3, ck, rfl, hm1, hd1, hdb, hm2', hm3'⟩
  have M1 := Lib.hid hm1
  have D1 := Lib.hid hd1
  have hdl := blk_lt hd1.cell
  have hd2 := blk_lt hd1.now
  have hd3 := blk_lt hd1.bad
  clear hm1 hd1
  go_wp2_with fail
  have E1 := Lib.hid ((Mod.refl No w1).alloc (.cells #[.pointer (some ⟨db, 0, none⟩)] 52))
  have k1 : (w1.alloc (.cells #[.pointer (some ⟨db, 0, none⟩)] 52)).cell? ⟨w1.heap.size, 0, none⟩ = some (.pointer (some ⟨db, 0, none⟩)) := blk_cell (blk_new _ _) rfl
  refine (cache_new w1.heap.size 1 db m1 m2 m3 ck _ k1 (D1.out.later E1.out (fun x => x) (fun x => x) (fun x => x))).mono ?_
  rintro e w2 ⟨cb, lb, cp, le, rfl, hm2, hc2, hcb, hcl⟩
  have M2 := Lib.hid (M1.out.then (E1.out.then hm2))
  have C2 := Lib.hid hc2
  have hcbl := blk_lt hc2.cell
  have hcw : w1.heap.size ≤ cb := Nat.le_trans E1.out.size hcb
  clear hm2 hc2 k1 E1 D1
  go_wp2_with fail
  have S4 := Lib.hid (show ((w2.alloc (.cells #[.int .i64 1, .int .i64 4, .int .i64 0, .slice none 0 0, .slice none 0 0, .int .i64 0, .int .i64 0, .int .i64 0, .slice none 0 0, .slice none 0 0] 33)).alloc (.cells #[.slice (some ⟨w2.heap.size, 0, none⟩) 1 1, .int .i64 0, .bool false] 36)).heap[w2.heap.size]? = some (.cells stepC 33 (0, 0)) from blk_old (blk_new _ _))
  have P4 := Lib.hid (show ((w2.alloc (.cells #[.int .i64 1, .int .i64 4, .int .i64 0, .slice none 0 0, .slice none 0 0, .int .i64 0, .int .i64 0, .int .i64 0, .slice none 0 0, .slice none 0 0] 33)).alloc (.cells #[.slice (some ⟨w2.heap.size, 0, none⟩) 1 1, .int .i64 0, .bool false] 36)).heap[w2.heap.size + 1]? = some (.cells (pC w2.heap.size 1) 36 (0, 0)) from blk_new' _ (by simp))
  have E4 := Lib.hid (show Mod No w2 ((w2.alloc (.cells #[.int .i64 1, .int .i64 4, .int .i64 0, .slice none 0 0, .slice none 0 0, .int .i64 0, .int .i64 0, .int .i64 0, .slice none 0 0, .slice none 0 0] 33)).alloc (.cells #[.slice (some ⟨w2.heap.size, 0, none⟩) 1 1, .int .i64 0, .bool false] 36)) from ((Mod.refl No w2).alloc _).alloc _)
  generalize ((w2.alloc (.cells #[.int .i64 1, .int .i64 4, .int .i64 0, .slice none 0 0, .slice none 0 0, .int .i64 0, .int .i64 0, .int .i64 0, .slice none 0 0, .slice none 0 0] 33)).alloc (.cells #[.slice (some ⟨w2.heap.size, 0, none⟩) 1 1, .int .i64 0, .bool false] 36)) = w4 at *
  have C4 := Lib.hid (C2.out.later E4.out (fun x => x))
  have M4 := Lib.hid (M2.out.then E4.out)
  generalize hsb : w2.heap.size = sb at *
  have hsl := blk_lt P4.out
  clear C2 M2 E4
  refine no_panic (fun Q2 hQ2 hN2 => ?_)
  have HQ2 := Lib.hid hQ2
  have HN2 := Lib.hid hN2
  clear hQ2 hN2
  refine wp_region_floatF (fun w' => w'.heap[sb + 1]? = some (.cells (pC sb 1) 36 (0, 0))) [0, 1] [2, 3, 4, 5] [6, 7, 8, 9] (by kernel_rfl) (by kernel_rfl) (fun d v c a w h => HQ2.out d v c a w h) ?_
  refine float_cons (.agg (pC sb 1)) rfl rfl (fun w' hw => by
    have d0 : w'.cell? ⟨sb + 1, 0, none⟩ = some (.slice (some ⟨sb, 0, none⟩) 1 1) := blk_cell hw rfl
    have d1 : w'.cell? ⟨sb + 1, 1, none⟩ = some (.int .i64 0) := blk_cell hw rfl
    have d2 : w'.cell? ⟨sb + 1, 2, none⟩ = some (.bool false) := blk_cell hw rfl
    unfold pC; clear hw; go_simp) (fun L hL => ?_)
  go_simp
  refine hL _ (float_move rfl rfl rfl (fun L hL => ?_))
  go_simp
  refine hL _ (float_nil ?_)
  clear hL L
  have hms := run_make64
  have PD := Lib.hid (show w4.drew.heap[sb + 1]? = _ from P4.out)
  have CD := Lib.hid (C4.out.later ((Mod.refl No w4).drew) (fun x => x))
  have SD := Lib.hid (show w4.drew.heap[sb]? = _ from S4.out)
  have MD := Lib.hid (M4.out.drew)
  have hsl2 : sb + 1 < w4.drew.heap.size := hsl
  generalize w4.drew = w5 at *
  clear P4 C4 S4 M4
  refine seqF_cons rfl PD.out (fun L hL => ?_)
  have Z := Lib.hid (row_new w5)
  have E := Lib.hid ((Mod.refl No w5).alloc (.cells z64.toArray 5))
  go_wp2_with fail
  generalize w5.alloc (.cells z64.toArray 5) = w6 at *
  generalize hzb : w5.heap.size = zb at *
  have P6 := Lib.hid (E.out.blk PD.out (fun x => x))
  have C6 := Lib.hid (CD.out.later E.out (fun x => x))
  have S6 := Lib.hid (E.out.blk SD.out (fun x => x))
  have M6 := Lib.hid (MD.out.then E.out)
  clear PD CD SD MD E hms
  refine seqF_cons rfl P6.out (fun L hL => ?_)
  go_wp2_with (refine wpList_lit rfl 25 _ rfl (rC zb 64) (by kernel_rfl) ?_)
  refine seqF_cons rfl P6.out (fun L hL => ?_)
  have hcs : cb < sb := by omega
  have RS := Lib.hid (run_store sb 1 zb cb lb cp db m1 m2 m3 ck le _ _ w6 C6.out Z.out hcl (by omega) (by omega) (by omega) S6.out (by omega) (by omega))
  go_wp2_with fail
  refine RS.out.mono ?_
  rintro e w7 ⟨rfl, wa, hwa, wb, hW, hwb⟩
  obtain ⟨m, l2, lc, cu, sv, v1, v2, v3, v4, v5, v6, v7, v8, v9, v10⟩ := hW
  have GO := Lib.hid (fun wx (hx : Mod No w7 wx) => group_one cb lb cp db m1 m2 m3 ck m l2 lc le cu sv wx ((v2.later hwb (fun x => x)).later hx (fun x => x)) (hx.blk (hwb.blk v6 (fun x => x)) (fun x => x)) ((v7.later hwb (fun _ _ _ x => x)).later hx (fun _ _ _ x => x)) (hx.blk (hwb.blk v8 (fun x => x)) (fun x => x)) v9 v10)
  have MJ : Mod (Just cb) w6 w7 := (hwa.trans v1 (fun _ _ h => h)).trans hwb (fun _ _ h => h.elim)
  have P7 := Lib.hid (MJ.blk P6.out (not_just (by omega)))
  have S7 := Lib.hid (MJ.blk S6.out (not_just (by omega)))
  have C7 := Lib.hid (v2.later hwb (fun x => x))
  have M7 := Lib.hid (show Mod No w w7 from M6.out.trans MJ (fun i hi h => absurd (show i = cb from h) (by have := M1.out.size; omega)))
  clear hwa hwb v1 v2 v3 v4 v5 v6 v7 v8 MJ RS P6 C6 S6 M6 Z
  go_wp2_with fail
  refine seqF_cons rfl P7.out (fun L hL => ?_)
  go_wp2_with fail
  refine seqF_nil P7.out ?_
  refine float_cons (.slice none 0 0) rfl rfl (fun w _ => by go_simp) (fun L hL => ?_)
  go_simp
  refine hL _ (float_cons (.int .i64 0) rfl rfl (fun w _ => by go_simp) (fun L hL => ?_))
  go_simp
  refine hL _ (float_cons (.slice none 0 0) rfl rfl (fun w _ => by go_simp) (fun L hL => ?_))
  go_simp
  refine hL _ (float_cons (.int .i64 0) rfl rfl (fun w _ => by go_simp) (fun L hL => ?_))
  go_simp
  refine hL _ (float_nil ?_)
  refine HN2.out _ _ ?_
  clear HQ2 HN2
  go_wp2_with fail
  refine (GO.out _ (Mod.refl _ _)).mono ?_
  rintro e w8 ⟨g8, c8, rfl, hm8⟩
  have P8 := Lib.hid (hm8.blk P7.out (fun x => x))
  have S8 := Lib.hid (hm8.blk S7.out (fun x => x))
  have C8 := Lib.hid (C7.out.later hm8 (fun x => x))
  have M8 := Lib.hid (M7.out.then hm8)
  clear hm8 P7 S7 C7 M7 GO
  go_wp2_with (first
    | (refine wpList_load_at rfl 36 _ rfl (sb + 1) 0 rfl 36 (pC sb 1) (pC sb 1) (0, 0) _ P8.out Tryz.underlying36 rfl (by kernel_rfl) (fun j v hv => by rw [Nat.zero_add]; exact hv) ?_)
    | (refine wpList_lit rfl 25 _ rfl r2C (by kernel_rfl) ?_))
  refine (run_read sb 1 cb lb cp db m1 m2 m3 ck le _ _ w8 C8.out hcl (by omega) (by omega) (by omega) S8.out (by omega)).mono ?_
  rintro e w9 ⟨g9, c9, rfl, hm9, hc9⟩
  have H9 := Lib.hid hc9.cell
  have M9 := Lib.hid (show Mod No w w9 from M8.out.trans hm9 (fun i hi h => absurd (show i = cb from h) (by have := M1.out.size; omega)))
  clear hm9 hc9 C8 P8 S8 M8
  go_wp2_with fail
  refine (group_nil cb _ _ _ H9.out).mono ?_
  rintro e wA ⟨rfl, hmA⟩
  have MA := Lib.hid (M9.out.then hmA)
  clear hmA M9 H9
  go_wp2_with fail
  go_ret
  exact ⟨rfl, MA.out⟩
end Go.Proofs.YtmijbomfekopjaaGreatDoor
