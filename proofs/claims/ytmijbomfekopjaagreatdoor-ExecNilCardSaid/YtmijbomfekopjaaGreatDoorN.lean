/- Run: no cache; a sector stored. -/
import Derived.Test.YtmijbomfekopjaaGreatDoorK
namespace Go.Proofs.YtmijbomfekopjaaGreatDoor
open Go.RowKit

theorem run_nil (p r : Array Value) (w : World) : Calls Tryz.prog 4 #[.agg p, .pointer none, .agg r] w fun e w' => e = .returned (.tuple #[.slice none 0 0, .int .i64 1]) ∧ Mod No w w' := by
  go_enter Tryz.func4, Tryz.ntmps4
  go_wp2_with fail
  refine bodyPost_ret (v := .tuple #[.slice none 0 0, .int .i64 1]) (by simp [results, Tryz.results4, go_sem]) rfl ?_
  exact ⟨rfl, ((Mod.refl _ _).alloc _).alloc _⟩
def mC (sb sc cb : Nat) : Array Value := #[.slice (some ⟨sb, 0, none⟩) 1 sc, .int .i64 0, .bool false, .pointer (some ⟨cb, 0, none⟩)]
def pC (sb sc : Nat) : Array Value := #[.slice (some ⟨sb, 0, none⟩) 1 sc, .int .i64 0, .bool false]
def rC (zb zc : Nat) : Array Value := #[.int .i64 1, .int .i64 1, .int .i64 1, .slice (some ⟨zb, 0, none⟩) 64 zc, .bool false]

theorem row_copied {w : World} {b : Nat} {xs : List Value} (hb : w.heap[b]? = some (.cells z64.toArray 5 (0, 0))) (hl : xs.length = 64) (h1 : ∀ u ∈ xs, u.oneCell' = true) :
    Row64 (w.setRow b (xs ++ List.drop 64 z64).toArray) (.slice (some ⟨b, 0, none⟩) 64 64) := by
  have e : xs ++ List.drop 64 z64 = xs := by
    rw [List.drop_eq_nil_of_le (by unfold z64; simp), List.append_nil]
  rw [e]
  refine ⟨b, 64, rfl, xs, hl, h1, fun j u hu => ?_⟩
  rw [show (⟨b, 0, none⟩ : Addr).add j = ⟨b, j, none⟩ from by unfold Addr.add; split <;> simp_all]
  exact blk_cell (blk_setRow hb) (by rw [List.getElem?_toArray]; exact hu)
set_option maxRecDepth 100000 in
set_option maxHeartbeats 8000000 in
theorem run_store (sb sc zb cb lb cp db m1 m2 m3 ck : Nat) (le : Array Value) (x1 x2 : Value) (w : World) (h : CacheAt w cb lb cp db m1 m2 m3 ck x1 x2 le) (hv : Row64 w (.slice (some ⟨zb, 0, none⟩) 64 64)) (hcb : cb ≠ lb) (hcd : cb ≠ db) (hc2 : cb ≠ m2) (hc3 : cb ≠ m3)
    (hs : w.heap[sb]? = some (.cells stepC 33 (0, 0))) (hsb : sb ≠ cb) (hzb : zb ≠ cb) :
    Calls Tryz.prog 4 #[.agg (pC sb sc), .pointer (some ⟨cb, 0, none⟩), .agg (rC zb 64)] w fun e w' => e = .returned (.tuple #[.slice none 0 0, .int .i64 0]) ∧ ∃ w1, Mod (Just cb) w w1 ∧ ∃ w2, Wrote cb lb cp db m1 m2 m3 ck le w1 w2 ∧ Mod No w2 w' := by
  have P0 := Lib.hid (blk_old (o' := .cells (rC zb 64) 25) (blk_new w (.cells (pC sb sc) 36)))
  have Q0 := Lib.hid (show ((w.alloc (.cells (pC sb sc) 36)).alloc (.cells (rC zb 64) 25)).heap[w.heap.size + 1]? = some (.cells (rC zb 64) 25 (0, 0)) from blk_new' _ (by simp))
  have N0 := Lib.hid (((Mod.refl No w).alloc (.cells (pC sb sc) 36)).alloc (.cells (rC zb 64) 25))
  have H0 := Lib.hid (h.later N0.out (fun x => x))
  have S0 := Lib.hid (N0.out.blk hs (fun x => x))
  have V0 := Lib.hid (hv.later N0.out (fun _ _ _ x => x))
  have hcw := blk_lt h.cell
  clear h hv hs
  generalize hw0 : (w.alloc (.cells (pC sb sc) 36)).alloc (.cells (rC zb 64) 25) = w0 at *
  go_enter Tryz.func4, Tryz.ntmps4
  go_wp2_with (first
    | (refine wpList_load_at rfl 36 _ rfl w.heap.size 0 rfl 36 (pC sb sc) (pC sb sc) (0, 0) _ P0.out Tryz.underlying36 rfl (by kernel_rfl) (fun j v hv => by rw [Nat.zero_add]; exact hv) ?_)
    | (refine wpList_lit rfl 41 _ rfl (mC sb sc cb) (by kernel_rfl) ?_)
    | (refine wpList_store_row rfl 41 _ _ rfl w0.heap.size (mC sb sc cb) rfl rfl 41 #[.slice none 0 0, .int .i64 0, .bool false, .pointer none] (blk_new _ _) (by kernel_rfl) rfl (by kernel_rfl) ?_; refine hold ?_))
  unfold Hold
  have N1 := Lib.hid (show Mod No w ((w0.alloc (.cells #[.slice none 0 0, .int .i64 0, .bool false, .pointer none] 41)).setRow w0.heap.size (mC sb sc cb)) from (N0.out.alloc _).setRow _ _ (fun h => absurd (show w0.heap.size < w.heap.size from h) (by have := N0.out.size; omega)))
  have T1 := Lib.hid (show ((w0.alloc (.cells #[.slice none 0 0, .int .i64 0, .bool false, .pointer none] 41)).setRow w0.heap.size (mC sb sc cb)).heap[w0.heap.size]? = some (.cells (mC sb sc cb) 41 (0, 0)) from blk_setRow (blk_new _ _))
  have hQl := blk_lt Q0.out
  have Q1 := Lib.hid (show ((w0.alloc (.cells #[.slice none 0 0, .int .i64 0, .bool false, .pointer none] 41)).setRow w0.heap.size (mC sb sc cb)).heap[w.heap.size + 1]? = some (.cells (rC zb 64) 25 (0, 0)) from blk_setRow_other (blk_old Q0.out) (by omega))
  have L1 := Lib.hid (show Mod No w0 ((w0.alloc (.cells #[.slice none 0 0, .int .i64 0, .bool false, .pointer none] 41)).setRow w0.heap.size (mC sb sc cb)) from ((Mod.refl No w0).alloc _).setRow _ _ (fun h => absurd (show w0.heap.size < w0.heap.size from h) (by omega)))
  have H1 := Lib.hid (H0.out.later L1.out (fun x => x))
  have S1 := Lib.hid (L1.out.blk S0.out (fun x => x))
  have V1 := Lib.hid (V0.out.later L1.out (fun _ _ _ x => x))
  generalize ((w0.alloc (.cells #[.slice none 0 0, .int .i64 0, .bool false, .pointer none] 41)).setRow w0.heap.size (mC sb sc cb)) = w1 at *
  generalize hmb : w0.heap.size = mb at *
  clear P0 Q0 H0 S0 V0 L1
  go_wp2_with fail
  refine (back_any cb _ _ _ _ w1 H1.out.cell).mono ?_
  rintro e w2 ⟨rfl, hm2, hc2'⟩
  have H2 := Lib.hid (show CacheAt w2 cb lb cp db m1 m2 m3 ck (.map none) (.slice none 0 0) le from ⟨hc2', hm2.blk H1.out.row (not_just (Ne.symm hcb)), H1.out.one, H1.out.dev.later hm2 (not_just (Ne.symm hcd)) (not_just (Ne.symm hc2)) (not_just (Ne.symm hc3))⟩)
  have hmcb : mb ≠ cb := by have := N0.out.size; omega
  have T2 := Lib.hid (hm2.blk T1.out (not_just hmcb))
  have Q2 := Lib.hid (hm2.blk Q1.out (not_just (by omega)))
  have S2 := Lib.hid (hm2.blk S1.out (not_just hsb))
  have V2 := Lib.hid (V1.out.later hm2 (fun g' c' e => not_just (by have : zb = g' := (by injection e with e1; injection e1 with e1; injection e1); omega)))
  have N2 := Lib.hid (show Mod (Just cb) w w2 from (N1.out.mono (fun _ _ h => h.elim)).trans hm2 (fun _ _ h => h))
  clear hm2 hc2' T1 Q1 S1 V1 H1 N1
  go_wp2_with (first
    | (refine wpList_load_at rfl 41 _ rfl mb 0 rfl 41 (mC sb sc cb) (mC sb sc cb) (0, 0) _ T2.out Tryz.underlying41 rfl (by kernel_rfl) (fun j v hv => by rw [Nat.zero_add]; exact hv) ?_)
    | (refine wpList_load_at rfl 25 _ rfl (w.heap.size + 1) 0 rfl 25 (rC zb 64) (rC zb 64) (0, 0) _ Q2.out Tryz.underlying25 rfl (by kernel_rfl) (fun j v hv => by rw [Nat.zero_add]; exact hv) ?_))
  refine (req_store sb sc cb zb 64 w2 S2.out).mono ?_
  rintro e w3 ⟨rfl, hm3⟩
  have H3 := Lib.hid (H2.out.later hm3 (fun x => x))
  have T3 := Lib.hid (hm3.blk T2.out (fun x => x))
  have Q3 := Lib.hid (hm3.blk Q2.out (fun x => x))
  have S3 := Lib.hid (hm3.blk S2.out (fun x => x))
  have V3 := Lib.hid (V2.out.later hm3 (fun _ _ _ x => x))
  have N3 := Lib.hid (N2.out.then hm3)
  clear hm3 H2 T2 Q2 S2 V2 N2
  have c0 : w3.cell? ⟨w.heap.size + 1, 0, none⟩ = some (.int .i64 1) := blk_cell Q3.out rfl
  go_wp2_with fail
  go_loopw [9, 11, 12] (fun v9 v11 v12 wr => v9 = .int .i64 0 ∧ v11 = .slice none 0 0 ∧ ((v12 = .int .i64 0 ∧ Mod No w3 wr) ∨ (v12 = .int .i64 1 ∧ ∃ wa wb, Mod No w3 wa ∧ Wrote cb lb cp db m1 m2 m3 ck le wa wb ∧ Mod No wb wr))) (fun _ _ v _ => 1 - (intOf v).toNat)
  case atStart => exact ⟨rfl, rfl, .inl ⟨rfl, Mod.refl _ _⟩⟩
  case round =>
    obtain ⟨rfl, rfl, ho⟩ := hrel
    rcases ho with ⟨rfl, hm⟩ | ⟨rfl, wa, wb, hwa, hW, hwb⟩
    · have H4 := Lib.hid (H3.out.later hm (fun x => x))
      have T4 := Lib.hid (hm.blk T3.out (fun x => x))
      have Q4 := Lib.hid (hm.blk Q3.out (fun x => x))
      have S4 := Lib.hid (hm.blk S3.out (fun x => x))
      have V4 := Lib.hid (V3.out.later hm (fun _ _ _ x => x))
      have N4 := Lib.hid hm
      clear hm H3 Q3 S3 V3 c0
      have r2 : wr.cell? ⟨w.heap.size + 1, 2, none⟩ = some (.int .i64 1) := blk_cell Q4.out rfl
      have hms := run_make64
      have Z := Lib.hid (blk_new wr (.cells z64.toArray 5))
      have E := Lib.hid ((Mod.refl No wr).alloc (.cells z64.toArray 5))
      have Q5 := Lib.hid (E.out.blk Q4.out (fun x => x))
      have V5 := V4.out.later E.out (fun _ _ _ x => x)
      obtain ⟨zb', zc', he, xs, hxl, hx1, hxc⟩ := V5
      have HX := Lib.hid hxc
      have HX1 := Lib.hid hx1
      have hzz : zb' = zb := by injection he with e1; injection e1 with e1; injection e1 with e1; exact e1.symm
      rw [hzz] at HX
      clear hxc hx1 he
      have c0 : (wr.alloc (.cells z64.toArray 5)).cell? ⟨w.heap.size + 1, 0, none⟩ = some (.int .i64 1) := blk_cell Q5.out rfl
      have c3 : (wr.alloc (.cells z64.toArray 5)).cell? ⟨w.heap.size + 1, 3, none⟩ = some (.slice (some ⟨zb, 0, none⟩) 64 64) := blk_cell Q5.out rfl
      generalize hw5 : wr.alloc (.cells z64.toArray 5) = w5 at *
      go_wp2_with (refine wpList_copy_own rfl (.tmp 52) (.tmp 57) 23 23 rfl 5 Tryz.underlying23 (by kernel_rfl) wr.heap.size 0 64 64 ⟨zb, 0, none⟩ 64 64 rfl rfl z64.toArray 5 Z.out xs (by rw [hxl]; rfl) HX.out (by rw [hxl]; unfold z64; simp) HX1.out ?_; refine hold ?_)
      unfold Hold
      generalize hw6 : w5.setRow wr.heap.size _ = w6
      have R6 := Lib.hid (show Row64 w6 (.slice (some ⟨wr.heap.size, 0, none⟩) 64 64) from hw6 ▸ row_copied Z.out hxl HX1.out)
      have E6 := Lib.hid (show Mod No wr w6 from hw6 ▸ E.out.setRow wr.heap.size _ (fun h => absurd (show wr.heap.size < wr.heap.size from h) (by omega)))
      clear hw6
      generalize wr.heap.size = bb at *
      have H6 := Lib.hid (H4.out.later E6.out (fun x => x))
      have T6 := Lib.hid (E6.out.blk T4.out (fun x => x))
      have Q6 := Lib.hid (E6.out.blk Q4.out (fun x => x))
      have S6 := Lib.hid (E6.out.blk S4.out (fun x => x))
      have d1 : w6.cell? ⟨mb, 1, none⟩ = some (.int .i64 0) := blk_cell T6.out rfl
      have d2 : w6.cell? ⟨w.heap.size + 1, 1, none⟩ = some (.int .i64 1) := blk_cell Q6.out rfl
      clear c0 c3 HX HX1 Z E Q5 H4 T4 Q4 S4 V4 hms hw5
      go_wp2_with (refine wpList_load_at rfl 41 _ rfl mb 0 rfl 41 (mC sb sc cb) (mC sb sc cb) (0, 0) _ T6.out Tryz.underlying41 rfl (by kernel_rfl) (fun j v hv => by rw [Nat.zero_add]; exact hv) ?_)
      refine (mwrite_ok sb sc cb lb cp db m1 m2 m3 ck le _ w6 H6.out R6.out hcb hcd hc2 hc3 S6.out).mono ?_
      rintro e w8 ⟨rfl, w7, hm7, hW8⟩
      have F7 := Lib.hid (N4.out.then (E6.out.then hm7))
      have F8 := Lib.hid hW8
      clear hm7 hW8 H6 T6 Q6 S6 d1 d2
      go_wp2_with fail
      refine (number_nil w8).mono ?_
      rintro e w9 ⟨rfl, hm9⟩
      have F9 := Lib.hid hm9
      clear hm9
      go_wp2_with fail
      go_roundw
      case rel => exact ⟨rfl, rfl, .inr ⟨by go_num, w7, w8, F7.out, F8.out, F9.out⟩⟩
      case measure => simp [intOf]
    · obtain ⟨m, l2, lc, cu, sv, w1', w2', w3', w4', w5', w6', w7', w8', w9', w10'⟩ := hW
      have GW := Lib.hid (show Wrote cb lb cp db m1 m2 m3 ck le wa wb from ⟨m, l2, lc, cu, sv, w1', w2', w3', w4', w5', w6', w7', w8', w9', w10'⟩)
      have hrb : w.heap.size + 1 ≠ cb := by omega
      have c2 : wr.cell? ⟨w.heap.size + 1, 2, none⟩ = some (.int .i64 1) := blk_cell (hwb.blk (w1'.blk (hwa.blk Q3.out (fun x => x)) (not_just hrb)) (fun x => x)) rfl
      have GO := Lib.hid (group_one cb lb cp db m1 m2 m3 ck m l2 lc le cu sv wr (w2'.later hwb (fun x => x)) (hwb.blk w6' (fun x => x)) (w7'.later hwb (fun _ _ _ x => x)) (hwb.blk w8' (fun x => x)) w9' w10')
      have A := Lib.hid hwa
      have B := Lib.hid hwb
      clear hwa hwb w1' w2' w3' w4' w5' w6' w7' w8' w9' w10'
      go_wp2_with fail
      refine GO.out.mono ?_
      rintro e w9 ⟨g9, c9, rfl, hm9⟩
      have F9 := Lib.hid hm9
      clear hm9 GO
      go_wp2_with fail
      refine bodyPost_ret (v := .tuple #[.slice none 0 0, .int .i64 0]) (by simp [results, Tryz.results4, go_sem]) rfl ?_
      exact ⟨rfl, wa, N3.out.then A.out, wb, GW.out, B.out.then F9.out⟩
end Go.Proofs.YtmijbomfekopjaaGreatDoor
