/- Run: two sectors read. -/
import Derived.Test.YtmijbomfekopjaaGreatDoorN
namespace Go.Proofs.YtmijbomfekopjaaGreatDoor
open Go.RowKit

theorem own_mod3 {w w' : World} {S : Nat → Prop} {base : Nat} {e : TypeId} {size n : Nat} {v : Value} {xs : List Value} (h : w.ownsRow base e size v n xs) (hm : Mod S w w') (hn : ∀ g, v.ownBlock = some g → ¬ S g) : w'.ownsRow base e size v n xs := by
  refine ⟨h.1, ?_⟩
  rcases h.2 with h1 | ⟨g, cap, cur, hv, hb, hg, r⟩
  · exact .inl h1
  · exact .inr ⟨g, cap, cur, hv, hb, hm.blk hg (hn g (by rw [hv]; rfl)), r⟩
def r2C : Array Value := #[.int .i64 0, .int .i64 0, .int .i64 2, .slice none 0 0, .bool false]
set_option maxRecDepth 100000 in
set_option maxHeartbeats 8000000 in
theorem run_read (sb sc cb lb cp db m1 m2 m3 ck : Nat) (le : Array Value) (x1 x2 : Value) (w : World) (h : CacheAt w cb lb cp db m1 m2 m3 ck x1 x2 le) (hcb : cb ≠ lb) (hcd : cb ≠ db) (hc2 : cb ≠ m2) (hc3 : cb ≠ m3)
    (hs : w.heap[sb]? = some (.cells stepC 33 (0, 0))) (hsb : sb ≠ cb) :
    Calls Tryz.prog 4 #[.agg (pC sb sc), .pointer (some ⟨cb, 0, none⟩), .agg r2C] w fun e w' => ∃ g c, e = .returned (.tuple #[.slice (some ⟨g, 0, none⟩) 128 c, .int .i64 0]) ∧ Mod (Just cb) w w' ∧ CacheAt w' cb lb cp db m1 m2 m3 ck (.map none) (.slice none 0 0) le := by
  have P0 := Lib.hid (blk_old (o' := .cells r2C 25) (blk_new w (.cells (pC sb sc) 36)))
  have Q0 := Lib.hid (show ((w.alloc (.cells (pC sb sc) 36)).alloc (.cells r2C 25)).heap[w.heap.size + 1]? = some (.cells r2C 25 (0, 0)) from blk_new' _ (by simp))
  have N0 := Lib.hid (((Mod.refl No w).alloc (.cells (pC sb sc) 36)).alloc (.cells r2C 25))
  have H0 := Lib.hid (h.later N0.out (fun x => x))
  have S0 := Lib.hid (N0.out.blk hs (fun x => x))
  have hcw := blk_lt h.cell
  clear h hs
  generalize hw0 : (w.alloc (.cells (pC sb sc) 36)).alloc (.cells r2C 25) = w0 at *
  go_enter Tryz.func4, Tryz.ntmps4
  go_wp2_with (first
    | (refine wpList_load_at rfl 36 _ rfl w.heap.size 0 rfl 36 (pC sb sc) (pC sb sc) (0, 0) _ P0.out Tryz.underlying36 rfl (by kernel_rfl) (fun j v hv => by rw [Nat.zero_add]; exact hv) ?_)
    | (refine wpList_lit rfl 41 _ rfl (mC sb sc cb) (by kernel_rfl) ?_)
    | (refine wpList_store_row rfl 41 _ _ rfl w0.heap.size (mC sb sc cb) rfl rfl 41 #[.slice none 0 0, .int .i64 0, .bool false, .pointer none] (blk_new _ _) (by kernel_rfl) rfl (by kernel_rfl) ?_; refine hold ?_))
  unfold Hold
  have N1 := Lib.hid (show Mod No w ((w0.alloc (.cells #[.slice none 0 0, .int .i64 0, .bool false, .pointer none] 41)).setRow w0.heap.size (mC sb sc cb)) from (N0.out.alloc _).setRow _ _ (fun h => absurd (show w0.heap.size < w.heap.size from h) (by have := N0.out.size; omega)))
  have T1 := Lib.hid (show ((w0.alloc (.cells #[.slice none 0 0, .int .i64 0, .bool false, .pointer none] 41)).setRow w0.heap.size (mC sb sc cb)).heap[w0.heap.size]? = some (.cells (mC sb sc cb) 41 (0, 0)) from blk_setRow (blk_new _ _))
  have hQl := blk_lt Q0.out
  have Q1 := Lib.hid (show ((w0.alloc (.cells #[.slice none 0 0, .int .i64 0, .bool false, .pointer none] 41)).setRow w0.heap.size (mC sb sc cb)).heap[w.heap.size + 1]? = some (.cells r2C 25 (0, 0)) from blk_setRow_other (blk_old Q0.out) (by omega))
  have L1 := Lib.hid (show Mod No w0 ((w0.alloc (.cells #[.slice none 0 0, .int .i64 0, .bool false, .pointer none] 41)).setRow w0.heap.size (mC sb sc cb)) from ((Mod.refl No w0).alloc _).setRow _ _ (fun h => absurd (show w0.heap.size < w0.heap.size from h) (by omega)))
  have H1 := Lib.hid (H0.out.later L1.out (fun x => x))
  have S1 := Lib.hid (L1.out.blk S0.out (fun x => x))
  generalize ((w0.alloc (.cells #[.slice none 0 0, .int .i64 0, .bool false, .pointer none] 41)).setRow w0.heap.size (mC sb sc cb)) = w1 at *
  generalize hmb : w0.heap.size = mb at *
  clear P0 Q0 H0 S0 L1
  go_wp2_with fail
  refine (back_any cb _ _ _ _ w1 H1.out.cell).mono ?_
  rintro e w2 ⟨rfl, hm2, hc2'⟩
  have H2 := Lib.hid (show CacheAt w2 cb lb cp db m1 m2 m3 ck (.map none) (.slice none 0 0) le from ⟨hc2', hm2.blk H1.out.row (not_just (Ne.symm hcb)), H1.out.one, H1.out.dev.later hm2 (not_just (Ne.symm hcd)) (not_just (Ne.symm hc2)) (not_just (Ne.symm hc3))⟩)
  have hmcb : mb ≠ cb := by have := N0.out.size; omega
  have T2 := Lib.hid (hm2.blk T1.out (not_just hmcb))
  have Q2 := Lib.hid (hm2.blk Q1.out (not_just (by omega)))
  have S2 := Lib.hid (hm2.blk S1.out (not_just hsb))
  have N2 := Lib.hid (show Mod (Just cb) w w2 from (N1.out.mono (fun _ _ h => h.elim)).trans hm2 (fun _ _ h => h))
  clear hm2 hc2' T1 Q1 S1 H1 N1
  go_wp2_with (first
    | (refine wpList_load_at rfl 41 _ rfl mb 0 rfl 41 (mC sb sc cb) (mC sb sc cb) (0, 0) _ T2.out Tryz.underlying41 rfl (by kernel_rfl) (fun j v hv => by rw [Nat.zero_add]; exact hv) ?_)
    | (refine wpList_load_at rfl 25 _ rfl (w.heap.size + 1) 0 rfl 25 r2C r2C (0, 0) _ Q2.out Tryz.underlying25 rfl (by kernel_rfl) (fun j v hv => by rw [Nat.zero_add]; exact hv) ?_))
  refine (req_read sb sc cb w2 S2.out).mono ?_
  rintro e w3 ⟨rfl, hm3⟩
  have H3 := Lib.hid (H2.out.later hm3 (fun x => x))
  have T3 := Lib.hid (hm3.blk T2.out (fun x => x))
  have Q3 := Lib.hid (hm3.blk Q2.out (fun x => x))
  have S3 := Lib.hid (hm3.blk S2.out (fun x => x))
  have N3 := Lib.hid (N2.out.then hm3)
  clear hm3 H2 T2 Q2 S2 N2
  have c0 : w3.cell? ⟨w.heap.size + 1, 0, none⟩ = some (.int .i64 0) := blk_cell Q3.out rfl
  obtain ⟨i5, hi5, hz5, hs5, hb5⟩ := info_parts info5
  go_wp2_with fail
  go_loopw [9, 11, 12] (fun v9 v11 v12 wr => ∃ i : Nat, ∃ xs, i ≤ 2 ∧ v9 = .int .i64 0 ∧ v12 = .int .i64 (i : Int) ∧ Mod No w3 wr ∧ wr.ownsRow w3.heap.size 5 1 v11 (64 * i) xs) (fun _ _ v _ => 2 - (intOf v).toNat)
  case atStart => exact ⟨0, [], by omega, rfl, rfl, Mod.refl _ _, World.ownsRow_nil _ _ _ _⟩
  case round =>
    obtain ⟨i, xs, hi2, rfl, rfl, hm, ho⟩ := hrel
    have H4 := Lib.hid (H3.out.later hm (fun x => x))
    have T4 := Lib.hid (hm.blk T3.out (fun x => x))
    have Q4 := Lib.hid (hm.blk Q3.out (fun x => x))
    have S4 := Lib.hid (hm.blk S3.out (fun x => x))
    have N4 := Lib.hid hm
    have O4 := Lib.hid ho
    have r2 : wr.cell? ⟨w.heap.size + 1, 2, none⟩ = some (.int .i64 2) := blk_cell Q4.out rfl
    clear hm ho
    by_cases hli : i < 2
    · have r1 : wr.cell? ⟨w.heap.size + 1, 1, none⟩ = some (.int .i64 0) := blk_cell Q4.out rfl
      have d1 : wr.cell? ⟨mb, 1, none⟩ = some (.int .i64 0) := blk_cell T4.out rfl
      go_wp2_with (refine wpList_load_at rfl 41 _ rfl mb 0 rfl 41 (mC sb sc cb) (mC sb sc cb) (0, 0) _ T4.out Tryz.underlying41 rfl (by kernel_rfl) (fun j v hv => by rw [Nat.zero_add]; exact hv) ?_)
      refine (mread_ok sb sc cb lb cp db m1 m2 m3 ck i le wr H4.out (by omega) S4.out).mono ?_
      rintro e w5 ⟨g5, c5, rfl, hm5, g5', c5', he, ys, hyl, hy1, hyc⟩
      have hgg : g5' = g5 := by injection he with e1; injection e1 with e1; injection e1 with e1; exact e1.symm
      rw [hgg] at hyc
      have O5 := Lib.hid (own_mod3 O4.out hm5 (fun _ _ h => h))
      have N5 := Lib.hid (N4.out.then hm5)
      have HY := Lib.hid hyc
      have HY1 := Lib.hid hy1
      have hs5' := N5.out.size
      clear hm5 hyc hy1 he H4 T4 Q4 S4 O4 N4 r1 d1 r2
      go_wp2_with (at_builtin; refine wpList_append_own _ rfl (.tmp 81) (.tmp 82) 23 rfl w3.heap.size 5 i5 (.int .u8 0) 1 1 Tryz.underlying23 hi5 hz5 hs5 hb5 rfl (by omega) u11 (64 * i) xs rfl O5.out ⟨g5, 0, none⟩ 64 c5 ys rfl (by omega) HY.out HY1.out (by unfold maxLen; omega) (by omega) hs5' ?_; refine hold ?_)
      unfold Hold
      intro v6 w6 o6 gr6 _
      have O6 := Lib.hid o6
      have N6 := Lib.hid (show Mod No w3 w6 from N5.out.grown gr6 (fun k hk hlt => absurd hlt (by have := (O5.out.lt k hk).1; omega)))
      clear o6 gr6 O5 N5 HY HY1
      go_wp2_with fail
      refine (number_nil w6).mono ?_
      rintro e w7 ⟨rfl, hm7⟩
      have O7 := Lib.hid (own_mod3 O6.out hm7 (fun _ _ h => h))
      have N7 := Lib.hid (N6.out.then hm7)
      clear hm7 O6 N6
      go_wp2_with fail
      go_roundw
      case rel => exact ⟨i + 1, xs ++ ys, by omega, rfl, by go_num, N7.out, by rw [show 64 * (i + 1) = 64 * i + 64 by omega]; exact O7.out⟩
      case measure => simp [intOf]; omega
    · obtain rfl : i = 2 := by omega
      obtain ⟨g, c, rfl⟩ : ∃ g c, u11 = .slice (some ⟨g, 0, none⟩) 128 c := by
        rcases O4.out.2 with ⟨_, h0⟩ | ⟨g, cap, cur, h1, _⟩
        · omega
        · exact ⟨g, cap, h1⟩
      clear O4 T4 Q4 S4
      go_wp2_with fail
      refine (group_nil cb _ _ wr H4.out.cell).mono ?_
      rintro e w8 ⟨rfl, hm8⟩
      have H8 := Lib.hid (H4.out.later hm8 (fun x => x))
      have N8 := Lib.hid (N3.out.then (N4.out.then hm8))
      clear hm8 H4
      go_wp2_with fail
      refine bodyPost_ret (v := .tuple #[.slice (some ⟨g, 0, none⟩) 128 c, .int .i64 0]) (by simp [results, Tryz.results4, go_sem]) rfl ?_
      exact ⟨g, c, rfl, N8.out, H8.out⟩
end Go.Proofs.YtmijbomfekopjaaGreatDoor
