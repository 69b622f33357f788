/- The open group, listed. -/
import Derived.Test.YtmijbomfekopjaaGreatDoorF
namespace Go.Proofs.YtmijbomfekopjaaGreatDoor
open Go.RowKit

theorem writes_nil (w : World) : Calls Tryz.prog 34 #[.agg #[.map none, .slice none 0 0]] w fun e w' => e = .returned (.slice none 0 0) ∧ Mod No w w' := by
  have B0 := Lib.hid (blk_new w (.cells #[.map none, .slice none 0 0] 61))
  have k1 : (w.alloc (.cells #[.map none, .slice none 0 0] 61)).cell? ⟨w.heap.size, 1, none⟩ = some (.slice none 0 0) := blk_cell B0.out rfl
  go_enter Tryz.func34, Tryz.ntmps34
  go_wp2_with fail
  go_loopw [3, 9] (fun v3 v wr => (v = .int .i64 0 ∧ v3 = .slice none 0 0) ∧ Mod No w wr) (fun _ _ _ => (0 : Nat))
  case atStart => exact ⟨⟨rfl, rfl⟩, (Mod.refl No _).alloc _⟩
  case round =>
    obtain ⟨⟨rfl, rfl⟩, hm⟩ := hrel
    have HM := Lib.hid hm
    clear hm
    go_wp2_with fail
    go_ret
    exact ⟨rfl, HM.out⟩
theorem info154 : (Tryz.prog.info? 154).map (fun i => (i.zero, i.size, i.bytes)) = some (some (.agg #[.int .i64 0, .int .i64 0, .slice none 0 0]), 3, 40) := by kernel_rfl
set_option maxRecDepth 100000 in
set_option maxHeartbeats 4000000 in
theorem writes_one (m l2 lc : Nat) (cu : Array Value) (sv : Value) (w : World) (hm : w.heap[m]? = some (.map #[{ key := keyV 1, val := sv, born := 0 }] 1)) (hsv : Row64 w sv) (hl : w.heap[l2]? = some (.cells cu 108 (0, 0))) (h0 : cu[0]? = some (.int .i64 0)) (h1 : cu[1]? = some (.int .i64 1)) :
    Calls Tryz.prog 34 #[.agg #[.map (some m), .slice (some ⟨l2, 0, none⟩) 1 lc]] w fun e w' => ∃ g c, e = .returned (.slice (some ⟨g, 0, none⟩) 1 c) ∧ Mod No w w' := by
  obtain ⟨i1, hi1, hz1, hs1, hb1⟩ := info_parts info154
  have B0 := Lib.hid (blk_new w (.cells #[.map (some m), .slice (some ⟨l2, 0, none⟩) 1 lc] 61))
  have M0 := Lib.hid (blk_old (o' := .cells #[.map (some m), .slice (some ⟨l2, 0, none⟩) 1 lc] 61) hm)
  have L0 := Lib.hid (blk_old (o' := .cells #[.map (some m), .slice (some ⟨l2, 0, none⟩) 1 lc] 61) hl)
  have R0 := Lib.hid (hsv.later ((Mod.refl No w).alloc (.cells #[.map (some m), .slice (some ⟨l2, 0, none⟩) 1 lc] 61)) (fun _ _ _ x => x))
  have N0 := Lib.hid ((Mod.refl No w).alloc (.cells #[.map (some m), .slice (some ⟨l2, 0, none⟩) 1 lc] 61))
  have k1 : (w.alloc (.cells #[.map (some m), .slice (some ⟨l2, 0, none⟩) 1 lc] 61)).cell? ⟨w.heap.size, 1, none⟩ = some (.slice (some ⟨l2, 0, none⟩) 1 lc) := blk_cell B0.out rfl
  clear hm hsv hl
  generalize hw0 : w.alloc (.cells #[.map (some m), .slice (some ⟨l2, 0, none⟩) 1 lc] 61) = w0 at *
  go_enter Tryz.func34, Tryz.ntmps34
  go_wp2_with fail
  go_loopw [3, 9] (fun v3 v9 wr => ((v9 = .int .i64 0 ∧ v3 = .slice none 0 0) ∨ (v9 = .int .i64 1 ∧ ∃ g c, v3 = .slice (some ⟨g, 0, none⟩) 1 c)) ∧ Mod No w0 wr) (fun _ v _ => 1 - (intOf v).toNat)
  case atStart => exact ⟨.inl ⟨rfl, rfl⟩, Mod.refl _ _⟩
  case round =>
    obtain ⟨ho, hm⟩ := hrel
    have HM := Lib.hid hm
    have b1 := Lib.hid (hm.blk B0.out (fun x => x))
    have b2 := Lib.hid (hm.blk M0.out (fun x => x))
    have b3 := Lib.hid (hm.blk L0.out (fun x => x))
    have b4 := Lib.hid (R0.out.later hm (fun _ _ _ x => x))
    clear hm
    rcases ho with ⟨rfl, rfl⟩ | ⟨rfl, g, c, rfl⟩
    · have d0 : wr.cell? ⟨l2, 0, none⟩ = some (.int .i64 0) := blk_cell b3.out h0
      have d1 : wr.cell? ⟨l2, 1, none⟩ = some (.int .i64 1) := blk_cell b3.out h1
      go_wp2_with fail
      have e1 := Lib.hid (blk_new wr (.cells #[.int .i64 0, .int .i64 1] 108))
      have e2 := Lib.hid (blk_old (o' := .cells #[.int .i64 0, .int .i64 1] 108) b1.out)
      have e3 := Lib.hid (blk_old (o' := .cells #[.int .i64 0, .int .i64 1] 108) b2.out)
      have e4 := Lib.hid (b4.out.later ((Mod.refl No wr).alloc (.cells #[.int .i64 0, .int .i64 1] 108)) (fun _ _ _ x => x))
      have E := Lib.hid (HM.out.alloc (.cells #[.int .i64 0, .int .i64 1] 108))
      generalize wr.alloc (.cells #[.int .i64 0, .int .i64 1] 108) = w5 at *
      generalize wr.heap.size = kb at *
      clear b1 b2 b3 b4 d0 d1 HM
      refine no_panic (fun Q2 hQ2 hN2 => ?_)
      have HQ2 := Lib.hid hQ2
      have HN2 := Lib.hid hN2
      clear hQ2 hN2
      refine wp_region_float (fun w' => Mod No w5 w') [0, 1, 2, 3, 4, 5, 6, 7, 8] [9, 10, 11, 12, 13] (by kernel_rfl) (by kernel_rfl) (fun d v c a w h => HQ2.out d v c a w h) ?_
      refine float_move rfl rfl rfl (fun L hL => ?_)
      go_simp
      refine hL _ (float_cons (.pointer (some ⟨kb, 0, none⟩)) rfl rfl (fun w _ => by go_simp) (fun L hL => ?_))
      go_simp
      refine hL _ (float_cons (.int .i64 0) rfl rfl (fun w' hw => by have c : w'.cell? ⟨kb, 0, none⟩ = some (.int .i64 0) := blk_cell (hw.blk e1.out (fun x => x)) rfl; clear hw; go_simp) (fun L hL => ?_))
      go_simp
      refine hL _ (float_cons (.pointer (some ⟨kb, 1, none⟩)) rfl rfl (fun w _ => by go_simp) (fun L hL => ?_))
      go_simp
      refine hL _ (float_cons (.int .i64 1) rfl rfl (fun w' hw => by have c : w'.cell? ⟨kb, 1, none⟩ = some (.int .i64 1) := blk_cell (hw.blk e1.out (fun x => x)) rfl; clear hw; go_simp) (fun L hL => ?_))
      go_simp
      refine hL _ (float_cons (.pointer (some ⟨w.heap.size, 0, none⟩)) rfl rfl (fun w _ => by go_simp) (fun L hL => ?_))
      go_simp
      refine hL _ (float_cons (.map (some m)) rfl rfl (fun w' hw => by have c : w'.cell? ⟨w.heap.size, 0, none⟩ = some (.map (some m)) := blk_cell (hw.blk e2.out (fun x => x)) rfl; clear hw; go_simp) (fun L hL => ?_))
      go_simp
      refine hL _ (float_cons (keyV 1) rfl rfl (fun w' hw => by
        have c : w'.cell? ⟨kb, 0, none⟩ = some (.int .i64 0) := blk_cell (hw.blk e1.out (fun x => x)) rfl
        have c1 : w'.cell? ⟨kb, 1, none⟩ = some (.int .i64 1) := blk_cell (hw.blk e1.out (fun x => x)) rfl
        unfold keyV; clear hw; go_simp) (fun L hL => ?_))
      go_simp
      refine hL _ (float_cons sv rfl rfl (fun w' hw => by
        have c := look_one sv w' (hw.blk e3.out (fun x => x))
        clear hw; go_simp) (fun L hL => ?_))
      go_simp
      refine hL _ (float_nil ?_)
      clear hL L
      have hvd := e4.out.later ((Mod.refl No w5).drew) (fun _ _ _ x => x)
      refine seqK_cons rfl ((Mod.refl No w5).drew) (fun L hL => ?_)
      go_wp2_with fail
      refine (clone64 _ _ hvd).mono ?_
      rintro e w6 ⟨g6, c6, rfl, hm6, _, hr6⟩
      have N6 := Lib.hid (show Mod No w5 w6 from (Mod.refl No w5).drew.then hm6)
      clear hm6 hr6 hvd
      go_wp2_with fail
      refine seqK_cons rfl N6.out (fun L hL => ?_)
      go_wp2_with fail
      refine seqK_cons rfl N6.out (fun L hL => ?_)
      go_wp2_with fail
      have W7 := Lib.hid (blk_new w6 (.cells #[.int .i64 0, .int .i64 1, .slice (some ⟨g6, 0, none⟩) 64 c6] 154))
      have N7 := Lib.hid (N6.out.alloc (.cells #[.int .i64 0, .int .i64 1, .slice (some ⟨g6, 0, none⟩) 64 c6] 154))
      generalize w6.alloc (.cells #[.int .i64 0, .int .i64 1, .slice (some ⟨g6, 0, none⟩) 64 c6] 154) = w7 at *
      generalize w6.heap.size = nb at *
      clear N6
      refine seqK_cons rfl N7.out (fun L hL => ?_)
      refine (wpList_append_own_at _ rfl (.tmp 13) (.tmp 24) 50 rfl w7.heap.size 154 i1 (.agg #[.int .i64 0, .int .i64 0, .slice none 0 0]) 3 40 Tryz.underlying50 hi1 hz1 hs1 hb1 rfl (by omega) (.slice none 0 0) 0 [] rfl (World.ownsRow_nil _ _ _ _) ⟨nb, 0, none⟩ 1 1 [.int .i64 0, .int .i64 1, .slice (some ⟨g6, 0, none⟩) 64 c6] rfl rfl (fun j u hu => by
        rw [show (⟨nb, 0, none⟩ : Addr).add j = ⟨nb, j, none⟩ from by unfold Addr.add; split <;> simp_all]
        exact blk_cell W7.out (by simpa using hu)) (fun u hu => by simp at hu; rcases hu with rfl | rfl | rfl <;> rfl) (by unfold maxLen; omega) (by omega) (Nat.le_refl _) ?_)
      intro v8 w8 o8 gr8 _ ob8
      obtain ⟨g8, c8, rfl⟩ : ∃ g c, v8 = .slice (some ⟨g, 0, none⟩) 1 c := by
        rcases o8.2 with ⟨_, h0⟩ | ⟨g, cap, cur, h1, _⟩
        · omega
        · exact ⟨g, cap, h1⟩
      have N8 := Lib.hid (N7.out.grown gr8 (fun k hk => by cases hk))
      clear o8 gr8 ob8 W7 N7
      go_simp
      refine hL _ _ (seqK_cons rfl N8.out (fun L hL => ?_))
      go_wp2_with fail
      refine seqK_nil N8.out ?_
      refine HN2.out _ _ ?_
      clear HQ2 HN2
      go_wp2_with fail
      go_roundw
      case rel => exact ⟨.inr ⟨by go_num, g8, c8, rfl⟩, E.out.then N8.out⟩
      case measure => simp [intOf]
    · go_wp2_with fail
      go_ret
      exact ⟨g, c, rfl, N0.out.then HM.out⟩
end Go.Proofs.YtmijbomfekopjaaGreatDoor
