/- The open group: a sector put into it. -/
import Derived.Test.YtmijbomfekopjaaGreatDoorC
import Derived.Test.YtmijbomfekopjaaGreatDoorM
import Derived.Test.YtmijbomfekopjaaGreatDoorT
namespace Go.Proofs.YtmijbomfekopjaaGreatDoor
open Go.RowKit

theorem no_panic {P : Program} {c : Code} {Q : Exit → Act → World → Prop} {a : Act} {w : World} (h : ∀ Q2 : Exit → Act → World → Prop, (∀ d v c a w, Q2 (.panic c) (a.put d v) w → Q2 (.panic c) a w) → (∀ a w, Q .normal a w → Q2 .normal a w) → c.wp P Q2 a w) : c.wp P Q a w :=
  Code.wp_mono (Q := fun e a w => match e with | .normal => Q .normal a w | _ => False) (fun e a w q => by cases e <;> first | exact q | exact q.elim) (h _ (fun _ _ _ _ _ h => h) (fun _ _ h => h))

theorem info108 : (Tryz.prog.info? 108).map (fun i => (i.zero, i.size, i.bytes)) = some (some (.agg #[.int .i64 0, .int .i64 0]), 2, 16) := by kernel_rfl
theorem info_parts {P : Program} {e : TypeId} {z : Value} {s b : Nat} (h : (P.info? e).map (fun i => (i.zero, i.size, i.bytes)) = some (some z, s, b)) : ∃ i, P.info? e = some i ∧ i.zero = some z ∧ i.size = s ∧ i.bytes = b := by
  cases hi : P.info? e with
  | none => rw [hi] at h; cases h
  | some i => rw [hi] at h; simp at h; exact ⟨i, rfl, h.1, h.2.1, h.2.2⟩
theorem news108 {w : World} {nb : Nat} (h : w.heap[nb]? = some (.cells #[.int .i64 0, .int .i64 1] 108 (0, 0))) : ∀ j u, ([.int .i64 0, .int .i64 1] : List Value)[j]? = some u → w.cell? ((⟨nb, 0, none⟩ : Addr).add j) = some u := by
  intro j u hu
  rw [show (⟨nb, 0, none⟩ : Addr).add j = ⟨nb, j, none⟩ from by unfold Addr.add; split <;> simp_all]
  exact blk_cell h (by simpa using hu)
set_option maxRecDepth 100000 in
set_option maxHeartbeats 4000000 in
theorem put_ok (cb : Nat) (dv kv sv : Value) (w : World) (h : w.heap[cb]? = some (.cells #[dv, .map none, .slice none 0 0, kv] 64 (0, 0))) :
    Calls Tryz.prog 38 #[.pointer (some ⟨cb, 1, none⟩), keyV 1, sv] w fun e w' => ∃ m lb lc cu, e = .returned (.tuple #[]) ∧ Mod (Just cb) w w' ∧ w.heap.size ≤ m ∧ w.heap.size ≤ lb ∧
      w'.heap[cb]? = some (.cells #[dv, .map (some m), .slice (some ⟨lb, 0, none⟩) 1 lc, kv] 64 (0, 0)) ∧ w'.heap[m]? = some (.map #[{ key := keyV 1, val := sv, born := 0 }] 1) ∧
      w'.heap[lb]? = some (.cells cu 108 (0, 0)) ∧ cu[0]? = some (.int .i64 0) ∧ cu[1]? = some (.int .i64 1) := by
  have hmm := @run_makeMap Tryz.prog
  have hlt := blk_lt h
  have k1 : (w.alloc (.cells #[.int .i64 0, .int .i64 1] 108)).cell? ⟨cb, 1, none⟩ = some (.map none) := blk_cell (blk_old h) rfl
  have f1 : (w.alloc (.cells #[.int .i64 0, .int .i64 1] 108)).frozen? ⟨cb, 1, none⟩ = false := blk_free (blk_old h)
  have heq : ∀ w, (binOp .eql 58 (.map none) (.map none)).run Tryz.prog w = .ok (.bool true) w := fun _ => by kernel_rfl
  have H3 := Lib.hid (show (((w.setCell ⟨cb, 1, none⟩ (.map (some (w.heap.size + 1)))).alloc (.cells #[.int .i64 0, .int .i64 1] 108)).alloc (.map #[] 0)).heap[cb]? = some (.cells #[dv, .map (some (w.heap.size + 1)), .slice none 0 0, kv] 64 (0, 0)) from blk_old (blk_old (by have := blk_set (i := 1) (.map (some (w.heap.size + 1))) h; simpa using this)))
  have B3 := Lib.hid (show (((w.setCell ⟨cb, 1, none⟩ (.map (some (w.heap.size + 1)))).alloc (.cells #[.int .i64 0, .int .i64 1] 108)).alloc (.map #[] 0)).heap[w.heap.size]? = some (.cells #[.int .i64 0, .int .i64 1] 108 (0, 0)) from blk_old (blk_new' _ (by simp [World.setCell])))
  have M3 := Lib.hid (show (((w.setCell ⟨cb, 1, none⟩ (.map (some (w.heap.size + 1)))).alloc (.cells #[.int .i64 0, .int .i64 1] 108)).alloc (.map #[] 0)).heap[w.heap.size + 1]? = some (.map #[] 0) from blk_new' _ (by simp [World.setCell]))
  have N3 := Lib.hid (show Mod (Just cb) w (((w.setCell ⟨cb, 1, none⟩ (.map (some (w.heap.size + 1)))).alloc (.cells #[.int .i64 0, .int .i64 1] 108)).alloc (.map #[] 0)) from (((Mod.refl (Just cb) _).setCell (p := ⟨cb, 1, none⟩) (fun _ => (rfl : cb = cb)) _).alloc _).alloc _)
  clear h
  go_enter Tryz.func38, Tryz.ntmps38
  unfold keyV
  go_wp2_with fail
  generalize ((w.setCell ⟨cb, 1, none⟩ (.map (some (w.heap.size + 1)))).alloc (.cells #[.int .i64 0, .int .i64 1] 108)).alloc (.map #[] 0) = w3 at *
  clear k1 f1 hmm heq
  have d1 : w3.cell? ⟨cb, 1, none⟩ = some (.map (some (w.heap.size + 1))) := blk_cell H3.out rfl
  have d2 : w3.cell? ⟨cb, 2, none⟩ = some (.slice none 0 0) := blk_cell H3.out rfl
  have d3 : w3.cell? ⟨w.heap.size, 0, none⟩ = some (.int .i64 0) := blk_cell B3.out rfl
  have d4 : w3.cell? ⟨w.heap.size, 1, none⟩ = some (.int .i64 1) := blk_cell B3.out rfl
  have d5 : ∀ k, (Instr.lookup 58 (.map (some (w.heap.size + 1))) (.agg #[.int .i64 0, .int .i64 1]) true).run Tryz.prog (w3.drewN k) = .ok (.tuple #[.slice none 0 0, .bool false]) (w3.drewN k) := fun k => look_empty 1 (w3.drewN k) (c := 0) M3.out
  go_quiet (fail)
  have H4 := Lib.hid (show (w3.drewN nq).heap[cb]? = _ from H3.out)
  have B4 := Lib.hid (show (w3.drewN nq).heap[w.heap.size]? = _ from B3.out)
  have M4 := Lib.hid (show (w3.drewN nq).heap[w.heap.size + 1]? = _ from M3.out)
  have N4 := Lib.hid (N3.out.drewN nq)
  generalize w3.drewN nq = w4 at *
  clear d1 d2 d3 d4 d5 H3 B3 M3 N3
  go_wp2_with fail
  refine no_panic (fun Q2 hQ2 hN2 => ?_)
  have HQ2 := Lib.hid hQ2
  have HN2 := Lib.hid hN2
  clear hQ2 hN2
  refine wp_region_floats (fun w' => w'.heap[cb]? = some (.cells #[dv, .map (some (w.heap.size + 1)), .slice none 0 0, kv] 64 (0, 0)) ∧ w'.heap[w.heap.size]? = some (.cells #[.int .i64 0, .int .i64 1] 108 (0, 0))) [0, 1, 2, 3, 4, 5] [6, 7] 8 [9, 10] (by kernel_rfl) (by kernel_rfl) (fun d v c a w h => HQ2.out d v c a w h) ?_
  refine float_move rfl rfl rfl (fun L hL => ?_)
  go_simp
  refine hL _ (float_move rfl rfl rfl (fun L hL => ?_))
  go_simp
  refine hL _ (float_cons (.pointer (some ⟨cb, 1, none⟩)) rfl rfl (fun w _ => by go_simp) (fun L hL => ?_))
  go_simp
  refine hL _ (float_cons (.pointer (some ⟨cb, 2, none⟩)) rfl rfl (fun w _ => by go_simp) (fun L hL => ?_))
  go_simp
  refine hL _ (float_cons (.slice none 0 0) rfl rfl (fun w hw => by have c : w.cell? ⟨cb, 2, none⟩ = some (.slice none 0 0) := blk_cell hw.1 rfl; clear hw; go_simp) (fun L hL => ?_))
  go_simp
  refine hL _ (float_cons (.agg #[.int .i64 0, .int .i64 1]) rfl rfl (fun w' hw => by
    have c : w'.cell? ⟨w.heap.size, 0, none⟩ = some (.int .i64 0) := blk_cell hw.2 rfl
    have c1 : w'.cell? ⟨w.heap.size, 1, none⟩ = some (.int .i64 1) := blk_cell hw.2 rfl
    clear hw; go_simp) (fun L hL => ?_))
  go_simp
  refine hL _ (float_nil ?_)
  clear hL L
  refine seqT_cons rfl ⟨H4.out, B4.out⟩ (fun L hL => ?_)
  go_wp2_with fail
  have W5 := Lib.hid (show (w4.alloc (.cells #[.int .i64 0, .int .i64 1] 108)).drew.heap[w4.heap.size]? = some (.cells #[.int .i64 0, .int .i64 1] 108 (0, 0)) from blk_new w4 _)
  have H5 := Lib.hid (show (w4.alloc (.cells #[.int .i64 0, .int .i64 1] 108)).drew.heap[cb]? = _ from blk_old H4.out)
  have B5 := Lib.hid (show (w4.alloc (.cells #[.int .i64 0, .int .i64 1] 108)).drew.heap[w.heap.size]? = _ from blk_old B4.out)
  have M5 := Lib.hid (show (w4.alloc (.cells #[.int .i64 0, .int .i64 1] 108)).drew.heap[w.heap.size + 1]? = _ from blk_old M4.out)
  have N5 := Lib.hid (show Mod (Just cb) w (w4.alloc (.cells #[.int .i64 0, .int .i64 1] 108)).drew from (N4.out.alloc _).drew)
  have hs5 : w4.heap.size < (w4.alloc (.cells #[.int .i64 0, .int .i64 1] 108)).drew.heap.size := by have := blk_lt W5.out; exact this
  have hs4 := blk_lt M4.out
  generalize (w4.alloc (.cells #[.int .i64 0, .int .i64 1] 108)).drew = w5 at *
  generalize w4.heap.size = nb at *
  clear H4 B4 M4 N4 hL L
  obtain ⟨i1, hi1, hz1, hs1, hb1⟩ := info_parts info108
  refine seqT_cons rfl ⟨H5.out, B5.out⟩ (fun L hL => ?_)
  refine (wpList_append_own_at _ rfl (.tmp 32) (.tmp 34) 59 rfl w5.heap.size 108 i1 (.agg #[.int .i64 0, .int .i64 0]) 2 16 Tryz.underlying59 hi1 hz1 hs1 hb1 rfl (by omega) (.slice none 0 0) 0 [] rfl (World.ownsRow_nil _ _ _ _) ⟨nb, 0, none⟩ 1 1 [.int .i64 0, .int .i64 1] rfl rfl (news108 W5.out) (fun u hu => by simp at hu; rcases hu with rfl | rfl <;> rfl) (by unfold maxLen; omega) (by omega) (Nat.le_refl _) ?_)
  intro v6 w6 o6 gr6 _ ob6
  go_simp
  obtain ⟨g6, cp6, cu6, rfl, hg6, hrow6, hcp, hcp2, hsz6, htk⟩ : ∃ g cap cur, v6 = .slice (some ⟨g, 0, none⟩) 1 cap ∧ w5.heap.size ≤ g ∧ w6.heap[g]? = some (.cells cur 108 (0, 0)) ∧ 1 ≤ cap ∧ cap ≤ maxLen ∧ cur.size = cap * 2 ∧ cur.toList.take (1 * 2) = [.int .i64 0, .int .i64 1] := by
    rcases o6.2 with ⟨_, h0⟩ | ⟨g, cap, cur, h1, h2, h3, h4, h5, h6, h7⟩
    · omega
    · exact ⟨g, cap, cur, h1, h2, h3, h4, h5, h6, h7⟩
  have q0 : cu6[0]? = some (.int .i64 0) := by
    have := congrArg (fun z => z[0]?) htk
    simpa [List.getElem?_take] using this
  have q1 : cu6[1]? = some (.int .i64 1) := by
    have := congrArg (fun z => z[1]?) htk
    simpa [List.getElem?_take] using this
  have O6 := Lib.hid hrow6
  have H6 := Lib.hid ((gr6.block cb (by omega) (fun e => by cases e)).trans H5.out)
  have B6 := Lib.hid ((gr6.block w.heap.size (by omega) (fun e => by cases e)).trans B5.out)
  have M6 := Lib.hid ((gr6.block (w.heap.size + 1) (by omega) (fun e => by cases e)).trans M5.out)
  have N6 := Lib.hid (N5.out.grown gr6 (fun k hk => by cases hk))
  clear H5 B5 M5 N5 W5 o6 gr6 ob6
  have c2 : w6.cell? ⟨cb, 2, none⟩ = some (.slice none 0 0) := blk_cell H6.out rfl
  have f2 : w6.frozen? ⟨cb, 2, none⟩ = false := blk_free H6.out
  refine hL _ _ (seqT_nil ⟨H6.out, B6.out⟩ (seq_cons rfl (fun L hL => ?_)))
  go_wp2_with fail
  refine seq_cons rfl (fun L hL => ?_)
  go_wp2_with fail
  refine seq_cons rfl (fun L hL => ?_)
  go_wp2_with fail
  refine seq_nil ?_
  refine HN2.out _ _ ?_
  clear HQ2 HN2 c2 f2
  have hgc : g6 ≠ cb := by omega
  have H7 := Lib.hid (show (w6.setCell ⟨cb, 2, none⟩ (.slice (some ⟨g6, 0, none⟩) 1 cp6)).heap[cb]? = some (.cells #[dv, .map (some (w.heap.size + 1)), .slice (some ⟨g6, 0, none⟩) 1 cp6, kv] 64 (0, 0)) from by have := blk_set (i := 2) (.slice (some ⟨g6, 0, none⟩) 1 cp6) H6.out; simpa using this)
  have B7 := Lib.hid (blk_set_other (a := ⟨cb, 2, none⟩) (v := .slice (some ⟨g6, 0, none⟩) 1 cp6) B6.out (by simp; omega))
  have M7 := Lib.hid (blk_set_other (a := ⟨cb, 2, none⟩) (v := .slice (some ⟨g6, 0, none⟩) 1 cp6) M6.out (by simp; omega))
  have O7 := Lib.hid (blk_set_other (a := ⟨cb, 2, none⟩) (v := .slice (some ⟨g6, 0, none⟩) 1 cp6) O6.out (by simpa using hgc))
  have N7 := Lib.hid (N6.out.setCell (p := ⟨cb, 2, none⟩) (fun _ => (rfl : cb = cb)) (.slice (some ⟨g6, 0, none⟩) 1 cp6))
  generalize w6.setCell ⟨cb, 2, none⟩ (.slice (some ⟨g6, 0, none⟩) 1 cp6) = w7 at *
  clear H6 B6 M6 O6 N6 hrow6
  have d1 : w7.cell? ⟨cb, 1, none⟩ = some (.map (some (w.heap.size + 1))) := blk_cell H7.out rfl
  have d3 : w7.cell? ⟨w.heap.size, 0, none⟩ = some (.int .i64 0) := blk_cell B7.out rfl
  have d4 : w7.cell? ⟨w.heap.size, 1, none⟩ = some (.int .i64 1) := blk_cell B7.out rfl
  go_wp2_with fail
  refine wp_region_drew 6 (by kernel_rfl) (by kernel_rfl) ?_
  simp only [List.take_succ_cons, List.take_zero, List.drop_succ_cons, List.drop_zero]
  repeat (go_big_quiet_step (fail))
  refine wpQuiet_nil ?_
  intro nq2
  have d5 : (Instr.mapUpdate 58 (.map (some (w.heap.size + 1))) (.agg #[.int .i64 0, .int .i64 1]) sv).run Tryz.prog (w7.drewN nq2) = .ok () (putObj (w7.drewN nq2) (w.heap.size + 1) (.map #[{ key := keyV 1, val := sv, born := 0 }] 1)) := upd_empty sv (w7.drewN nq2) M7.out
  go_wp2_with fail
  go_end0
  have hne1 : cb ≠ w.heap.size + 1 := by omega
  have hne2 : g6 ≠ w.heap.size + 1 := by omega
  exact ⟨w.heap.size + 1, g6, cp6, cu6, rfl, (N7.out.drewN nq2).putObj (fun h => absurd h (by omega)) _, by omega, by omega, blk_putObj_other (w := w7.drewN nq2) H7.out hne1, blk_putObj (w := w7.drewN nq2) M7.out, blk_putObj_other (w := w7.drewN nq2) O7.out hne2, q0, q1⟩
end Go.Proofs.YtmijbomfekopjaaGreatDoor
