/- Sixty-four bytes, cloned; a sector written into the cache. -/
import Derived.Test.YtmijbomfekopjaaGreatDoorD
namespace Go.Proofs.YtmijbomfekopjaaGreatDoor
open Go.RowKit

/-- A slice of sixty-four cells. -/
def Row64 (w : World) (v : Value) : Prop := ∃ g c, v = .slice (some ⟨g, 0, none⟩) 64 c ∧ ∃ xs : List Value, xs.length = 64 ∧ (∀ u ∈ xs, u.oneCell' = true) ∧ ∀ j u, xs[j]? = some u → w.cell? ((⟨g, 0, none⟩ : Addr).add j) = some u
theorem Row64.later {w w' : World} {v : Value} (h : Row64 w v) {S : Nat → Prop} (hm : Mod S w w') (hS : ∀ g c, v = .slice (some ⟨g, 0, none⟩) 64 c → ¬ S g) : Row64 w' v := by
  obtain ⟨g, c, rfl, xs, hl, h1, hc⟩ := h
  refine ⟨g, c, rfl, xs, hl, h1, fun j u hu => ?_⟩
  have := hc j u hu
  rw [World.cell?_of_block (w := w) (hm.block _ (World.block_lt_of_cell? _ _ this) ?_), this]
  have hb : ((⟨g, 0, none⟩ : Addr).add j).block = g := by unfold Addr.add; split <;> rfl
  rw [hb]; exact hS g c rfl
theorem Row64.of_own {w : World} {base : Nat} {v : Value} {xs : List Value} (h : w.ownsRow base 5 1 v 64 xs) (h1 : ∀ u ∈ xs, u.oneCell' = true) : ∃ g c, v = .slice (some ⟨g, 0, none⟩) 64 c ∧ base ≤ g ∧ Row64 w v := by
  rcases h.2 with ⟨_, h0⟩ | ⟨g, cap, cur, hv, hbg, hr, _, _, _, ht⟩
  · omega
  · refine ⟨g, cap, hv, hbg, g, cap, hv, xs, by have := h.1; omega, h1, fun j u hu => ?_⟩
    rw [show (⟨g, 0, none⟩ : Addr).add j = ⟨g, j, none⟩ from by unfold Addr.add; split <;> simp_all]
    refine blk_cell hr ?_
    rw [← ht] at hu
    rw [List.getElem?_take] at hu
    split at hu
    · rw [← Array.getElem?_toList]; exact hu
    · cases hu
theorem info5 : (Tryz.prog.info? 5).map (fun i => (i.zero, i.size, i.bytes)) = some (some (.int .u8 0), 1, 1) := by kernel_rfl
set_option maxRecDepth 100000 in
theorem clone64 (v : Value) (w : World) (h : Row64 w v) : Calls Tryz.prog 39 #[v] w fun e w' => ∃ g c, e = .returned (.slice (some ⟨g, 0, none⟩) 64 c) ∧ Mod No w w' ∧ w.heap.size ≤ g ∧ Row64 w' (.slice (some ⟨g, 0, none⟩) 64 c) := by
  obtain ⟨i5, hi5, hz5, hs5, hb5⟩ := info_parts info5
  have A1 := Lib.hid ((Mod.refl No w).alloc (.cells #[] 5))
  have A2 := Lib.hid (show (w.alloc (.cells #[] 5)).ownsRow w.heap.size 5 1 (.slice (some ⟨w.heap.size, 0, none⟩) 0 0) 0 [] from ⟨rfl, .inr ⟨w.heap.size, 0, #[], rfl, Nat.le_refl _, blk_new _ _, Nat.le_refl _, Nat.zero_le _, rfl, rfl⟩⟩)
  have A3 := h.later A1.out (fun _ _ _ x => x)
  obtain ⟨g, c, rfl, xs, hl, h1, hc⟩ := A3
  have HC := Lib.hid hc
  have H1 := Lib.hid h1
  clear h hc h1
  have heq : ∀ w, (binOp .eql 23 (.slice (some ⟨g, 0, none⟩) 64 c) (.slice none 0 0)).run Tryz.prog w = .ok (.bool false) w := fun _ => by kernel_rfl
  go_enter Tryz.func39, Tryz.ntmps39
  go_wp2_with (at_builtin; refine wpList_append_own _ rfl (.tmp 5) (.tmp 6) 23 rfl w.heap.size 5 i5 (.int .u8 0) 1 1 Tryz.underlying23 hi5 hz5 hs5 hb5 rfl (by omega) (.slice (some ⟨w.heap.size, 0, none⟩) 0 0) 0 [] rfl A2.out ⟨g, 0, none⟩ 64 c xs rfl (by omega) HC.out H1.out (by unfold maxLen; omega) (by omega) (by simp) ?_; refine hold ?_)
  unfold Hold
  intro v1 w1 o1 g1 _
  have B1 := Lib.hid (show Mod No w w1 from A1.out.grown g1 (fun k hk hlt => by have : k = w.heap.size := (by injection hk with h; exact h.symm); omega))
  have o2 : w1.ownsRow w.heap.size 5 1 v1 64 xs := by simpa using o1
  obtain ⟨g', c', rfl, hg', hr'⟩ := Row64.of_own o2 H1.out
  have R := Lib.hid hr'
  clear A1 A2 HC H1 o1 o2 g1 heq hr'
  go_wp2_with fail
  go_ret
  exact ⟨g', c', rfl, B1.out, hg', R.out⟩

set_option maxRecDepth 100000 in
set_option maxHeartbeats 4000000 in
theorem cwrite_ok (cb lb cp db m1 m2 m3 ck : Nat) (le : Array Value) (v : Value) (w : World) (h : CacheAt w cb lb cp db m1 m2 m3 ck (.map none) (.slice none 0 0) le) (hv : Row64 w v) (hcb : cb ≠ lb) (hcd : cb ≠ db) (hc2 : cb ≠ m2) (hc3' : cb ≠ m3) :
    Calls Tryz.prog 16 #[.pointer (some ⟨cb, 0, none⟩), .int .i64 0, .int .i64 1, v] w fun e w' => ∃ m l2 lc cu sv, e = .returned (.int .i64 0) ∧ Mod (Just cb) w w' ∧
      CacheAt w' cb lb cp db m1 m2 m3 ck (.map (some m)) (.slice (some ⟨l2, 0, none⟩) 1 lc) le ∧ w.heap.size ≤ m ∧ w.heap.size ≤ l2 ∧ (∃ g c, sv = .slice (some ⟨g, 0, none⟩) 64 c ∧ w.heap.size ≤ g) ∧
      w'.heap[m]? = some (.map #[{ key := keyV 1, val := sv, born := 0 }] 1) ∧ Row64 w' sv ∧ w'.heap[l2]? = some (.cells cu 108 (0, 0)) ∧ cu[0]? = some (.int .i64 0) ∧ cu[1]? = some (.int .i64 1) := by
  have HV := Lib.hid hv
  obtain ⟨g, c, hvv, _⟩ := hv
  have H := Lib.hid h
  subst hvv
  go_enter Tryz.func16, Tryz.ntmps16
  go_wp2_with fail
  refine (may_ok cb lb cp db m1 m2 m3 ck _ _ le 1 w H.out (by omega)).mono ?_
  rintro e w1 ⟨rfl, rfl⟩
  go_wp2_with fail
  refine no_panic (fun Q2 hQ2 hN2 => ?_)
  have HQ2 := Lib.hid hQ2
  have HN2 := Lib.hid hN2
  clear hQ2 hN2
  refine wp_region_float (fun _ => True) [0, 1, 2, 3, 4, 5, 6] [7, 8] (by kernel_rfl) (by kernel_rfl) (fun d v c a w h => HQ2.out d v c a w h) ?_
  refine float_move rfl rfl rfl (fun L hL => ?_)
  go_simp
  refine hL _ (float_cons (.pointer (some ⟨cb, 0, none⟩)) rfl rfl (fun w _ => by go_simp) (fun L hL => ?_))
  go_simp
  refine hL _ (float_cons (.pointer (some ⟨cb, 1, none⟩)) rfl rfl (fun w _ => by go_simp) (fun L hL => ?_))
  go_simp
  refine hL _ (float_move rfl rfl rfl (fun L hL => ?_))
  go_simp
  refine hL _ (float_move rfl rfl rfl (fun L hL => ?_))
  go_simp
  refine hL _ (float_cons (keyV 1) rfl rfl (fun w _ => by unfold keyV; go_simp) (fun L hL => ?_))
  go_simp
  refine hL _ (float_move rfl rfl rfl (fun L hL => ?_))
  go_simp
  refine hL _ (float_nil ?_)
  clear hL L
  have hvd := HV.out.later ((Mod.refl No w).drew) (fun _ _ _ x => x)
  refine seqK_cons rfl trivial (fun L hL => ?_)
  go_wp2_with fail
  refine (clone64 _ _ hvd).mono ?_
  rintro e w2 ⟨g2, c2, rfl, hm2, hg2, hr2⟩
  have H2 := Lib.hid (H.out.later ((Mod.refl No w).drew.then hm2) (fun x => x))
  have N2 := Lib.hid (show Mod No w w2 from (Mod.refl No w).drew.then hm2)
  have R2 := Lib.hid hr2
  clear hm2 hr2 hvd
  go_wp2_with fail
  refine seqK_cons rfl trivial (fun L hL => ?_)
  go_wp2_with fail
  refine (put_ok cb _ _ _ w2 H2.out.cell).mono ?_
  rintro e w3 ⟨m, l2, lc, cu, rfl, hm3, hm, hl2, hc3, hmm3, hll3, q0, q1⟩
  have hcl := blk_lt H.out.cell
  have hg2w : w.heap.size ≤ g2 := hg2
  have R3 := Lib.hid (R2.out.later hm3 (fun g' c' e => not_just (by
    have : g2 = g' := by injection e with e1; injection e1 with e1; injection e1
    omega)))
  have N3 := Lib.hid (show Mod (Just cb) w w3 from (N2.out.mono (fun _ _ h => h.elim)).trans hm3 (fun _ _ h => h))
  have C3 := Lib.hid (show CacheAt w3 cb lb cp db m1 m2 m3 ck (.map (some m)) (.slice (some ⟨l2, 0, none⟩) 1 lc) le from ⟨hc3, hm3.blk H2.out.row (not_just (Ne.symm hcb)), H2.out.one, H2.out.dev.later hm3 (not_just (Ne.symm hcd)) (not_just (Ne.symm hc2)) (not_just (Ne.symm hc3'))⟩)
  have U3 := Lib.hid hmm3
  have T3 := Lib.hid hll3
  have hs2 := N2.out.size
  clear hm3 hc3 hmm3 hll3 R2 H2
  go_wp2_with fail
  refine seqK_nil trivial ?_
  refine HN2.out _ _ ?_
  clear HQ2 HN2
  go_wp2_with fail
  go_ret
  exact ⟨m, l2, lc, cu, _, rfl, N3.out, C3.out, by omega, by omega, ⟨g2, c2, rfl, hg2w⟩, U3.out, R3.out, T3.out, q0, q1⟩
end Go.Proofs.YtmijbomfekopjaaGreatDoor
