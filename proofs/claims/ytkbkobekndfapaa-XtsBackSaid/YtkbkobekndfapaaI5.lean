/- The inner loop of the document's Keys: four bytes appended. -/
import Derived.Test.YtkbkobekndfapaaI1
import Derived.Test.YtkbkobekndfapaaW
import Derived.Test.YtkbkobekndfapaaZ
import Derived.Maps.AppendAt
namespace Go.Proofs.Ytkbkobekndfapaa
open Go.RowKit
noncomputable def keysLoop (k : Nat) : Code := ((Try.f13.body.map loopsOf).getD []).getD k .skip

theorem own_slice {w : World} {base n : Nat} {v : Value} {xs : List Value} (h : w.ownsRow base 5 1 v n xs) (hn : 0 < n) : ∃ g c, v = .slice (some ⟨g, 0, none⟩) n c ∧ base ≤ g ∧ g < w.heap.size ∧ n ≤ c ∧ c ≤ maxLen := by
  rcases h.2 with ⟨_, h0⟩ | ⟨g, c, cur, hv, hb, hg, h1, h2, _⟩
  · omega
  · exact ⟨g, c, hv, hb, blk_lt hg, h1, h2⟩

set_option maxRecDepth 100000 in
set_option maxHeartbeats 4000000 in
theorem rapp_loop {N : Nat} {nI : Int} (hnI : nI = (N : Int)) (i tb : Nat) (l t : List Nat) (v4 : Value) (w0 w : World) (hN : N ≤ i) (hN2 : 1 ≤ N) (hi : i ≤ 1000) (hl : Bytes (4 * i) l) (ht : Bytes 4 t) (htb : w.heap[tb]? = some (.cells (bA t) 5 (0, 0))) (hne : v4.ownBlock ≠ some tb)
    (hown : w.ownsRow w0.heap.size 5 1 v4 (4 * i) (bL l)) (hm : Mod No w0 w) (c0 c1 c2 c5 c9 c10 c11 c12 c13 c14 c15 c16 c17 c18 c19 c20 c21 c22 c23 c24 c25 c26 c27 c28 c29 c30 c31 c32 c33 c34 c35 c36 c37 c38 c39 c40 c41 c42 c43 c44 c45 c46 c47 c48 c49 c50 c51 c52 c53 c54 c55 c56 c57 c58 c59 c60 c61 c62 c63 c64 c65 c66 c67 c68 c69 c70 c71 c72 c73 c74 c75 c76 c77 c78 c79 c80 c81 c82 c83 c84 c85 c86 c87 c88 c89 c90 c91 c92 c93 c94 c95 c96 c97 c98 c99 c100 c101 c102 c103 c104 c105 c106 c107 c108 c109 c110 c111 c112 c113 c114 c115 c116 c117 c118 c119 c120 c121 c122 c123 c124 c125 c126 : Value) (Q : Exit → Act → World → Prop) (hQ : ∀ d v c a w, Q (.panic c) (Act.put a d v) w → Q (.panic c) a w)
    (hexit : ∀ (v4' u8 u105 u106 u107 u108 u109 u110 u111 u112 u113 u114 u115 u116 u117 u118 u119 u120 u121 u122 u123 u124 u125 : Value) (w' : World), Mod No w0 w' → w'.ownsRow w0.heap.size 5 1 v4' (4 * i + 4) (bL (l ++ someB N i l t 4)) → Q (.exit 2) ⟨List.toArray (c0 :: c1 :: c2 :: .int .i64 nI :: v4' :: c5 :: .int .i64 (i : Int) :: .slice (some ⟨tb, 0, none⟩) 4 4 :: u8 :: c9 :: c10 :: c11 :: c12 :: c13 :: c14 :: c15 :: c16 :: c17 :: c18 :: c19 :: c20 :: c21 :: c22 :: c23 :: c24 :: c25 :: c26 :: c27 :: c28 :: c29 :: c30 :: c31 :: c32 :: c33 :: c34 :: c35 :: c36 :: c37 :: c38 :: c39 :: c40 :: c41 :: c42 :: c43 :: c44 :: c45 :: c46 :: c47 :: c48 :: c49 :: c50 :: c51 :: c52 :: c53 :: c54 :: c55 :: c56 :: c57 :: c58 :: c59 :: c60 :: c61 :: c62 :: c63 :: c64 :: c65 :: c66 :: c67 :: c68 :: c69 :: c70 :: c71 :: c72 :: c73 :: c74 :: c75 :: c76 :: c77 :: c78 :: c79 :: c80 :: c81 :: c82 :: c83 :: c84 :: c85 :: c86 :: c87 :: c88 :: c89 :: c90 :: c91 :: c92 :: c93 :: c94 :: c95 :: c96 :: c97 :: c98 :: c99 :: c100 :: c101 :: c102 :: c103 :: c104 :: u105 :: u106 :: u107 :: u108 :: u109 :: u110 :: u111 :: u112 :: u113 :: u114 :: u115 :: u116 :: u117 :: u118 :: u119 :: u120 :: u121 :: u122 :: u123 :: u124 :: u125 :: c126 :: []), []⟩ w') :
    Code.wp Try.prog (Code.loop (keysLoop 1)) Q ⟨List.toArray (c0 :: c1 :: c2 :: .int .i64 nI :: v4 :: c5 :: .int .i64 (i : Int) :: .slice (some ⟨tb, 0, none⟩) 4 4 :: .int .i64 0 :: c9 :: c10 :: c11 :: c12 :: c13 :: c14 :: c15 :: c16 :: c17 :: c18 :: c19 :: c20 :: c21 :: c22 :: c23 :: c24 :: c25 :: c26 :: c27 :: c28 :: c29 :: c30 :: c31 :: c32 :: c33 :: c34 :: c35 :: c36 :: c37 :: c38 :: c39 :: c40 :: c41 :: c42 :: c43 :: c44 :: c45 :: c46 :: c47 :: c48 :: c49 :: c50 :: c51 :: c52 :: c53 :: c54 :: c55 :: c56 :: c57 :: c58 :: c59 :: c60 :: c61 :: c62 :: c63 :: c64 :: c65 :: c66 :: c67 :: c68 :: c69 :: c70 :: c71 :: c72 :: c73 :: c74 :: c75 :: c76 :: c77 :: c78 :: c79 :: c80 :: c81 :: c82 :: c83 :: c84 :: c85 :: c86 :: c87 :: c88 :: c89 :: c90 :: c91 :: c92 :: c93 :: c94 :: c95 :: c96 :: c97 :: c98 :: c99 :: c100 :: c101 :: c102 :: c103 :: c104 :: c105 :: c106 :: c107 :: c108 :: c109 :: c110 :: c111 :: c112 :: c113 :: c114 :: c115 :: c116 :: c117 :: c118 :: c119 :: c120 :: c121 :: c122 :: c123 :: c124 :: c125 :: c126 :: []), []⟩ w := by
  subst hnI
  obtain ⟨i5, hi5, hz5, hs5, hb5⟩ := info_parts info5
  have HX := Lib.hid hexit
  have htb1 := Lib.hid htb
  have hown1 := Lib.hid hown
  have HQ := Lib.hid hQ
  have hm0 := Lib.hid hm
  have hne1 := Lib.hid hne
  clear hexit htb hown hQ hm hne
  conv => arg 2; arg 1; whnf
  go_loopw [4, 8] (fun va v wi => ∃ k : Nat, k ≤ 4 ∧ v = .int .i64 k ∧ Mod No w0 wi ∧ va.ownBlock ≠ some tb ∧ wi.heap[tb]? = some (.cells (bA t) 5 (0, 0)) ∧
    wi.ownsRow w0.heap.size 5 1 va (4 * i + k) (bL (l ++ someB N i l t k))) (fun _ v _ => 4 - (intOf v).toNat)
  case atStart => exact ⟨0, by omega, rfl, hm0.out, hne1.out, htb1.out, by rw [someB_zero, List.append_nil]; exact hown1.out⟩
  case round =>
    obtain ⟨k, hkk, rfl, y2, y3, y0, y1⟩ := hrel
    have hks := Lib.hid (someB_succ N i l t k)
    have hlk2 : (l ++ someB N i l t k).length = 4 * i + k := by rw [List.length_append, someB_len, hl.1]
    obtain ⟨g, cp, hv, hbg, hgl, hcp, hcp2⟩ := own_slice y1 (by omega)
    subst hv
    have hgt : g ≠ tb := fun e => y3 (by rw [e]; rfl)
    have htl := blk_lt y0
    have z0 := Lib.hid y0
    have z1 := Lib.hid y1
    have z2 := Lib.hid y2
    have hsz := y2.size
    unfold maxLen at hcp2
    clear y0 y1 y2 y3
    by_cases hlk : k < 4
    · have e1 : 4 * (i - N) + k < l.length := by rw [hl.1]; omega
      have cA := own_cell z1.out (j := 4 * (i - N) + k) (by rw [hlk2]; omega)
      rw [append_getD _ _ _ e1] at cA
      have cB := byte_cell z0.out (j := k) (by rw [ht.1]; exact hlk)
      have hxv := bxor _ _ (hl.get (4 * (i - N) + k)) (ht.get k)
      generalize l.getD (4 * (i - N) + k) 0 = xa at *
      generalize t.getD k 0 = xb at *
      have hz2 : (4 * ((i : Int) - (N : Int)) + (k : Int)).toNat = 4 * (i - N) + k := by omega
      have hz3 : 0 ≤ 4 * ((i : Int) - (N : Int)) + (k : Int) := by omega
      have hz4 : 4 * ((i : Int) - (N : Int)) + (k : Int) < ((4 * i + k : Nat) : Int) := by omega
      clear e1
      go_wp2_with fail
      refine wp_region_sched (C := fun w' => ∃ n, w' = wr.drewN n) [0] (List.range' 1 14) 15 [16, 17] (by kernel_rfl) (by kernel_rfl) (fun d v c a w h => HQ.out d v c a w h) ⟨1, rfl⟩ ?_
      refine pure_cons rfl (yields_move rfl rfl) (fun K hK => ?_)
      go_simp
      refine hK _ (pure_nil (reads_range 1 14 (by simp) ?_))
      clear hK K
      simp only [List.take_succ_cons, List.take_zero, List.drop_succ_cons, List.drop_zero]
      repeat (go_big_quiet_step (fail))
      refine wpQuiet_nil ?_
      rintro _ ⟨nq, rfl⟩
      refine seq_range 15 3 (by simp) ?_
      simp only [List.drop_succ_cons, List.drop_zero]
      go_wp2_with (at_builtin; refine wpList_append_own_at _ rfl (.tmp 109) (.tmp 124) 22 rfl w0.heap.size 5 i5 (.int .u8 0) 1 1 Try.underlying22 hi5 hz5 hs5 hb5 rfl (by omega) (.slice (some ⟨g, 0, none⟩) (4 * i + k) cp) (4 * i + k) _ rfl ((own_mod z1.out ((Mod.refl No wr).drewN nq) (fun x => x)).alloc _) ⟨wr.heap.size, 0, none⟩ 1 1 [bv (xa ^^^ xb)] rfl rfl (new_one (wr.drewN nq) _ (bv (xa ^^^ xb)) 5 rfl) (fun u hu => by simp at hu; subst hu; rfl) (by unfold maxLen; omega) (by omega) (by simp; omega) ?_; refine hold ?_)
      unfold Hold
      intro v2 w2 hown2 hgr2 _ hob
      have own2 := Lib.hid hown2
      have J2 := Lib.hid (((z2.out.drewN nq).alloc (.cells #[bv (xa ^^^ xb)] 5)).grown hgr2 (fun k hk hlt => absurd hlt (by have e : g = k := (by injection hk); omega)))
      have J0 := Lib.hid ((hgr2.block tb (by simp; omega) (fun e => hgt (show tb = g by injection e).symm)).trans (blk_old (o' := .cells #[bv (xa ^^^ xb)] 5) ((z2.out.drewN nq |> fun _ => z0.out : wr.heap[tb]? = _))))
      have J3 := Lib.hid (show v2.ownBlock ≠ some tb by
        rcases hob with h | h
        · rw [h]; intro e; exact hgt (by injection e)
        · rw [h]; intro e; injection e with e; try simp at e
          omega)
      clear hown2 hgr2 hob
      go_wp2_with fail
      go_roundw
      case rel =>
        refine ⟨k + 1, by omega, by go_num, J2.out, J3.out, J0.out, ?_⟩
        rw [hks.out, ← List.append_assoc, bL_append]; exact own2.out
      case measure => simp [intOf]; omega
    · have hk4 : k = 4 := by omega
      subst hk4
      clear hks hkk hlk hlk2
      go_wp2_with fail
      exact HX.out _ _ _ _ _ _ _ _ _ _ _ _ _ _ _ _ _ _ _ _ _ _ _ _ z2.out z1.out
end Go.Proofs.Ytkbkobekndfapaa
