/- The last loops of New of package aes: the round keys cut out of the bytes; S's other way. -/
import Derived.Test.YtkbkobekndfapaaW
import Derived.Test.YtkbkobekndfapaaT
namespace Go.Proofs.Ytkbkobekndfapaa
open Go.RowKit

theorem set_head (a b : Value) (l : Array Value) : (#[a] ++ l).setIfInBounds 0 b = #[b] ++ l := by
  apply Array.ext'
  simp

theorem set_tail (a : Value) (l : List Nat) (i x : Nat) : (#[a] ++ bA l).setIfInBounds (1 + i) (.int .u8 (x : Int)) = #[a] ++ bA (l.set i x) := by
  rw [← bA_set]
  apply Array.ext'
  simp [Nat.add_comm 1 i]

set_option maxRecDepth 100000 in
set_option maxHeartbeats 4000000 in
theorem key_loop (NK wb pb : Nat) (flat : List Nat) (cur : Array Value) (w : World) (hNK : NK ≤ 100) (hf : Bytes (16 * NK) flat) (hrow : ∀ j, j < 16 * NK → cur[j]? = some (.int .u8 ((flat.getD j 0 : Nat) : Int)))
    (hwb : w.heap[wb]? = some (.cells cur 5 (0, 0))) (hpb : w.heap[pb]? = some (.cells (#[.slice none 0 0] ++ bA (noughts 256)) 59 (0, 0))) (hne : wb ≠ pb) (c0 c1 c2 c3 c4 c6 c7 c8 c9 c10 c12 c13 c14 c15 c16 c17 c18 c19 c20 c21 c22 c23 c24 c25 c26 c27 c28 c29 c30 c31 c32 c33 c34 c35 c36 c37 c38 c39 c40 c41 c42 c43 c44 c45 c46 c47 c48 c49 c50 c51 c52 c53 c54 c55 c56 c57 c58 c59 c60 c61 c62 c63 c64 c65 c66 c67 c68 c69 c70 c71 c72 c73 c74 c75 c76 c77 c78 c79 c80 c81 c82 c83 c84 c85 c86 c87 c88 c89 c90 c91 c92 c93 c94 c95 c96 c97 c98 c99 c100 c101 c102 c103 c104 c105 c106 c107 c108 c109 c110 c111 c112 c113 c114 c115 c116 c117 c118 c119 c120 c121 c122 c123 c124 c125 c126 c127 c128 c129 c130 c131 c132 c133 c134 c135 c136 c137 c138 c139 c140 c141 c142 c143 c144 c145 c146 : Value) (Q : Exit → Act → World → Prop) (hQ : ∀ d v c a w, Q (.panic c) (Act.put a d v) w → Q (.panic c) a w)
    (hexit : ∀ (u5 u116 u117 u118 u119 u120 u121 u122 u123 u124 u125 u126 u127 u128 u129 u130 u131 u132 : Value) (w' : World) (kv : Value), Mod (Just pb) w w' → w'.heap[pb]? = some (.cells (#[kv] ++ bA (noughts 256)) 59 (0, 0)) → w'.ownsRow w.heap.size 23 16 kv NK (bL flat) → Q (.exit 6) ⟨List.toArray (c0 :: c1 :: c2 :: c3 :: c4 :: u5 :: c6 :: c7 :: c8 :: c9 :: c10 :: .pointer (some ⟨pb, 0, none⟩) :: c12 :: c13 :: c14 :: c15 :: c16 :: c17 :: c18 :: c19 :: c20 :: c21 :: c22 :: c23 :: c24 :: c25 :: c26 :: c27 :: c28 :: c29 :: c30 :: c31 :: c32 :: c33 :: c34 :: c35 :: c36 :: c37 :: c38 :: c39 :: c40 :: c41 :: c42 :: c43 :: c44 :: c45 :: c46 :: c47 :: c48 :: c49 :: c50 :: c51 :: c52 :: c53 :: c54 :: c55 :: c56 :: c57 :: c58 :: c59 :: c60 :: c61 :: c62 :: c63 :: c64 :: c65 :: c66 :: c67 :: c68 :: c69 :: c70 :: c71 :: c72 :: c73 :: c74 :: c75 :: c76 :: c77 :: c78 :: c79 :: c80 :: c81 :: c82 :: c83 :: c84 :: c85 :: c86 :: c87 :: c88 :: c89 :: c90 :: c91 :: c92 :: c93 :: c94 :: c95 :: c96 :: c97 :: c98 :: c99 :: c100 :: c101 :: c102 :: c103 :: c104 :: c105 :: c106 :: c107 :: c108 :: c109 :: c110 :: c111 :: c112 :: c113 :: c114 :: c115 :: u116 :: u117 :: u118 :: u119 :: u120 :: u121 :: u122 :: u123 :: u124 :: u125 :: u126 :: u127 :: u128 :: u129 :: u130 :: u131 :: u132 :: c133 :: c134 :: c135 :: c136 :: c137 :: c138 :: c139 :: c140 :: c141 :: c142 :: c143 :: c144 :: c145 :: c146 :: []), []⟩ w') :
    Code.wp Try.prog (Code.loop (newLoop 3)) Q ⟨List.toArray (c0 :: c1 :: c2 :: c3 :: c4 :: .slice (some ⟨wb, 0, none⟩) (16 * NK) (16 * NK) :: c6 :: c7 :: c8 :: c9 :: c10 :: .pointer (some ⟨pb, 0, none⟩) :: c12 :: c13 :: c14 :: c15 :: c16 :: c17 :: c18 :: c19 :: c20 :: c21 :: c22 :: c23 :: c24 :: c25 :: c26 :: c27 :: c28 :: c29 :: c30 :: c31 :: c32 :: c33 :: c34 :: c35 :: c36 :: c37 :: c38 :: c39 :: c40 :: c41 :: c42 :: c43 :: c44 :: c45 :: c46 :: c47 :: c48 :: c49 :: c50 :: c51 :: c52 :: c53 :: c54 :: c55 :: c56 :: c57 :: c58 :: c59 :: c60 :: c61 :: c62 :: c63 :: c64 :: c65 :: c66 :: c67 :: c68 :: c69 :: c70 :: c71 :: c72 :: c73 :: c74 :: c75 :: c76 :: c77 :: c78 :: c79 :: c80 :: c81 :: c82 :: c83 :: c84 :: c85 :: c86 :: c87 :: c88 :: c89 :: c90 :: c91 :: c92 :: c93 :: c94 :: c95 :: c96 :: c97 :: c98 :: c99 :: c100 :: c101 :: c102 :: c103 :: c104 :: c105 :: c106 :: c107 :: c108 :: c109 :: c110 :: c111 :: c112 :: c113 :: c114 :: c115 :: c116 :: c117 :: c118 :: c119 :: c120 :: c121 :: c122 :: c123 :: c124 :: c125 :: c126 :: c127 :: c128 :: c129 :: c130 :: c131 :: c132 :: c133 :: c134 :: c135 :: c136 :: c137 :: c138 :: c139 :: c140 :: c141 :: c142 :: c143 :: c144 :: c145 :: c146 :: []), []⟩ w := by
  obtain ⟨i23, hi23, hz23, hs23, hb23⟩ := info_parts info23
  have HX := Lib.hid hexit
  have HQ := Lib.hid hQ
  have hwb1 := Lib.hid hwb
  have hpb1 := Lib.hid hpb
  have hrow1 := Lib.hid hrow
  have hltp : pb < w.heap.size := blk_lt hpb
  clear hexit hQ hwb hpb hrow
  conv => arg 2; arg 1; whnf
  go_loopw [5] (fun v wi => ∃ m off : Nat, ∃ kv : Value, m ≤ NK ∧ v = .slice (some ⟨wb, off, none⟩) (16 * NK - 16 * m) (16 * NK - 16 * m) ∧ (m < NK → off = 16 * m) ∧ Mod (Just pb) w wi ∧
    wi.heap[pb]? = some (.cells (#[kv] ++ bA (noughts 256)) 59 (0, 0)) ∧ wi.ownsRow w.heap.size 23 16 kv m (bL (flat.take (16 * m)))) (fun v _ => match v with | .slice _ k _ => k | _ => 0)
  case atStart => exact ⟨0, 0, .slice none 0 0, by omega, rfl, fun _ => rfl, Mod.refl _ _, hpb1.out, World.ownsRow_nil _ _ _ _⟩
  case round =>
    obtain ⟨m, off, kv, hm, rfl, hoff, y2, y0, y1⟩ := hrel
    have z0 := Lib.hid y0
    have z1 := Lib.hid y1
    have z2 := Lib.hid y2
    have zw := Lib.hid (y2.blk hwb1.out (not_just hne))
    clear y0 y1 y2
    by_cases hlm : m < NK
    · obtain rfl : off = 16 * m := hoff hlm
      clear hoff
      have hd : decide (0 < 16 * NK - 16 * m) = true := by simp; omega
      have hdi : decide ((0 : Int) < ((16 * NK - 16 * m : Nat) : Int)) = true := by simp; omega
      have harr := fun (a : Addr) (w : World) => run_array16 w a (16 * NK - 16 * m) (16 * NK - 16 * m) (by omega)
      have kb : Bytes 16 (flatKey flat m) := flatKey_bytes hf.2 m
      have cp : wr.cell? ⟨pb, 0, none⟩ = some kv := blk_cell z0.out (by rw [Array.getElem?_append_left (by simp)]; rfl)
      have fp : wr.frozen? ⟨pb, 0, none⟩ = false := blk_free z0.out
      have hbk : ∀ j v, (bA (flatKey flat m))[j]? = some v → cur[16 * m + j]? = some v := by
        intro j v hv
        have hj : j < 16 := by have := (Array.getElem?_eq_some_iff.1 hv).1; rw [bA_size, kb.1] at this; exact this
        rw [hrow1.out _ (by omega), ← hv, bA_get (by rw [kb.1]; exact hj), flatKey_get _ _ _ hj]
      have hbk1 := Lib.hid hbk
      have htake := Lib.hid (take_key hf hlm)
      clear hbk
      generalize flatKey flat m = key at *
      go_wp2_with fail
      refine wp_region_floats (fun w' => w'.heap[pb]? = some (.cells (#[kv] ++ bA (noughts 256)) 59 (0, 0)) ∧ w'.heap[wb]? = some (.cells cur 5 (0, 0))) [0, 1, 2, 3, 4, 5, 6, 7] [8, 9] 10 [11, 12] (by kernel_rfl) (by kernel_rfl) (fun d v c a w h => HQ.out d v c a w h) ?_
      refine float_move rfl rfl rfl (fun L hL => ?_)
      go_simp
      refine hL _ (float_move rfl rfl rfl (fun L hL => ?_))
      go_simp
      refine hL _ (float_cons (.pointer (some ⟨pb, 0, none⟩)) rfl rfl (fun w _ => by go_simp) (fun L hL => ?_))
      go_simp
      refine hL _ (float_cons (.pointer (some ⟨pb, 0, none⟩)) rfl rfl (fun w _ => by go_simp) (fun L hL => ?_))
      go_simp
      refine hL _ (float_cons kv rfl rfl (fun w hw => by have c := blk_cell (j := 0) (v := kv) hw.1 (by rw [Array.getElem?_append_left (by simp)]; rfl); clear hw; go_simp) (fun L hL => ?_))
      go_simp
      refine hL _ (float_move rfl rfl rfl (fun L hL => ?_))
      go_simp
      refine hL _ (float_cons (.pointer (some ⟨wb, 16 * m, none⟩)) rfl rfl (fun w _ => by go_simp) (fun L hL => ?_))
      go_simp
      refine hL _ (float_cons (.agg (bA key)) rfl rfl (fun w hw => exec_load16 _ rfl wb (16 * m) rfl 5 cur key kb.1 w hw.2 hbk1.out) (fun L hL => ?_))
      go_simp
      refine hL _ (float_nil ?_)
      clear hL L
      refine seqT_cons rfl ⟨z0.out, zw.out⟩ (fun L hL => ?_)
      refine wpList_build16 rfl _ rfl key kb.1 rfl ?_
      go_simp
      refine hL _ _ (seqT_cons rfl ⟨blk_old z0.out, blk_old zw.out⟩ (fun L hL => ?_))
      have zo := z1.out.alloc (.cells (bA key) 23)
      have hnews : ∀ j u, (bL key)[j]? = some u → (wr.drew.alloc (.cells (bA key) 23)).cell? ((⟨wr.heap.size, 0, none⟩ : Addr).add j) = some u := by
        intro j u hu
        rw [show (⟨wr.heap.size, 0, none⟩ : Addr).add j = ⟨wr.heap.size, j, none⟩ from by unfold Addr.add; split <;> simp_all]
        refine blk_cell (blk_new wr.drew _) ?_
        rw [← bA_toList] at hu
        simpa using hu
      refine wpList_append_own _ rfl _ _ 57 rfl w.heap.size 23 i23 (.agg (bA (noughts 16))) 16 16 Try.underlying57 hi23 hz23 hs23 hb23 (by show (bA (noughts 16)).size = 16; rw [bA_size, (noughts_bytes 16).1]) (by omega) kv m (bL (flat.take (16 * m))) rfl zo ⟨wr.heap.size, 0, none⟩ 1 1 (bL key) rfl (by rw [bL_len, kb.1]) hnews (bL_one key) (by unfold maxLen; omega) (by omega) (by have := z2.out.size; simp; omega) (fun kv' w3 hown3 hgr3 _ => ?_)
      go_simp
      rw [← bL_append, ← htake.out] at hown3
      obtain ⟨g', c', rfl⟩ : ∃ g c, kv' = .slice (some ⟨g, 0, none⟩) (m + 1) c := by
        rcases hown3.2 with ⟨_, h0⟩ | ⟨g, cap, cur', hv, _⟩
        · omega
        · exact ⟨g, cap, hv⟩
      have hnp : ∀ k, kv.ownBlock = some k → k ≠ pb := fun k hk => by have := (z1.out.lt k hk).1; omega
      have hnw : ∀ k, kv.ownBlock = some k → k ≠ wb := fun k hk => by have := (z1.out.lt k hk).1; have := blk_lt hwb1.out; omega
      have o0 := (hgr3.block pb (by have := blk_lt z0.out; simp; omega) (fun e => hnp pb e.symm rfl)).trans (blk_old (o' := .cells (bA key) 23) z0.out)
      have ow := (hgr3.block wb (by have := blk_lt zw.out; simp; omega) (fun e => hnw wb e.symm rfl)).trans (blk_old (o' := .cells (bA key) 23) zw.out)
      have o2 : Mod (Just pb) w w3 := ((z2.out.drew).alloc (.cells (bA key) 23)).grown hgr3 (fun k hk hlt => absurd hlt (by have := (z1.out.lt k hk).1; omega))
      have O3 := Lib.hid hown3
      have O0 := Lib.hid o0
      have OW := Lib.hid ow
      have O2 := Lib.hid o2
      have fp3 : w3.frozen? ⟨pb, 0, none⟩ = false := blk_free o0
      have cp3 : w3.cell? ⟨pb, 0, none⟩ = some kv := blk_cell o0 (by rw [Array.getElem?_append_left (by simp)]; rfl)
      clear hown3 hgr3 hnews zo o0 ow o2 hnp hnw
      have hgp : g' ≠ pb := fun h => by have := (O3.out.lt g' rfl).1; omega
      refine hL _ _ (seqT_nil ⟨O0.out, OW.out⟩ (seq_cons rfl (fun L hL => ?_)))
      go_simp
      go_wp2_with fail
      refine seq_cons rfl (fun L hL => ?_)
      go_simp
      go_wp2_with fail
      refine seq_cons rfl (fun L hL => ?_)
      go_simp
      go_wp2_with fail
      refine seq_nil ?_
      go_wp2_with fail
      refine ⟨⟨m + 1, if 16 * NK - 16 * m = 16 then 16 * m else 16 * m + 16, .slice (some ⟨g', 0, none⟩) (m + 1) c', by omega, ?_, ?_, ?_, ?_, ?_⟩, ?_⟩
      · rw [show 16 * NK - 16 * (m + 1) = 16 * NK - 16 * m - 16 from by omega]
        split <;> rfl
      · intro h
        rw [if_neg (by omega)]; omega
      · exact O2.out.setCell (p := ⟨pb, 0, none⟩) (fun _ => (rfl : pb = pb)) _
      · rw [blk_set _ O0.out, set_head]
      · exact own_mod O3.out ((Mod.refl (Just pb) w3).setCell (p := ⟨pb, 0, none⟩) (fun _ => (rfl : pb = pb)) _) (not_just hgp)
      · show 16 * NK - 16 * m - 16 < 16 * NK - 16 * m
        omega
    · obtain rfl : m = NK := by omega
      have hdz : (16 * m - 16 * m : Nat) = 0 := by omega
      have hall : flat.take (16 * m) = flat := List.take_of_length_le (by rw [hf.1]; exact Nat.le_refl _)
      have hall1 := Lib.hid hall
      clear hall hoff
      go_wp2_with fail
      exact HX.out _ _ _ _ _ _ _ _ _ _ _ _ _ _ _ _ _ _ _ kv z2.out z0.out (by rw [← hall1.out]; exact z1.out)

set_option maxRecDepth 100000 in
set_option maxHeartbeats 2000000 in
theorem back_loop (w : World) (pb : Nat) (kv : Value) (h0 : w.heap[pb]? = some (.cells (#[kv] ++ bA (noughts 256)) 59 (0, 0))) (c0 c1 c2 c3 c4 c5 c6 c7 c8 c9 c10 c12 c13 c14 c15 c16 c17 c18 c19 c20 c21 c22 c23 c24 c25 c26 c27 c28 c29 c30 c31 c32 c33 c34 c35 c36 c37 c38 c39 c40 c41 c42 c43 c44 c45 c46 c47 c48 c49 c50 c51 c52 c53 c54 c55 c56 c57 c58 c59 c60 c61 c62 c63 c64 c65 c66 c67 c68 c69 c70 c71 c72 c73 c74 c75 c76 c77 c78 c79 c80 c81 c82 c83 c84 c85 c86 c87 c88 c89 c90 c91 c92 c93 c94 c95 c96 c97 c98 c99 c100 c101 c102 c103 c104 c105 c106 c107 c108 c109 c110 c111 c112 c113 c114 c115 c116 c117 c118 c119 c120 c121 c122 c123 c124 c125 c126 c127 c128 c129 c130 c131 c132 c135 c136 c137 c138 c139 c140 c141 c142 c143 c144 c145 c146 : Value) (Q : Exit → Act → World → Prop)
    (hexit : ∀ (u12 u13 u134 u135 u136 u137 u138 u139 u140 u141 u142 u143 u144 u145 : Value) (w' : World), Mod (Just pb) w w' → w'.heap[pb]? = some (.cells (#[kv] ++ bA isboxL) 59 (0, 0)) → Q (.exit 8) ⟨List.toArray (c0 :: c1 :: c2 :: c3 :: c4 :: c5 :: c6 :: c7 :: c8 :: c9 :: c10 :: .pointer (some ⟨pb, 0, none⟩) :: u12 :: u13 :: c14 :: c15 :: c16 :: c17 :: c18 :: c19 :: c20 :: c21 :: c22 :: c23 :: c24 :: c25 :: c26 :: c27 :: c28 :: c29 :: c30 :: c31 :: c32 :: c33 :: c34 :: c35 :: c36 :: c37 :: c38 :: c39 :: c40 :: c41 :: c42 :: c43 :: c44 :: c45 :: c46 :: c47 :: c48 :: c49 :: c50 :: c51 :: c52 :: c53 :: c54 :: c55 :: c56 :: c57 :: c58 :: c59 :: c60 :: c61 :: c62 :: c63 :: c64 :: c65 :: c66 :: c67 :: c68 :: c69 :: c70 :: c71 :: c72 :: c73 :: c74 :: c75 :: c76 :: c77 :: c78 :: c79 :: c80 :: c81 :: c82 :: c83 :: c84 :: c85 :: c86 :: c87 :: c88 :: c89 :: c90 :: c91 :: c92 :: c93 :: c94 :: c95 :: c96 :: c97 :: c98 :: c99 :: c100 :: c101 :: c102 :: c103 :: c104 :: c105 :: c106 :: c107 :: c108 :: c109 :: c110 :: c111 :: c112 :: c113 :: c114 :: c115 :: c116 :: c117 :: c118 :: c119 :: c120 :: c121 :: c122 :: c123 :: c124 :: c125 :: c126 :: c127 :: c128 :: c129 :: c130 :: c131 :: c132 :: .agg (bA sboxL) :: u134 :: u135 :: u136 :: u137 :: u138 :: u139 :: u140 :: u141 :: u142 :: u143 :: u144 :: u145 :: c146 :: []), []⟩ w') :
    Code.wp Try.prog (Code.loop (newLoop 4)) Q ⟨List.toArray (c0 :: c1 :: c2 :: c3 :: c4 :: c5 :: c6 :: c7 :: c8 :: c9 :: c10 :: .pointer (some ⟨pb, 0, none⟩) :: c12 :: c13 :: c14 :: c15 :: c16 :: c17 :: c18 :: c19 :: c20 :: c21 :: c22 :: c23 :: c24 :: c25 :: c26 :: c27 :: c28 :: c29 :: c30 :: c31 :: c32 :: c33 :: c34 :: c35 :: c36 :: c37 :: c38 :: c39 :: c40 :: c41 :: c42 :: c43 :: c44 :: c45 :: c46 :: c47 :: c48 :: c49 :: c50 :: c51 :: c52 :: c53 :: c54 :: c55 :: c56 :: c57 :: c58 :: c59 :: c60 :: c61 :: c62 :: c63 :: c64 :: c65 :: c66 :: c67 :: c68 :: c69 :: c70 :: c71 :: c72 :: c73 :: c74 :: c75 :: c76 :: c77 :: c78 :: c79 :: c80 :: c81 :: c82 :: c83 :: c84 :: c85 :: c86 :: c87 :: c88 :: c89 :: c90 :: c91 :: c92 :: c93 :: c94 :: c95 :: c96 :: c97 :: c98 :: c99 :: c100 :: c101 :: c102 :: c103 :: c104 :: c105 :: c106 :: c107 :: c108 :: c109 :: c110 :: c111 :: c112 :: c113 :: c114 :: c115 :: c116 :: c117 :: c118 :: c119 :: c120 :: c121 :: c122 :: c123 :: c124 :: c125 :: c126 :: c127 :: c128 :: c129 :: c130 :: c131 :: c132 :: .agg (bA sboxL) :: .int .i64 0 :: c135 :: c136 :: c137 :: c138 :: c139 :: c140 :: c141 :: c142 :: c143 :: c144 :: c145 :: c146 :: []), []⟩ w := by
  have HX := Lib.hid hexit
  have h00 := Lib.hid h0
  have hltp : pb < w.heap.size := blk_lt h0
  clear hexit h0
  conv => arg 2; arg 1; whnf
  go_loopw [134] (fun v wi => ∃ x : Nat, x ≤ 256 ∧ v = .int .i64 x ∧ Mod (Just pb) w wi ∧ wi.heap[pb]? = some (.cells (#[kv] ++ bA (foldUp backStep (noughts 256) x)) 59 (0, 0))) (fun v _ => 256 - (intOf v).toNat)
  case atStart => exact ⟨0, by omega, rfl, Mod.refl _ _, by rw [foldUp_zero]; exact h00.out⟩
  case round =>
    obtain ⟨x, hx, rfl, y2, y0⟩ := hrel
    have hsu := Lib.hid (foldUp_succ backStep (noughts 256) x)
    have hlen : (foldUp backStep (noughts 256) x).length = 256 := foldUp_inv (I := fun l : List Nat => l.length = 256) (noughts_bytes 256).1 (fun l i h => by show (List.set _ _ _).length = 256; rw [List.length_set]; exact h) x
    generalize hde : foldUp backStep (noughts 256) x = cu at *
    have hde1 := Lib.hid hde
    have z0 := Lib.hid y0
    have z2 := Lib.hid y2
    clear hde y0 y2
    by_cases hlx : x < 256
    · have hs := sboxL_get_lt x
      have hix := run_index_table64 sboxL sboxL_bytes.1 x hlx
      have hst1 := Lib.hid (show backStep cu x = cu.set (sboxL.getD x 0) x from rfl)
      generalize sboxL.getD x 0 = sv at *
      have cf : wr.frozen? ⟨pb, 1 + sv, none⟩ = false := blk_free z0.out
      have cc : wr.cell? ⟨pb, 1 + sv, none⟩ = some (.int .u8 ((cu.getD sv 0 : Nat) : Int)) := blk_cell z0.out (by
        rw [Array.getElem?_append_right (by simp)]
        simp only [List.size_toArray, List.length_cons, List.length_nil, Nat.zero_add, Nat.add_sub_cancel_left]
        exact bA_get (by omega))
      go_wp2_with fail
      go_roundw
      case rel =>
        refine ⟨x + 1, by omega, by go_num, z2.out.setCell (p := ⟨pb, 1 + sv, none⟩) (fun _ => (rfl : pb = pb)) _, ?_⟩
        rw [hsu.out, hst1.out, blk_set _ z0.out, set_tail]
      case measure => simp [intOf]; omega
    · have hx4 : x = 256 := by omega
      have hend := hde1.out
      rw [hx4, back_all] at hend
      have hend1 := Lib.hid hend
      clear hend hde1 hsu hx4
      go_wp2_with fail
      exact HX.out _ _ _ _ _ _ _ _ _ _ _ _ _ _ _ z2.out (by rw [hend1.out]; exact z0.out)
end Go.Proofs.Ytkbkobekndfapaa
