/- The inner loops of New of package aes: four bytes through S; four bytes appended. -/
import Derived.Test.YtkbkobekndfapaaL1
import Derived.Test.YtkbkobekndfapaaX
import Derived.Test.YtkbkobekndfapaaS
namespace Go.Proofs.Ytkbkobekndfapaa
open Go.RowKit

def loopsOf : Code → List Code
  | .loop c => c :: loopsOf c
  | .seq a b => loopsOf a ++ loopsOf b
  | .block _ c => loopsOf c
  | .scope c => loopsOf c
  | .cond _ a b => loopsOf a ++ loopsOf b
  | _ => []
noncomputable def newLoop (k : Nat) : Code := ((Try.f12.body.map loopsOf).getD []).getD k .skip

def bv (n : Nat) : Value := .int .u8 (n : Int)
def bL (l : List Nat) : List Value := l.map bv
theorem bL_len (l : List Nat) : (bL l).length = l.length := by simp [bL]
theorem bL_append (l m : List Nat) : bL (l ++ m) = bL l ++ bL m := by simp [bL]
theorem bA_toList (l : List Nat) : (bA l).toList = bL l := by simp [bA, bL, bv]
theorem bL_one (l : List Nat) : ∀ u ∈ bL l, u.oneCell' = true := by
  intro u hu
  simp only [bL, List.mem_map] at hu
  obtain ⟨x, _, rfl⟩ := hu
  rfl
theorem info5 : (Try.prog.info? 5).map (fun i => (i.zero, i.size, i.bytes)) = some (some (.int .u8 0), 1, 1) := by kernel_rfl
theorem through_later {w0 : World} (x : Later No w0) : Calls Try.prog 28 #[] x.to fun e w' => e = .returned (.agg (bA sboxL)) ∧ ∃ y : Later No w0, w' = y.to :=
  (through_any x.to).mono fun _ _ ⟨he, hw⟩ => ⟨he, ⟨_, x.ok.alloc _⟩, hw.symm⟩
theorem own_cell {w : World} {base g n cap : Nat} {l : List Nat} (h : w.ownsRow base 5 1 (.slice (some ⟨g, 0, none⟩) n cap) n (bL l)) {j : Nat} (hj : j < l.length) : w.cell? ⟨g, j, none⟩ = some (.int .u8 ((l.getD j 0 : Nat) : Int)) := by
  have := h.cells (g := g) rfl j (bv (l.getD j 0)) (by simp [bL, List.getD, hj])
  rwa [show (⟨g, 0, none⟩ : Addr).add j = ⟨g, j, none⟩ from by unfold Addr.add; split <;> simp_all] at this
theorem own_mod {w w' : World} {S : Nat → Prop} {base g n cap : Nat} {e : TypeId} {size : Nat} {xs : List Value} (h : w.ownsRow base e size (.slice (some ⟨g, 0, none⟩) n cap) n xs) (hm : Mod S w w') (hn : ¬ S g) :
    w'.ownsRow base e size (.slice (some ⟨g, 0, none⟩) n cap) n xs := by
  refine ⟨h.1, ?_⟩
  rcases h.2 with ⟨h1, h2⟩ | ⟨g', cap', cur, hv, hb, hg, r⟩
  · exact .inl ⟨h1, h2⟩
  · have : g = g' := by injection hv with h1; injection h1 with h1; injection h1
    subst this
    exact .inr ⟨g, cap', cur, hv, hb, hm.blk hg hn, r⟩

theorem new_one (w : World) (g : Nat) (v : Value) (e : TypeId) (hg : g = w.heap.size) : ∀ j u, [v][j]? = some u → (w.alloc (.cells #[v] e)).cell? ((⟨g, 0, none⟩ : Addr).add j) = some u := by
  subst hg
  intro j u hu
  match j, hu with
  | 0, hu =>
    have hv : v = u := by simpa using hu
    subst hv
    exact blk_cell (blk_new w _) rfl
theorem Mod.of_grown {w w' : World} {g : Nat} (h : w.grownBy w' (some g)) : Mod (Just g) w w' :=
  ⟨h.os, h.tape, h.output, h.size, fun k hk hn => h.block k hk (fun e => hn (by injection e))⟩

def sub4Step (s : List Nat) (k : Nat) : List Nat := s.set k (sbox (s.getD k 0))
theorem sub4Step_bytes {n : Nat} {s : List Nat} (h : Bytes n s) (k : Nat) : Bytes n (sub4Step s k) := h.set _ (sbox_lt _)
theorem sub4Step_eq (s : List Nat) (k : Nat) : sub4Step s k = s.set k (sboxL.getD (s.getD k 0) 0) := by rw [← sbox_eq]; rfl
theorem sub4_eq (a b c d : Nat) : foldUp sub4Step [a, b, c, d] 4 = [sbox a, sbox b, sbox c, sbox d] := by kernel_rfl

set_option maxRecDepth 100000 in
set_option maxHeartbeats 2000000 in
theorem sub_loop (w : World) (tb : Nat) (t : List Nat) (ht : Bytes 4 t) (h0 : w.heap[tb]? = some (.cells (bA t) 53 (0, 0))) (c0 c1 c2 c3 c4 c5 c6 c7 c9 c10 c11 c12 c13 c14 c15 c16 c17 c18 c19 c20 c21 c22 c23 c24 c25 c26 c27 c28 c29 c30 c31 c32 c33 c34 c35 c36 c37 c38 c39 c40 c41 c42 c43 c44 c45 c46 c47 c48 c49 c50 c51 c52 c53 c54 c55 c56 c57 c58 c59 c60 c61 c62 c63 c64 c65 c66 c67 c68 c69 c70 c71 c73 c74 c75 c76 c77 c78 c79 c80 c81 c82 c83 c84 c85 c86 c87 c88 c89 c90 c91 c92 c93 c94 c95 c96 c97 c98 c99 c100 c101 c102 c103 c104 c105 c106 c107 c108 c109 c110 c111 c112 c113 c114 c115 c116 c117 c118 c119 c120 c121 c122 c123 c124 c125 c126 c127 c128 c129 c130 c131 c132 c133 c134 c135 c136 c137 c138 c139 c140 c141 c142 c143 c144 c145 c146 : Value) (Q : Exit → Act → World → Prop)
    (hexit : ∀ (u9 u72 u73 u74 u75 u76 u77 u78 u79 u80 u81 u82 : Value) (w' : World), Mod (Just tb) w w' → w'.heap[tb]? = some (.cells (bA (foldUp sub4Step t 4)) 53 (0, 0)) → Q (.exit 2) ⟨List.toArray (c0 :: c1 :: c2 :: c3 :: c4 :: c5 :: c6 :: c7 :: .pointer (some ⟨tb, 0, none⟩) :: u9 :: c10 :: c11 :: c12 :: c13 :: c14 :: c15 :: c16 :: c17 :: c18 :: c19 :: c20 :: c21 :: c22 :: c23 :: c24 :: c25 :: c26 :: c27 :: c28 :: c29 :: c30 :: c31 :: c32 :: c33 :: c34 :: c35 :: c36 :: c37 :: c38 :: c39 :: c40 :: c41 :: c42 :: c43 :: c44 :: c45 :: c46 :: c47 :: c48 :: c49 :: c50 :: c51 :: c52 :: c53 :: c54 :: c55 :: c56 :: c57 :: c58 :: c59 :: c60 :: c61 :: c62 :: c63 :: c64 :: c65 :: c66 :: c67 :: c68 :: c69 :: c70 :: c71 :: u72 :: u73 :: u74 :: u75 :: u76 :: u77 :: u78 :: u79 :: u80 :: u81 :: u82 :: c83 :: c84 :: c85 :: c86 :: c87 :: c88 :: c89 :: c90 :: c91 :: c92 :: c93 :: c94 :: c95 :: c96 :: c97 :: c98 :: c99 :: c100 :: c101 :: c102 :: c103 :: c104 :: c105 :: c106 :: c107 :: c108 :: c109 :: c110 :: c111 :: c112 :: c113 :: c114 :: c115 :: c116 :: c117 :: c118 :: c119 :: c120 :: c121 :: c122 :: c123 :: c124 :: c125 :: c126 :: c127 :: c128 :: c129 :: c130 :: c131 :: c132 :: c133 :: c134 :: c135 :: c136 :: c137 :: c138 :: c139 :: c140 :: c141 :: c142 :: c143 :: c144 :: c145 :: c146 :: []), []⟩ w') :
    Code.wp Try.prog (Code.loop (newLoop 1)) Q ⟨List.toArray (c0 :: c1 :: c2 :: c3 :: c4 :: c5 :: c6 :: c7 :: .pointer (some ⟨tb, 0, none⟩) :: c9 :: c10 :: c11 :: c12 :: c13 :: c14 :: c15 :: c16 :: c17 :: c18 :: c19 :: c20 :: c21 :: c22 :: c23 :: c24 :: c25 :: c26 :: c27 :: c28 :: c29 :: c30 :: c31 :: c32 :: c33 :: c34 :: c35 :: c36 :: c37 :: c38 :: c39 :: c40 :: c41 :: c42 :: c43 :: c44 :: c45 :: c46 :: c47 :: c48 :: c49 :: c50 :: c51 :: c52 :: c53 :: c54 :: c55 :: c56 :: c57 :: c58 :: c59 :: c60 :: c61 :: c62 :: c63 :: c64 :: c65 :: c66 :: c67 :: c68 :: c69 :: c70 :: c71 :: .int .i64 0 :: c73 :: c74 :: c75 :: c76 :: c77 :: c78 :: c79 :: c80 :: c81 :: c82 :: c83 :: c84 :: c85 :: c86 :: c87 :: c88 :: c89 :: c90 :: c91 :: c92 :: c93 :: c94 :: c95 :: c96 :: c97 :: c98 :: c99 :: c100 :: c101 :: c102 :: c103 :: c104 :: c105 :: c106 :: c107 :: c108 :: c109 :: c110 :: c111 :: c112 :: c113 :: c114 :: c115 :: c116 :: c117 :: c118 :: c119 :: c120 :: c121 :: c122 :: c123 :: c124 :: c125 :: c126 :: c127 :: c128 :: c129 :: c130 :: c131 :: c132 :: c133 :: c134 :: c135 :: c136 :: c137 :: c138 :: c139 :: c140 :: c141 :: c142 :: c143 :: c144 :: c145 :: c146 :: []), []⟩ w := by
  have HX := Lib.hid hexit
  clear hexit
  conv => arg 2; arg 1; whnf
  have hlt : tb < w.heap.size := blk_lt h0
  have h00 := Lib.hid h0
  clear h0
  go_loopw [72] (fun v wi => ∃ k : Nat, k ≤ 4 ∧ v = .int .i64 k ∧ Mod (Just tb) w wi ∧ wi.heap[tb]? = some (.cells (bA (foldUp sub4Step t k)) 53 (0, 0))) (fun v _ => 4 - (intOf v).toNat)
  case atStart => exact ⟨0, by omega, rfl, Mod.refl _ _, by rw [foldUp_zero]; exact h00.out⟩
  case round =>
    obtain ⟨k, hkk, rfl, y2, y0⟩ := hrel
    have hcu : Bytes 4 (foldUp sub4Step t k) := foldUp_inv ht (fun _ i h => sub4Step_bytes h i) k
    have hsu := Lib.hid (foldUp_succ sub4Step t k)
    generalize hde : foldUp sub4Step t k = cu at *
    have hde1 := Lib.hid hde
    have z0 := Lib.hid y0
    have z2 := Lib.hid y2
    clear hde y0 y2
    by_cases hlk : k < 4
    · have cT : ∀ x : Later No wr, x.to.cell? ⟨tb, k, none⟩ = some (.int .u8 ((cu.getD k 0 : Nat) : Int)) :=
        fun x => byte_cell (x.ok.blk z0.out (fun x => x)) (by rw [hcu.1]; exact hlk)
      have hix := run_index_table sboxL sboxL_bytes.1 _ (hcu.get k)
      have hst1 := Lib.hid (sub4Step_eq cu k)
      generalize sboxL.getD (cu.getD k 0) 0 = sv at *
      generalize cu.getD k 0 = tv at *
      go_wp2_with fail
      refine wp_region_later 7 (by kernel_rfl) (by kernel_rfl) ?_
      simp only [List.take_succ_cons, List.take_zero, List.drop_succ_cons, List.drop_zero]
      repeat (go_big_quiet_step (exact through_later _))
      refine wpQuiet_nil ?_
      intro x
      have xf : x.to.frozen? ⟨tb, k, none⟩ = false := blk_free (x.ok.blk z0.out (fun x => x))
      have xc := byte_cell (x.ok.blk z0.out (fun x => x)) (j := k) (by rw [hcu.1]; exact hlk)
      go_wp2_with fail
      go_roundw
      case rel =>
        refine ⟨k + 1, by omega, by go_num, (z2.out.then x.ok).setCell (p := ⟨tb, k, none⟩) (fun _ => (rfl : tb = tb)) _, ?_⟩
        rw [hsu.out, hst1.out]; exact byte_set (x.ok.blk z0.out (fun x => x))
      case measure => simp [intOf]; omega
    · have hk4 : k = 4 := by omega
      have hend := hde1.out
      rw [hk4] at hend
      have hend1 := Lib.hid hend
      clear hend hde1 hsu hk4
      go_wp2_with fail
      exact HX.out _ _ _ _ _ _ _ _ _ _ _ _ _ z2.out (by rw [hend1.out]; exact z0.out)

set_option maxRecDepth 100000 in
set_option maxHeartbeats 2000000 in
theorem app_loop {N : Nat} {nI : Int} (hnI : nI = (N : Int)) (i cap g tb : Nat) (l t : List Nat) (w : World) (hN : N ≤ i) (hN2 : 1 ≤ N) (_hi : i ≤ 1000) (hcap : 4 * i + 4 ≤ cap) (hcm : cap ≤ 1000000) (hl : Bytes (4 * i) l) (ht : Bytes 4 t) (htb : w.heap[tb]? = some (.cells (bA t) 53 (0, 0))) (hne : tb ≠ g)
    (base : Nat) (_hbase : base ≤ w.heap.size) (hown : w.ownsRow base 5 1 (.slice (some ⟨g, 0, none⟩) (4 * i) cap) (4 * i) (bL l)) (c0 c1 c2 c3 c6 c9 c10 c11 c12 c13 c14 c15 c16 c17 c18 c19 c20 c21 c22 c23 c24 c25 c26 c27 c28 c29 c30 c31 c32 c33 c34 c35 c36 c37 c38 c39 c40 c41 c42 c43 c44 c45 c46 c47 c48 c49 c50 c51 c52 c53 c54 c55 c56 c57 c58 c59 c60 c61 c62 c63 c64 c65 c66 c67 c68 c69 c70 c71 c72 c73 c74 c75 c76 c77 c78 c79 c80 c81 c82 c83 c84 c85 c86 c87 c88 c89 c90 c91 c92 c93 c95 c96 c97 c98 c99 c100 c101 c102 c103 c104 c105 c106 c107 c108 c109 c110 c111 c112 c113 c114 c115 c116 c117 c118 c119 c120 c121 c122 c123 c124 c125 c126 c127 c128 c129 c130 c131 c132 c133 c134 c135 c136 c137 c138 c139 c140 c141 c142 c143 c144 c145 c146 : Value) (Q : Exit → Act → World → Prop) (hQ : ∀ d v c a w, Q (.panic c) (Act.put a d v) w → Q (.panic c) a w)
    (hexit : ∀ (u10 u94 u95 u96 u97 u98 u99 u100 u101 u102 u103 u104 u105 u106 u107 u108 u109 u110 u111 u112 u113 : Value) (w' : World), Mod (Just g) w w' → w'.ownsRow base 5 1 (.slice (some ⟨g, 0, none⟩) (4 * i + 4) cap) (4 * i + 4) (bL (l ++ someB N i l t 4)) → Q (.exit 4) ⟨List.toArray (c0 :: c1 :: c2 :: c3 :: .int .i64 nI :: .slice (some ⟨g, 0, none⟩) (4 * i + 4) cap :: c6 :: .int .i64 (i : Int) :: .pointer (some ⟨tb, 0, none⟩) :: c9 :: u10 :: c11 :: c12 :: c13 :: c14 :: c15 :: c16 :: c17 :: c18 :: c19 :: c20 :: c21 :: c22 :: c23 :: c24 :: c25 :: c26 :: c27 :: c28 :: c29 :: c30 :: c31 :: c32 :: c33 :: c34 :: c35 :: c36 :: c37 :: c38 :: c39 :: c40 :: c41 :: c42 :: c43 :: c44 :: c45 :: c46 :: c47 :: c48 :: c49 :: c50 :: c51 :: c52 :: c53 :: c54 :: c55 :: c56 :: c57 :: c58 :: c59 :: c60 :: c61 :: c62 :: c63 :: c64 :: c65 :: c66 :: c67 :: c68 :: c69 :: c70 :: c71 :: c72 :: c73 :: c74 :: c75 :: c76 :: c77 :: c78 :: c79 :: c80 :: c81 :: c82 :: c83 :: c84 :: c85 :: c86 :: c87 :: c88 :: c89 :: c90 :: c91 :: c92 :: c93 :: u94 :: u95 :: u96 :: u97 :: u98 :: u99 :: u100 :: u101 :: u102 :: u103 :: u104 :: u105 :: u106 :: u107 :: u108 :: u109 :: u110 :: u111 :: u112 :: u113 :: c114 :: c115 :: c116 :: c117 :: c118 :: c119 :: c120 :: c121 :: c122 :: c123 :: c124 :: c125 :: c126 :: c127 :: c128 :: c129 :: c130 :: c131 :: c132 :: c133 :: c134 :: c135 :: c136 :: c137 :: c138 :: c139 :: c140 :: c141 :: c142 :: c143 :: c144 :: c145 :: c146 :: []), []⟩ w') :
    Code.wp Try.prog (Code.loop (newLoop 2)) Q ⟨List.toArray (c0 :: c1 :: c2 :: c3 :: .int .i64 nI :: .slice (some ⟨g, 0, none⟩) (4 * i) cap :: c6 :: .int .i64 (i : Int) :: .pointer (some ⟨tb, 0, none⟩) :: c9 :: c10 :: c11 :: c12 :: c13 :: c14 :: c15 :: c16 :: c17 :: c18 :: c19 :: c20 :: c21 :: c22 :: c23 :: c24 :: c25 :: c26 :: c27 :: c28 :: c29 :: c30 :: c31 :: c32 :: c33 :: c34 :: c35 :: c36 :: c37 :: c38 :: c39 :: c40 :: c41 :: c42 :: c43 :: c44 :: c45 :: c46 :: c47 :: c48 :: c49 :: c50 :: c51 :: c52 :: c53 :: c54 :: c55 :: c56 :: c57 :: c58 :: c59 :: c60 :: c61 :: c62 :: c63 :: c64 :: c65 :: c66 :: c67 :: c68 :: c69 :: c70 :: c71 :: c72 :: c73 :: c74 :: c75 :: c76 :: c77 :: c78 :: c79 :: c80 :: c81 :: c82 :: c83 :: c84 :: c85 :: c86 :: c87 :: c88 :: c89 :: c90 :: c91 :: c92 :: c93 :: .int .i64 0 :: c95 :: c96 :: c97 :: c98 :: c99 :: c100 :: c101 :: c102 :: c103 :: c104 :: c105 :: c106 :: c107 :: c108 :: c109 :: c110 :: c111 :: c112 :: c113 :: c114 :: c115 :: c116 :: c117 :: c118 :: c119 :: c120 :: c121 :: c122 :: c123 :: c124 :: c125 :: c126 :: c127 :: c128 :: c129 :: c130 :: c131 :: c132 :: c133 :: c134 :: c135 :: c136 :: c137 :: c138 :: c139 :: c140 :: c141 :: c142 :: c143 :: c144 :: c145 :: c146 :: []), []⟩ w := by
  subst hnI
  obtain ⟨i5, hi5, hz5, hs5, hb5⟩ := info_parts info5
  have HX := Lib.hid hexit
  have htb1 := Lib.hid htb
  have hown1 := Lib.hid hown
  have HQ := Lib.hid hQ
  clear hexit htb hown hQ
  conv => arg 2; arg 1; whnf
  go_loopw [5, 94] (fun v5 v wi => ∃ k : Nat, k ≤ 4 ∧ v = .int .i64 k ∧ v5 = .slice (some ⟨g, 0, none⟩) (4 * i + k) cap ∧ Mod (Just g) w wi ∧
    wi.ownsRow base 5 1 (.slice (some ⟨g, 0, none⟩) (4 * i + k) cap) (4 * i + k) (bL (l ++ someB N i l t k))) (fun _ v _ => 4 - (intOf v).toNat)
  case atStart => exact ⟨0, by omega, rfl, rfl, Mod.refl _ _, by rw [someB_zero, List.append_nil]; exact hown1.out⟩
  case round =>
    obtain ⟨k, hkk, rfl, rfl, y2, y1⟩ := hrel
    have hks := Lib.hid (someB_succ N i l t k)
    have hlk2 : (l ++ someB N i l t k).length = 4 * i + k := by rw [List.length_append, someB_len, hl.1]
    have z0 := Lib.hid (y2.blk htb1.out (not_just hne))
    have z1 := Lib.hid y1
    have z2 := Lib.hid y2
    have hsz := y2.size
    clear y1 y2
    by_cases hlk : k < 4
    · have e1 : 4 * (i - N) + k < l.length := by rw [hl.1]; omega
      have cA := own_cell z1.out (j := 4 * (i - N) + k) (by rw [hlk2]; omega)
      rw [append_getD _ _ _ e1] at cA
      have cB := byte_cell z0.out (j := k) (by rw [ht.1]; exact hlk)
      have hxv := bxor _ _ (hl.get (4 * (i - N) + k)) (ht.get k)
      generalize l.getD (4 * (i - N) + k) 0 = xa at *
      generalize t.getD k 0 = xb at *
      have hz2 : (4 * ((i : Int) - (N : Int)) + (k : Int)).toNat = 4 * (i - N) + k := by omega
      have hz3 : 0 ≤ 4 * ((i : Int) - (N : Int)) + (k : Int) := by omega
      have hz4 : 4 * ((i : Int) - (N : Int)) + (k : Int) < ((4 * i + k : Nat) : Int) := by omega
      clear e1
      go_wp2_with fail
      refine wp_region_sched (C := fun w' => ∃ n, w' = wr.drewN n) [0] (List.range' 1 13) 14 [15, 16] (by kernel_rfl) (by kernel_rfl) (fun d v c a w h => HQ.out d v c a w h) ⟨1, rfl⟩ ?_
      refine pure_cons rfl (yields_move rfl rfl) (fun K hK => ?_)
      go_simp
      refine hK _ (pure_nil (reads_range 1 13 (by simp) ?_))
      clear hK K
      simp only [List.take_succ_cons, List.take_zero, List.drop_succ_cons, List.drop_zero]
      repeat (go_big_quiet_step (fail))
      refine wpQuiet_nil ?_
      rintro _ ⟨nq, rfl⟩
      refine seq_range 14 3 (by simp) ?_
      simp only [List.drop_succ_cons, List.drop_zero]
      go_wp2_with (at_builtin; refine wpList_append_fits _ rfl (.tmp 97) (.tmp 111) 22 rfl base 5 i5 1 Try.underlying22 hi5 hs5 g (4 * i + k) cap _ rfl ((own_mod z1.out ((Mod.refl No wr).drewN nq) (fun x => x)).alloc _) ⟨wr.heap.size, 0, none⟩ 1 1 [bv (xa ^^^ xb)] rfl rfl (new_one (wr.drewN nq) _ (bv (xa ^^^ xb)) 5 rfl) (fun u hu => by simp at hu; subst hu; rfl) (by omega) ?_; intro w2 hown2 hgr2; have own2 := Lib.hid hown2; have gr2 := Lib.hid hgr2; clear hown2 hgr2)
      go_roundw
      case rel =>
        refine ⟨k + 1, by omega, by go_num, rfl, ?_, ?_⟩
        · exact ((z2.out.drewN nq).alloc (.cells #[bv (xa ^^^ xb)] 5)).trans (Mod.of_grown gr2.out) (fun i _ h => h)
        · rw [hks.out, ← List.append_assoc, bL_append]; exact own2.out
      case measure => simp [intOf]; omega
    · have hk4 : k = 4 := by omega
      subst hk4
      clear hks hkk hlk hlk2
      go_wp2_with fail
      exact HX.out _ _ _ _ _ _ _ _ _ _ _ _ _ _ _ _ _ _ _ _ _ _ z2.out z1.out
end Go.Proofs.Ytkbkobekndfapaa
