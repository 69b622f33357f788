/- each of package xts with Encrypt: its contract. -/
import Derived.Test.YtkbkobekndfapaaXc
namespace Go.Proofs.Ytkbkobekndfapaa
open Go.RowKit

/-- A cipher of package xts in memory. -/
structure XtsAt (w : World) (xb p1 q1 c1 : Nat) (u1 : Array Value) (ks1 : List (List Nat)) (p2 q2 c2 : Nat) (u2 : Array Value) (ks2 : List (List Nat)) : Prop where
  cell : w.heap[xb]? = some (.cells #[.pointer (some ⟨p1, 0, none⟩), .pointer (some ⟨p2, 0, none⟩)] 67 (0, 0))
  one : CipherAt w p1 q1 c1 u1 ks1
  two : CipherAt w p2 q2 c2 u2 ks2
theorem XtsAt.later {w w' : World} {xb p1 q1 c1 : Nat} {u1 : Array Value} {ks1 : List (List Nat)} {p2 q2 c2 : Nat} {u2 : Array Value} {ks2 : List (List Nat)} (h : XtsAt w xb p1 q1 c1 u1 ks1 p2 q2 c2 u2 ks2) (hm : Mod No w w') : XtsAt w' xb p1 q1 c1 u1 ks1 p2 q2 c2 u2 ks2 :=
  ⟨hm.blk h.cell (fun x => x), h.one.later hm (fun x => x) (fun x => x), h.two.later hm (fun x => x) (fun x => x)⟩

theorem FlatAt.blk16 {w : World} {g : Nat} {cur : Array Value} {l : List Nat} (h : FlatAt w g cur l) {m : Nat} (hm : 16 * m + 16 ≤ l.length) : ∀ j v, (bA (flatKey l m))[j]? = some v → cur[16 * m + j]? = some v := by
  intro j v hv
  have hj : j < 16 := by
    have := (Array.getElem?_eq_some_iff.1 hv).1
    rw [bA_size, flatKey_len] at this
    exact this
  rw [bA_get (by rw [flatKey_len]; exact hj), flatKey_get _ _ _ hj] at hv
  rw [h.get _ (by omega)]
  exact hv
theorem each_wrong (x y : Value) (z : Value) (a : Option Addr) (len cap : Nat) (w : World) (h : len = 0 ∨ len % 16 ≠ 0) :
    Calls Try.prog 38 #[x, y, .slice a len cap, z] w fun e w' => e = .returned (.tuple #[.slice none 0 0, .int .i64 52]) ∧ w = w' := by
  go_enter Try.func38, Try.ntmps38
  rcases Nat.eq_zero_or_pos len with h0 | h0
  · subst h0
    go_wp2_with fail
    refine bodyPost_ret (v := .tuple #[.slice none 0 0, .int .i64 52]) (by simp [results, Try.results38, go_sem]) rfl ⟨rfl, rfl⟩
  · have e1 : ((len : Int) == 0) = false := by simp; omega
    have e2 : ((len : Int) % 16 != 0) = true := by simp; omega
    go_wp2_with fail
    refine bodyPost_ret (v := .tuple #[.slice none 0 0, .int .i64 52]) (by simp [results, Try.results38, go_sem]) rfl ⟨rfl, rfl⟩

set_option maxRecDepth 100000 in
set_option maxHeartbeats 4000000 in
theorem each_enc (xb p1 q1 c1 : Nat) (u1 : Array Value) (ks1 : List (List Nat)) (p2 q2 c2 : Nat) (u2 : Array Value) (ks2 : List (List Nat)) (n1 n2 s : Nat) (a : Option Addr) (len cap : Nat) (data : List Nat) (w : World)
    (hx : XtsAt w xb p1 q1 c1 u1 ks1 p2 q2 c2 u2 ks2) (hk1 : Keys n1 ks1) (hk2 : Keys n2 ks2) (hn1 : 1 ≤ n1) (hn2 : 1 ≤ n2) (_hs : s < 18446744073709551616)
    (hd : BytesAt w a len cap data) (h0 : 0 < len) (h16 : len % 16 = 0) (hlen : len ≤ 140737488351232) :
    Calls Try.prog 38 #[.pointer (some ⟨xb, 0, none⟩), .int .u64 (s : Int), .slice a len cap, .func (.func 16) #[.pointer (some ⟨p1, 0, none⟩)] #[]] w fun e w' =>
      ∃ g c cu r, e = .returned (.tuple #[.slice (some ⟨g, 0, none⟩) len c, .int .i64 0]) ∧ Mod No w w' ∧ w.heap.size ≤ g ∧ len ≤ c ∧ c ≤ maxLen ∧ FlatAt w' g cu r ∧ Sealed (enc ks1) (enc ks2 (secB s)) data r := by
  have hz : ∀ w, (zeroValue 23).run Try.prog w = .ok (.agg (bA (noughts 16))) w := fun _ => by kernel_rfl
  have hmf : ∀ (fn : Fn) (first cap : Array Value) (w : World), (Instr.makeFunc fn first cap).run Try.prog w = .ok (.func fn first cap) w := fun _ _ _ _ => rfl
  have HX := Lib.hid hx
  have HD := Lib.hid hd
  have hsec := Lib.hid (secB_def s)
  clear hx hd
  have e1 : ((len : Int) == 0) = false := by simp; omega
  have e2 : ((len : Int) % 16 != 0) = false := by simp; omega
  go_enter Try.func38, Try.ntmps38
  go_wp2_with fail
  go_loopw [26] (fun v wr => ∃ i : Nat, i ≤ 8 ∧ v = .int .i64 i ∧ Mod No w wr ∧ wr.heap[w.heap.size]? = some (.cells (bA (foldUp (secStep s) (noughts 16) i)) 23 (0, 0))) (fun v _ => 8 - (intOf v).toNat)
  case atStart => exact ⟨0, by omega, rfl, (Mod.refl _ _).alloc _, by rw [foldUp_zero]; exact blk_new _ _⟩
  case round =>
    obtain ⟨i, hi, rfl, y2, y0⟩ := hrel
    have hcu : Bytes 16 (foldUp (secStep s) (noughts 16) i) := foldUp_inv (noughts_bytes 16) (fun _ i h => secStep_bytes s h i) i
    have hsu := Lib.hid (foldUp_succ (secStep s) (noughts 16) i)
    generalize hde : foldUp (secStep s) (noughts 16) i = cu at *
    have hde1 := Lib.hid hde
    have z0 := Lib.hid y0
    have z2 := Lib.hid y2
    clear hde y0 y2
    by_cases hli : i < 8
    · have xc := byte_cell z0.out (j := i) (by rw [hcu.1]; omega)
      have xf : wr.frozen? ⟨w.heap.size, i, none⟩ = false := blk_free z0.out
      have hst := Lib.hid (secStep_def s cu i)
      go_wp2_with fail
      go_roundw
      case rel =>
        refine ⟨i + 1, by omega, by go_num, z2.out.setCell (p := ⟨w.heap.size, i, none⟩) (fun h => absurd h (by simp)) _, ?_⟩
        rw [show ((s : Int) / 2 ^ (8 * i) % 256) = ((s / 2 ^ (8 * i) % 256 : Nat) : Int) by simp, hsu.out, hst.out]
        exact byte_set z0.out
      case measure => simp [intOf]; omega
    · have hi8 : i = 8 := by omega
      have hse := Lib.hid (show cu = secB s by rw [hsec.out, ← hi8]; exact hde1.out.symm)
      have X1 := Lib.hid (HX.out.later z2.out)
      have hcx : ∀ y : Later No wr, y.to.cell? ⟨xb, 1, none⟩ = some (.pointer (some ⟨p2, 0, none⟩)) := fun y => blk_cell ((X1.out.later y.ok).cell) rfl
      have hce := Lib.hid (fun y : Later No wr => encrypt_later hcu X1.out.two y)
      clear hde1 hsu
      go_wp2_with fail
      refine wp_region_later 6 (by kernel_rfl) (by kernel_rfl) ?_
      simp only [List.take_succ_cons, List.take_zero, List.drop_succ_cons, List.drop_zero]
      iterate 4 (go_big_quiet_step (fail))
      refine quiet_load16 rfl _ rfl w.heap.size 0 rfl 23 (bA cu) cu hcu.1 (fun w ⟨y, hy⟩ => by rw [hy]; exact y.ok.blk z0.out (fun x => x)) (fun j v hv => by rw [Nat.zero_add]; exact hv) (fun K hK => ?_)
      go_simp
      refine hK _ ?_
      clear hK K
      go_big_quiet_step (exact hce.out _)
      refine wpQuiet_nil ?_
      intro y
      have Y0 := Lib.hid (y.ok.blk z0.out (fun x => x))
      have Y2 := Lib.hid (z2.out.then y.ok)
      have ht0 : Bytes 16 (enc ks2 cu) := enc_bytes hk2 hn2 hcu
      rw [hse.out] at ht0
      rw [hse.out]
      rw [hse.out] at Y0
      generalize hte : enc ks2 (secB s) = t0 at *
      have HTE := Lib.hid hte
      clear hte
      have M0 := Lib.hid (blk_setRow (cs := bA t0) Y0.out)
      have M2 := Lib.hid (Y2.out.setRow w.heap.size (bA t0) (fun h => absurd h (by omega)))
      have M3 := Lib.hid (HD.out.later M2.out)
      have hlts := blk_lt Y0.out
      go_wp2_with (refine store16 rfl _ _ rfl w.heap.size rfl t0 (secB s) rfl 23 ht0.1 (secB_bytes s).1 Y0.out ?_)
      have hlts2 := blk_lt M0.out
      clear Y0 Y2 z0 z2 hcx hce X1
      refine (clone_any a len cap data _ M3.out h0 hlen).mono ?_
      rintro e w3 ⟨g, cc, cu0, rfl, hm3, hg, hgl, hcc, hcc2, hfl⟩
      have N0 := Lib.hid (hm3.blk M0.out (fun x => x))
      have N2 := Lib.hid (M2.out.then hm3)
      have N3 := Lib.hid hfl
      have hgw : w.heap.size < g := by omega
      have hds := HD.out.size
      unfold maxLen at hcc2
      clear M0 M2 M3 hm3 hfl
      have harr := fun (a : Addr) (c : Nat) (w : World) => run_array16 w a 16 c (Nat.le_refl _)
      go_wp2_with fail
      go_loopw [13] (fun v wr => ∃ m : Nat, ∃ cz l, m ≤ len / 16 ∧ v = .int .i64 (16 * (m : Int)) ∧ Mod No w wr ∧ wr.heap[w.heap.size]? = some (.cells (bA (twk t0 m)) 23 (0, 0)) ∧ FlatAt wr g cz l ∧ l.length = len ∧
        (∀ k, k < m → flatKey l k = oneB (enc ks1) (twk t0 k) (flatKey data k)) ∧ (∀ k, m ≤ k → k < len / 16 → flatKey l k = flatKey data k)) (fun v _ => len - (intOf v).toNat)
      case atStart => exact ⟨0, cu0, data, by omega, rfl, N2.out, by rw [twk_zero]; exact N0.out, N3.out, hds, fun k hk => absurd hk (by omega), fun k _ _ => rfl⟩
      case round =>
        clear N0 N2 N3
        obtain ⟨m, cz, l, hm, rfl, y2, y0, y3, hll, hdone, htodo⟩ := hrel
        have z0 := Lib.hid y0
        have z2 := Lib.hid y2
        have z3 := Lib.hid y3
        have Hdone := Lib.hid hdone
        have Htodo := Lib.hid htodo
        have hgr := blk_lt y3.cell
        clear y0 y2 y3 hdone htodo
        have htm := twk_bytes ht0 m
        have htn := Lib.hid (twk_succ t0 m)
        by_cases hlm : m < len / 16
        · have hml : 16 * m + 16 ≤ len := by omega
          have hd : decide (16 * (m : Int) < (len : Int)) = true := by simp; omega
          go_wp2_with fail
          have B0 := Lib.hid (blk_old (o' := .cells #[.slice (some ⟨g, 16 * m, none⟩) 16 (cc - 16 * m)] 22) z0.out)
          have B2 := Lib.hid (z2.out.alloc (.cells #[.slice (some ⟨g, 16 * m, none⟩) 16 (cc - 16 * m)] 22))
          have B3 := Lib.hid (z3.out.later ((Mod.refl No wr).alloc (.cells #[.slice (some ⟨g, 16 * m, none⟩) 16 (cc - 16 * m)] 22)) (fun x => x))
          have B4 := Lib.hid (blk_new wr (.cells #[.slice (some ⟨g, 16 * m, none⟩) 16 (cc - 16 * m)] 22))
          generalize hcb : wr.heap.size = cb at *
          clear z0 z2 z3
          refine (xclos_any cb w.heap.size g (16 * m) (cc - 16 * m) 23 (twk t0 m) l cz _ htm (by omega) (blk_cell B4.out rfl) (by omega) B0.out (by omega) B3.out).mono ?_
          rintro e w4 ⟨rfl, m4, cu4, f4⟩
          have C0 := Lib.hid (m4.blk B0.out (not_just (by omega)))
          have C2 := Lib.hid (B2.out.trans m4 (fun i hi h => absurd (show i = g from h) (by omega)))
          have C3 := Lib.hid f4
          have C4 := Lib.hid (m4.blk B4.out (not_just (by omega)))
          have X4 := Lib.hid (HX.out.later C2.out)
          have hlx : (xorAt l (16 * m) (twk t0 m)).length = len := by rw [xorAt_len _ _ _ (by omega), hll]
          have hkx := Lib.hid (flatKey_xor l (twk t0 m) m (by omega))
          have hko := Lib.hid (fun k (h : k ≠ m) => flatKey_xor_other l (twk t0 m) m k (by omega) h)
          generalize xorAt l (16 * m) (twk t0 m) = l4 at *
          have hbx : Bytes 16 (flatKey l4 m) := flatKey_bytes f4.ok m
          clear B0 B2 B3 B4 f4 m4
          have c4 := blk_cell C4.out (j := 0) rfl
          have q4 := Lib.hid (C3.out.blk16 (m := m) (by omega))
          go_wp2_with (refine load16 rfl _ rfl g (16 * m) rfl 5 cu4 (flatKey l4 m) hbx.1 C3.out.cell q4.out ?_)
          clear c4
          refine (encrypt_any p1 q1 c1 u1 ks1 _ _ hbx X4.out.one).mono ?_
          rintro e w5 ⟨rfl, m5⟩
          have D0 := Lib.hid (m5.blk C0.out (fun x => x))
          have D2 := Lib.hid (C2.out.then m5)
          have D3 := Lib.hid (C3.out.later m5 (fun x => x))
          have D4 := Lib.hid (m5.blk C4.out (fun x => x))
          have hex : Bytes 16 (enc ks1 (flatKey l4 m)) := enc_bytes hk1 hn1 hbx
          have hlt5 := blk_lt (m5.blk C4.out (fun x => x))
          generalize hxe : enc ks1 (flatKey l4 m) = xe at *
          have hxe1 := Lib.hid hxe
          clear hxe C0 C2 C3 C4 q4 m5 X4
          go_wp2_with (refine store16 rfl _ _ rfl w5.heap.size rfl xe (noughts 16) rfl 23 hex.1 (noughts_bytes 16).1 (blk_new _ _) ?_; rw [alloc_setRow])
          have E0 := Lib.hid (blk_old (o' := .cells (bA xe) 23) D0.out)
          have E2 := Lib.hid (D2.out.alloc (.cells (bA xe) 23))
          have E3 := Lib.hid (D3.out.later ((Mod.refl No w5).alloc (.cells (bA xe) 23)) (fun x => x))
          have E4 := Lib.hid (blk_old (o' := .cells (bA xe) 23) D4.out)
          have E5 := Lib.hid (blk_new w5 (.cells (bA xe) 23))
          have e4 : (w5.alloc (.cells (bA xe) 23)).cell? ⟨cb, 0, none⟩ = some (.slice (some ⟨g, 16 * m, none⟩) 16 (cc - 16 * m)) := blk_cell E4.out rfl
          generalize hxb : w5.heap.size = bx at *
          generalize hw6 : w5.alloc (.cells (bA xe) 23) = w6 at *
          clear D0 D2 D3 D4
          have hsl := fun (b : Nat) (w : World) => (show (Instr.sliceAt 23 (.pointer (some ⟨b, 0, none⟩)) none none none).run Try.prog w = .ok (.slice (some ⟨b, 0, none⟩) 16 16) w from by kernel_rfl)
          go_simp
          refine wp_region_drew 2 (by kernel_rfl) (by kernel_rfl) ?_
          simp only [List.take_succ_cons, List.take_zero, List.drop_succ_cons, List.drop_zero]
          repeat (go_big_quiet_step (fail))
          refine wpQuiet_nil ?_
          intro nq
          have hfit : 16 * m + (bL xe).length ≤ cu4.size := by
            have := (Array.getElem?_eq_some_iff.1 (E3.out.get (16 * m + 15) (by omega))).1
            rw [bL_len, hex.1]; omega
          have hsrc : ∀ j v, (bL xe)[j]? = some v → (w6.drewN nq).cell? ((⟨bx, 0, none⟩ : Addr).add j) = some v := fun j v hv => by
            rw [add_zero]
            exact blk_cell (w := w6.drewN nq) (show (w6.drewN nq).heap[bx]? = _ from E5.out) (by rw [← bA_toList] at hv; simpa using hv)
          go_wp2_with (refine wpList_copy_own rfl _ _ 22 22 rfl 5 Try.underlying22 (by kernel_rfl) g (16 * m) 16 _ ⟨bx, 0, none⟩ 16 16 rfl rfl cu4 5 E3.out.cell (bL xe) (by rw [bL_len, hex.1]; rfl) hsrc hfit (bL_one xe) ?_; refine hold ?_)
          unfold Hold
          have F0 := blk_setRow_other (cs := (cu4.toList.take (16 * m) ++ (bL xe ++ cu4.toList.drop (16 * m + (bL xe).length))).toArray) (show (w6.drewN nq).heap[w.heap.size]? = _ from E0.out) (show w.heap.size ≠ g by omega)
          have F2 := (E2.out.drewN nq).setRow g (cu4.toList.take (16 * m) ++ (bL xe ++ cu4.toList.drop (16 * m + (bL xe).length))).toArray (fun h => absurd h (by omega))
          have F3 := (show FlatAt (w6.drewN nq) g cu4 l4 from ⟨E3.out.cell, E3.out.get, E3.out.ok⟩).put (at_ := 16 * m) (x := xe) (by omega) hex
          have F4 := blk_setRow_other (cs := (cu4.toList.take (16 * m) ++ (bL xe ++ cu4.toList.drop (16 * m + (bL xe).length))).toArray) (show (w6.drewN nq).heap[cb]? = _ from E4.out) (show cb ≠ g by omega)
          generalize (w6.drewN nq).setRow g (cu4.toList.take (16 * m) ++ (bL xe ++ cu4.toList.drop (16 * m + (bL xe).length))).toArray = w7 at *
          generalize (cu4.toList.take (16 * m) ++ (bL xe ++ cu4.toList.drop (16 * m + (bL xe).length))).toArray = cu7 at *
          have hpl : (putAt l4 (16 * m) xe).length = len := by rw [putAt_len _ _ _ (by omega) hex.1, hlx]
          have hpx := Lib.hid (flatKey_put l4 xe m (by omega) hex.1)
          have hpo := Lib.hid (fun k (h : k ≠ m) => flatKey_put_other l4 xe m k (by omega) hex.1 h)
          generalize putAt l4 (16 * m) xe = l7 at *
          have G0 := Lib.hid F0
          have G2 := Lib.hid F2
          have G3 := Lib.hid F3
          have G4 := Lib.hid F4
          clear F0 F2 F3 F4 E0 E2 E3 E4 E5 hsrc hfit
          go_wp2_with fail
          refine (xclos_any cb w.heap.size g (16 * m) (cc - 16 * m) 23 (twk t0 m) l7 cu7 _ htm (by omega) (blk_cell G4.out rfl) (by omega) G0.out (by omega) G3.out).mono ?_
          rintro e w8 ⟨rfl, m8, cu8, f8⟩
          have H0 := Lib.hid (m8.blk G0.out (not_just (by omega)))
          have H2 := Lib.hid (G2.out.trans m8 (fun i hi h => absurd (show i = g from h) (by omega)))
          have H3 := Lib.hid f8
          have hlz : (xorAt l7 (16 * m) (twk t0 m)).length = len := by rw [xorAt_len _ _ _ (by omega), hpl]
          have hqx := Lib.hid (flatKey_xor l7 (twk t0 m) m (by omega))
          have hqo := Lib.hid (fun k (h : k ≠ m) => flatKey_xor_other l7 (twk t0 m) m k (by omega) h)
          generalize xorAt l7 (16 * m) (twk t0 m) = l8 at *
          clear G0 G2 G3 G4 m8 f8
          go_wp2_with fail
          refine (xdouble_any w.heap.size 23 (twk t0 m) _ htm H0.out).mono ?_
          rintro e w9 ⟨rfl, m9, f9⟩
          have I0 := Lib.hid f9
          have I2 := Lib.hid (H2.out.trans m9 (fun i hi h => absurd (show i = w.heap.size from h) (by omega)))
          have I3 := Lib.hid (H3.out.later m9 (not_just (by omega)))
          clear H0 H2 H3 m9 f9
          go_wp2_with fail
          go_roundw
          case rel =>
            refine ⟨m + 1, _, l8, by omega, by go_num, I2.out, by rw [htn.out]; exact I0.out, I3.out, hlz, fun k hk => ?_, fun k hk hk2 => ?_⟩
            · by_cases e : k = m
              · subst e
                rw [hqx.out, hpx.out, ← hxe1.out, hkx.out, Htodo.out k (Nat.le_refl _) hlm, oneB_def]
              · rw [hqo.out k e, hpo.out k e, hko.out k e, Hdone.out k (by omega)]
            · rw [hqo.out k (by omega), hpo.out k (by omega), hko.out k (by omega), Htodo.out k (by omega) hk2]
          case measure => simp [intOf]; omega
        · have hml : m = len / 16 := by omega
          have hd : decide (16 * (m : Int) < (len : Int)) = false := by simp; omega
          go_wp2_with fail
          refine bodyPost_ret (v := .tuple #[.slice (some ⟨g, 0, none⟩) len cc, .int .i64 0]) (by simp [results, Try.results38, go_sem]) rfl ?_
          exact ⟨g, cc, cz, l, rfl, z2.out, by omega, hcc, by unfold maxLen; omega, z3.out, by rw [HTE.out]; exact ⟨by rw [hll, hds], z3.out.ok, fun k hk => Hdone.out k (by rw [hds] at hk; omega)⟩⟩
end Go.Proofs.Ytkbkobekndfapaa
