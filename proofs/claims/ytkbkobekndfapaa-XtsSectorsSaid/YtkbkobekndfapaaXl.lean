/- The document's turn, sealing: its contract. -/
import Derived.Test.YtkbkobekndfapaaXk
namespace Go.Proofs.Ytkbkobekndfapaa
open Go.RowKit

theorem own_mod3 {w w' : World} {S : Nat → Prop} {base : Nat} {e : TypeId} {size n : Nat} {v : Value} {xs : List Value} (h : w.ownsRow base e size v n xs) (hm : Mod S w w') (hn : ∀ g, v.ownBlock = some g → ¬ S g) : w'.ownsRow base e size v n xs := by
  refine ⟨h.1, ?_⟩
  rcases h.2 with h1 | ⟨g, cap, cur, hv, hb, hg, r⟩
  · exact .inl h1
  · exact .inr ⟨g, cap, cur, hv, hb, hm.blk hg (hn g (by rw [hv]; rfl)), r⟩
theorem BytesAt.at' {w : World} {b off len cap : Nat} {l : List Nat} (h : BytesAt w (some ⟨b, off, none⟩) len cap l) {j : Nat} (hj : j < len) : w.cell? ⟨b, off + j, none⟩ = some (.int .u8 ((l.getD j 0 : Nat) : Int)) := by
  rcases h.cell with h0 | ⟨b', off', e, hc⟩
  · omega
  · have e' : (⟨b, off, none⟩ : Addr) = ⟨b', off', none⟩ := by injection e
    injection e' with e1 e2
    subst e1 e2
    exact hc j hj
theorem BytesAt.moved {w w' : World} {b off len cap : Nat} {l : List Nat} (h : BytesAt w (some ⟨b, off, none⟩) len cap l) {S : Nat → Prop} (hm : Mod S w w') (hS : ∀ x, x = b → ¬ S x) : BytesAt w' (some ⟨b, off, none⟩) len cap l :=
  ⟨h.size, h.ok, by
    by_cases h0 : len = 0
    · exact .inl h0
    · exact .inr ⟨b, off, rfl, fun j hj => by
        have := h.at' hj
        rw [World.cell?_of_block (w := w) (hm.block _ (World.block_lt_of_cell? _ _ this) (hS b rfl)), this]⟩⟩
theorem BytesAt.lt {w : World} {b off len cap : Nat} {l : List Nat} (h : BytesAt w (some ⟨b, off, none⟩) len cap l) (h0 : 0 < len) : b < w.heap.size := World.block_lt_of_cell? _ _ (h.at' h0)
theorem no_panic {P : Program} {c : Code} {Q : Exit → Act → World → Prop} {a : Act} {w : World} (h : ∀ Q2 : Exit → Act → World → Prop, (∀ d v c a w, Q2 (.panic c) (a.put d v) w → Q2 (.panic c) a w) → (∀ a w, Q .normal a w → Q2 .normal a w) → c.wp P Q2 a w) : c.wp P Q a w :=
  Code.wp_mono (Q := fun e a w => match e with | .normal => Q .normal a w | _ => False) (fun e a w q => by cases e <;> first | exact q | exact q.elim) (h _ (fun _ _ _ _ _ h => h) (fun _ _ h => h))

set_option maxRecDepth 100000 in
set_option maxHeartbeats 8000000 in
theorem turn_enc (ka : Option Addr) (n kc : Nat) (key : List Nat) (s : Nat) (a : Option Addr) (len cap : Nat) (data : List Nat) (w : World) (hk : BytesAt w ka n kc key) (hkle : n ≤ kc) (hkmax : kc ≤ maxLen) (hn : n = 32 ∨ n = 64)
    (_hs : s < 18446744073709551616) (hd : BytesAt w a len cap data) (h0 : 0 < len) (h16 : len % 16 = 0) (hlen : len ≤ 1000000) :
    Calls Try.prog 39 #[.slice ka n kc, .int .u64 (s : Int), .slice a len cap, .bool false] w fun e w' => XGood w (enc (xk1 key)) (enc (xk2 key) (secB s)) data len e w' := by
  obtain ⟨i5, hi5, hz5, hs5, hb5⟩ := info_parts info5
  have hz : ∀ w, (zeroValue 23).run Try.prog w = .ok (.agg (bA (noughts 16))) w := fun _ => by kernel_rfl
  have hkn := hk.size
  have hds := hd.size
  have HD := Lib.hid hd
  obtain ⟨b, off, ha⟩ := cutA_some hd h0
  subst ha
  have hdok := hd.ok
  have hbw := hd.lt h0
  obtain ⟨h, hh⟩ : ∃ h, h = n / 2 := ⟨_, rfl⟩
  have hh1 : key.length / 2 = h := by rw [hkn, hh]
  have hh2 : h = 16 ∨ h = 32 := by omega
  have hnh : n - h = h := by omega
  have hq : ((n : Int) / 2) = (h : Int) := by omega
  have T0 := Lib.hid (hk.take (n := h) (by omega))
  have D0 := Lib.hid (hk.drop (n := h) hkle (by omega))
  rw [hnh] at D0
  have x1 := Lib.hid (show xk1 key = keysOf (flatOf (key.take h)) (mOf h) by unfold xk1; rw [hh1])
  have x2 := Lib.hid (show xk2 key = keysOf (flatOf (key.drop h)) (mOf h) by unfold xk2; rw [hh1])
  have fl1 := flatOf_ok T0.out.ok (by rw [T0.out.size]; exact hh2)
  have fl2 := flatOf_ok D0.out.ok (by rw [D0.out.size]; exact hh2)
  rw [T0.out.size] at fl1
  rw [D0.out.size] at fl2
  have hY1 := Lib.hid (fun wx (hm : Mod No w wx) => keys_ok h kc ka hh2 (key.take h) wx (T0.out.later hm))
  have hY2 := Lib.hid (fun wx (hm : Mod No w wx) => keys_ok h (kc - h) (cutA ka h kc) hh2 (key.drop h) wx (D0.out.later hm))
  have hmm := mOf_in h
  generalize flatOf (key.take h) = f1 at *
  generalize flatOf (key.drop h) = f2 at *
  generalize mOf h = m at *
  obtain ⟨nn, hnn⟩ : ∃ nn, nn = 16 * m := ⟨_, rfl⟩
  rw [← hnn] at hY1 hY2 fl1 fl2
  have HN := Lib.hid hnn
  have hk1 := keysOf_keys fl1.2 m
  have hk2 := keysOf_keys fl2.2 m
  have hsec := Lib.hid (secB_def s)
  have hX := Lib.hid (show Bytes 16 (secB s) from secB_bytes s)
  have e1 : ((len : Int) == 0) = false := by simp; omega
  have e2 : ((len : Int) % 16 != 0) = false := by simp; omega
  have hkc9 : kc ≤ 9223372036854775807 := by unfold maxLen at hkmax; omega
  have hhk : h ≤ kc := by omega
  have hhn : h ≤ n := by omega
  have hnh9 : n ≤ 9223372036854775807 := by omega
  have hh9 : h ≤ 9223372036854775807 := by omega
  have hcut1 := fun w => run_cut_h ka n kc h w hhk
  have hcut2 := fun w => run_cut_l ka n kc h w hhn
  rw [hnh] at hcut2
  clear hd hk hh hnn
  go_enter Try.func39, Try.ntmps39
  go_wp2_with fail
  refine (hY1.out _ (Mod.refl _ _)).mono ?_
  rintro e w1 ⟨g1, c1, cur1, rfl, hm1, hg1, hf1⟩
  have F1 := Lib.hid hf1
  have M1 := Lib.hid hm1
  clear hf1 hm1
  go_wp2_with fail
  refine (hY2.out _ M1.out).mono ?_
  rintro e w2 ⟨g2, c2, cur2, rfl, hm2, hg2, hf2⟩
  have F12 := Lib.hid (F1.out.later hm2 (fun x => x))
  have F22 := Lib.hid hf2
  have M2 := Lib.hid (M1.out.then hm2)
  have hg1l := blk_lt (F1.out.later hm2 (fun x => x)).cell
  have hg2l := blk_lt hf2.cell
  clear hf2 hm2 F1 M1 hY1 hY2 hcut1 hcut2
  go_wp2_with fail
  go_loopw [14] (fun v wr => ∃ i : Nat, i ≤ 8 ∧ v = .int .i64 i ∧ Mod No w2 wr ∧ wr.heap[w2.heap.size]? = some (.cells (bA (foldUp (secStep s) (noughts 16) i)) 23 (0, 0))) (fun v _ => 8 - (intOf v).toNat)
  case atStart => exact ⟨0, by omega, rfl, (Mod.refl _ _).alloc _, by rw [foldUp_zero]; exact blk_new _ _⟩
  case round =>
    obtain ⟨i, hi, rfl, y2, y0⟩ := hrel
    have hcu : Bytes 16 (foldUp (secStep s) (noughts 16) i) := foldUp_inv (noughts_bytes 16) (fun _ i h => secStep_bytes s h i) i
    have hsu := Lib.hid (foldUp_succ (secStep s) (noughts 16) i)
    generalize hde : foldUp (secStep s) (noughts 16) i = cu at *
    have hde1 := Lib.hid hde
    have z0 := Lib.hid y0
    have z2 := Lib.hid y2
    clear hde y0 y2
    by_cases hli : i < 8
    · have xc := byte_cell z0.out (j := i) (by rw [hcu.1]; omega)
      have xf : wr.frozen? ⟨w2.heap.size, i, none⟩ = false := blk_free z0.out
      have hst := Lib.hid (secStep_def s cu i)
      go_wp2_with fail
      go_roundw
      case rel =>
        refine ⟨i + 1, by omega, by go_num, z2.out.setCell (p := ⟨w2.heap.size, i, none⟩) (fun h => absurd h (by simp)) _, ?_⟩
        first
          | (rw [show ((s : Int) / 2 ^ (8 * i) % 256) = ((s / 2 ^ (8 * i) % 256 : Nat) : Int) by simp, hsu.out, hst.out]
             exact byte_set z0.out)
          | skip
      case measure => simp [intOf]; omega
    · have hi8 : i = 8 := by omega
      have hse := Lib.hid (show cu = secB s by rw [hsec.out, ← hi8]; exact hde1.out.symm)
      rw [hse.out] at z0
      clear hde1 hsu hse hsec
      have G1 := Lib.hid (F12.out.later z2.out (fun x => x))
      have G2 := Lib.hid (F22.out.later z2.out (fun x => x))
      have N0 := Lib.hid (M2.out.then z2.out)
      clear F12 F22 M2 z2
      go_wp2_with (refine load16w rfl _ rfl w2.heap.size rfl 23 (secB s) hX.out.1 z0.out ?_)
      refine (refenc_any g2 c2 m nn cur2 f2 (secB s) _ hX.out G2.out fl2.1 HN.out hmm.1 hmm.2).mono ?_
      rintro e w3 ⟨rfl, hm3⟩
      have ht0 : Bytes 16 (enc (keysOf f2 m) (secB s)) := enc_bytes hk2 (by omega) hX.out
      have P0 := Lib.hid (hm3.blk z0.out (fun x => x))
      have x2' := Lib.hid (show enc (xk2 key) (secB s) = enc (keysOf f2 m) (secB s) by rw [x2.out])
      generalize enc (keysOf f2 m) (secB s) = t0 at *
      have R0 := Lib.hid (blk_setRow (cs := bA t0) P0.out)
      have R1 := Lib.hid ((G1.out.later hm3 (fun x => x)).later ((Mod.refl (Just w2.heap.size) w3).setRow w2.heap.size (bA t0) (fun _ => (rfl : w2.heap.size = w2.heap.size))) (not_just (by omega)))
      have R2 := Lib.hid ((N0.out.then hm3).setRow w2.heap.size (bA t0) (fun h => absurd h (by have := hg1; have := hg2; omega)))
      clear G1 G2 N0 z0 hm3 x2
      go_wp2_with (refine store16 rfl _ _ rfl w2.heap.size rfl t0 (secB s) rfl 23 ht0.1 hX.out.1 P0.out ?_)
      clear P0
      have hlt3 := blk_lt R0.out
      have hmd := R2.out
      generalize hw4 : w3.setRow w2.heap.size (bA t0) = w4 at *
      generalize w2.heap.size = tb at *
      clear hmd
      have hw2 := R2.out.size
      go_wp2_with fail
      go_loopw [15, 16] (fun v15 v16 wr => ∃ k out, k ≤ len / 16 ∧ v16 = .int .i64 (16 * (k : Int)) ∧ Mod (Just tb) w4 wr ∧ wr.heap[tb]? = some (.cells (bA (twk t0 k)) 23 (0, 0)) ∧ wr.ownsRow w4.heap.size 5 1 v15 (16 * k) (bL out) ∧
        out.length = 16 * k ∧ (∀ x ∈ out, x < 256) ∧ (∀ j, j < k → flatKey out j = oneB (enc (keysOf f1 m)) (twk t0 j) (flatKey data j))) (fun _ v _ => len - (intOf v).toNat)
      case atStart => exact ⟨0, [], by omega, rfl, Mod.refl _ _, by rw [twk_zero]; exact R0.out, World.ownsRow_nil _ _ _ _, rfl, fun x hx => absurd hx (by simp), fun j hj => absurd hj (by omega)⟩
      case round =>
        obtain ⟨k, out, hkl, rfl, y2, y0, y1, hol, hok, hdone⟩ := hrel
        have z0 := Lib.hid y0
        have z1 := Lib.hid y1
        have z2 := Lib.hid y2
        have Hdone := Lib.hid hdone
        have hszr := y2.size
        have hnw : Mod No w wr := R2.out.trans y2 (fun i hi h => absurd (show i = tb from h) (by omega))
        have NW := Lib.hid hnw
        have htw := twk_bytes ht0 k
        have htn := Lib.hid (twk_succ t0 k)
        generalize htwk : twk t0 k = tw at *
        clear y0 y1 y2 hdone hnw
        by_cases hlk : k < len / 16
        · have hml : 16 * k + 16 ≤ len := by omega
          have hd : decide (16 * (k : Int) < (len : Int)) = true := by simp; omega
          have D := Lib.hid (HD.out.later NW.out)
          have G1 := Lib.hid (R1.out.later z2.out (not_just (by omega)))
          have hob0 : ∀ x, u15.ownBlock = some x → x < wr.heap.size := fun x hx => (z1.out.lt x hx).2
          have hbf := Lib.hid (rb_eq data tw k)
          have hbb : Bytes 16 (xorS (flatKey data k) tw) := xorS_bytes htw (flatKey_bytes hdok k)
          have hone := Lib.hid (oneB_def (enc (keysOf f1 m)) tw (flatKey data k))
          go_wp2_with fail
          have B0 := Lib.hid (blk_old (o' := .cells (bA (noughts 16)) 23) z0.out)
          have B1 := Lib.hid (z1.out.alloc (.cells (bA (noughts 16)) 23))
          have B2 := Lib.hid (z2.out.alloc (.cells (bA (noughts 16)) 23))
          have B3 := Lib.hid (blk_new wr (.cells (bA (noughts 16)) 23))
          have B4 := Lib.hid (D.out.later ((Mod.refl No wr).alloc (.cells (bA (noughts 16)) 23)))
          have B5 := Lib.hid (G1.out.later ((Mod.refl No wr).alloc (.cells (bA (noughts 16)) 23)) (fun x => x))
          generalize hbx : wr.heap.size = bb at *
          generalize hwb : wr.alloc (.cells (bA (noughts 16)) 23) = wb at *
          clear z0 z1 z2 D G1 NW
          go_loopw [18] (fun v wi => ∃ i : Nat, i ≤ 16 ∧ v = .int .i64 i ∧ Mod (Just bb) wb wi ∧ wi.heap[bb]? = some (.cells (bA (foldUp (rbStep data tw (16 * k)) (noughts 16) i)) 23 (0, 0))) (fun v _ => 16 - (intOf v).toNat)
          case atStart => exact ⟨0, by omega, rfl, Mod.refl _ _, by rw [foldUp_zero]; exact B3.out⟩
          case round =>
            obtain ⟨i, hi, rfl, y2, y0⟩ := hrel
            have hcu : Bytes 16 (foldUp (rbStep data tw (16 * k)) (noughts 16) i) := foldUp_inv (noughts_bytes 16) (fun _ i h => rbStep_bytes hdok htw h i) i
            have hsu := Lib.hid (foldUp_succ (rbStep data tw (16 * k)) (noughts 16) i)
            generalize hde : foldUp (rbStep data tw (16 * k)) (noughts 16) i = cu at *
            have hde1 := Lib.hid hde
            have z0 := Lib.hid y0
            have z2 := Lib.hid y2
            clear hde y0 y2
            by_cases hli : i < 16
            · have cA := (B4.out.moved z2.out (fun x hx => not_just (by omega))).at' (j := 16 * k + i) (by omega)
              have cB := byte_cell (z2.out.blk B0.out (not_just (by omega))) (j := i) (by rw [htw.1]; exact hli)
              have cC := byte_cell z0.out (j := i) (by rw [hcu.1]; exact hli)
              have cf : wr.frozen? ⟨bb, i, none⟩ = false := blk_free z0.out
              have hx := bxor _ _ (getD_lt hdok (16 * k + i)) (htw.get i)
              have hst := Lib.hid (rbStep_def data tw (16 * k) cu i)
              generalize data.getD (16 * k + i) 0 = xa at *
              generalize tw.getD i 0 = xb at *
              have hz2 : (16 * (k : Int) + (i : Int)).toNat = 16 * k + i := by omega
              have hz3 : 0 ≤ 16 * (k : Int) + (i : Int) := by omega
              have hz4 : 16 * (k : Int) + (i : Int) < (len : Int) := by omega
              go_wp2_with fail
              refine wp_region_drew 12 (by kernel_rfl) (by kernel_rfl) ?_
              simp only [List.take_succ_cons, List.take_zero, List.drop_succ_cons, List.drop_zero]
              repeat (go_big_quiet_step (fail))
              refine wpQuiet_nil ?_
              intro nq
              go_wp2_with fail
              go_roundw
              case rel =>
                refine ⟨i + 1, by omega, by go_num, (z2.out.setCell (p := ⟨bb, i, none⟩) (fun _ => (rfl : bb = bb)) _).drewN _, ?_⟩
                rw [hsu.out, hst.out]; exact byte_set z0.out
              case measure => simp [intOf]; omega
            · obtain rfl : i = 16 := by omega
              have he := Lib.hid (show xorS (flatKey data k) tw = cu by rw [← hbf.out]; exact hde1.out)
              rw [he.out] at hone
              clear hsu hde1 hbf he hbb
              have C0 := Lib.hid (z2.out.blk B0.out (not_just (by omega)))
              have C1 := Lib.hid (own_mod3 B1.out z2.out (fun x hx => not_just (by have := hob0 x hx; omega)))
              have C2 := Lib.hid (B2.out.trans z2.out (fun i hi h => absurd (show i = bb from h) (by omega)))
              have C5 := Lib.hid (B5.out.later z2.out (not_just (by omega)))
              have hlbb := blk_lt z0.out
              clear B0 B1 B2 B3 B4 B5 z2
              go_wp2_with (refine load16w rfl _ rfl bb rfl 23 cu hcu.1 z0.out ?_)
              refine (refenc_any g1 c1 m nn cur1 f1 cu _ hcu C5.out fl1.1 HN.out hmm.1 hmm.2).mono ?_
              rintro e w5 ⟨rfl, hm5⟩
              have hbe : Bytes 16 (enc (keysOf f1 m) cu) := enc_bytes hk1 (by omega) hcu
              generalize hbe1 : enc (keysOf f1 m) cu = be at *
              have D3 := Lib.hid (hm5.blk z0.out (fun x => x))
              have E0 := Lib.hid (blk_setRow_other (cs := bA be) (hm5.blk C0.out (fun x => x)) (show tb ≠ bb by omega))
              have E3 := Lib.hid (blk_setRow (cs := bA be) D3.out)
              have E2 := Lib.hid ((C2.out.then hm5).setRow bb (bA be) (fun h => absurd h (by omega)))
              have E1 := Lib.hid (own_mod3 (own_mod3 C1.out hm5 (fun x hx h => h)) ((Mod.refl (Just bb) w5).setRow bb (bA be) (fun _ => (rfl : bb = bb))) (fun x hx => not_just (by have := hob0 x hx; omega)))
              have hlb5 := hm5.size
              have hone2 := Lib.hid (show oneB (enc (keysOf f1 m)) tw (flatKey data k) = xorS be tw by rw [hone.out])
              clear C0 C1 C2 C5 z0 hm5 hone hbe1
              go_wp2_with (refine store16 rfl _ _ rfl bb rfl be cu rfl 23 hbe.1 hcu.1 D3.out ?_)
              clear D3
              have hlb6 : bb < (w5.setRow bb (bA be)).heap.size := blk_lt E3.out
              generalize w5.setRow bb (bA be) = w6 at *
              have hne0 : u15.ownBlock ≠ some bb := fun h => by have := hob0 bb h; omega
              go_wp2_with fail
              go_loopw [15, 19] (fun va v wi => ∃ i : Nat, i ≤ 16 ∧ v = .int .i64 i ∧ Mod (Just tb) w4 wi ∧ va.ownBlock ≠ some bb ∧ wi.heap[tb]? = some (.cells (bA tw) 23 (0, 0)) ∧ wi.heap[bb]? = some (.cells (bA be) 23 (0, 0)) ∧
                wi.ownsRow w4.heap.size 5 1 va (16 * k + i) (bL (foldUp (raStep be tw) out i))) (fun _ v _ => 16 - (intOf v).toNat)
              case atStart => exact ⟨0, by omega, rfl, E2.out, hne0, E0.out, E3.out, by rw [foldUp_zero]; exact E1.out⟩
              case round =>
                obtain ⟨i, hi, rfl, y2, hne, y0, y3, y1⟩ := hrel
                have z0 := Lib.hid y0
                have z1 := Lib.hid y1
                have z2 := Lib.hid y2
                have z3 := Lib.hid y3
                have htl := blk_lt y0
                have hbl := blk_lt y3
                have hsl := y2.size
                have hsu := Lib.hid (foldUp_succ (raStep be tw) out i)
                clear y0 y1 y2 y3 E0 E1 E2 E3
                by_cases hli : i < 16
                · have cA := byte_cell z3.out (j := i) (by rw [hbe.1]; exact hli)
                  have cB := byte_cell z0.out (j := i) (by rw [htw.1]; exact hli)
                  have hxv := bxor _ _ (hbe.get i) (htw.get i)
                  have hst := Lib.hid (raStep_def be tw (foldUp (raStep be tw) out i) i)
                  generalize be.getD i 0 = xa at *
                  generalize tw.getD i 0 = xb at *
                  generalize foldUp (raStep be tw) out i = oi at *
                  go_wp2_with fail
                  refine no_panic (fun Q2 hQ2 hN2 => ?_)
                  have HQ2 := Lib.hid hQ2
                  have HN2 := Lib.hid hN2
                  clear hQ2 hN2
                  refine wp_region_sched (C := fun w' => ∃ n, w' = wr.drewN n) [0] (List.range' 1 7) 8 [9, 10] (by kernel_rfl) (by kernel_rfl) (fun d v c a w h => HQ2.out d v c a w h) ⟨1, rfl⟩ ?_
                  refine pure_cons rfl (yields_move rfl rfl) (fun K hK => ?_)
                  go_simp
                  refine hK _ (pure_nil (reads_range 1 7 (by simp) ?_))
                  clear hK K
                  simp only [List.take_succ_cons, List.take_zero, List.drop_succ_cons, List.drop_zero]
                  repeat (go_big_quiet_step (fail))
                  refine wpQuiet_nil ?_
                  rintro _ ⟨nq, rfl⟩
                  refine seq_range 8 3 (by simp) ?_
                  simp only [List.drop_succ_cons, List.drop_zero]
                  go_wp2_with (at_builtin; refine wpList_append_own_at _ rfl (.tmp 88) (.tmp 96) 22 rfl w4.heap.size 5 i5 (.int .u8 0) 1 1 Try.underlying22 hi5 hz5 hs5 hb5 rfl (by omega) u15 (16 * k + i) _ rfl ((own_mod3 z1.out ((Mod.refl No wr).drewN nq) (fun x hx h => h)).alloc _) ⟨wr.heap.size, 0, none⟩ 1 1 [bv (xa ^^^ xb)] rfl rfl (new_one (wr.drewN nq) _ (bv (xa ^^^ xb)) 5 rfl) (fun u hu => by simp at hu; subst hu; rfl) (by unfold maxLen; omega) (by omega) (by simp; omega) ?_; refine hold ?_)
                  unfold Hold
                  intro v2 w7 hown2 hgr2 _ hob
                  have own2 := Lib.hid hown2
                  have J2 := Lib.hid (((z2.out.drewN nq).alloc (.cells #[bv (xa ^^^ xb)] 5)).grown hgr2 (fun x hx hlt => absurd hlt (by have := (z1.out.lt x hx).1; omega)))
                  have J0 := Lib.hid ((hgr2.block tb (by simp; omega) (fun e => absurd (z1.out.lt tb e.symm).1 (by omega))).trans (blk_old (o' := .cells #[bv (xa ^^^ xb)] 5) (show (wr.drewN nq).heap[tb]? = _ from z0.out)))
                  have J3 := Lib.hid ((hgr2.block bb (by simp; omega) (fun e => hne e.symm)).trans (blk_old (o' := .cells #[bv (xa ^^^ xb)] 5) (show (wr.drewN nq).heap[bb]? = _ from z3.out)))
                  have J4 := Lib.hid (show v2.ownBlock ≠ some bb by
                    rcases hob with h | h
                    · rw [h]; exact hne
                    · rw [h]; intro e; injection e with e; try simp at e
                      omega)
                  clear hown2 hgr2 hob
                  go_wp2_with fail
                  refine HN2.out _ _ ?_
                  clear HQ2 HN2
                  go_wp2_with fail
                  go_roundw
                  case rel =>
                    refine ⟨i + 1, by omega, by go_num, J2.out, J4.out, J0.out, J3.out, ?_⟩
                    rw [hsu.out, hst.out, bL_append]; exact own2.out
                  case measure => simp [intOf]; omega
                · obtain rfl : i = 16 := by omega
                  have hra := Lib.hid (ra_eq be tw out hbe.1)
                  rw [hra.out, ← hone2.out] at z1
                  clear hsu hra
                  go_wp2_with (refine load16w rfl _ rfl tb rfl 23 tw htw.1 z0.out ?_)
                  refine (rdouble_any tw _ htw).mono ?_
                  rintro e w8 ⟨rfl, hm8⟩
                  have htx := xdbl_bytes htw
                  have P0 := Lib.hid (hm8.blk z0.out (fun x => x))
                  have Q0 := Lib.hid (blk_setRow (cs := bA (xdbl tw)) P0.out)
                  have Q2 := Lib.hid ((z2.out.then hm8).setRow tb (bA (xdbl tw)) (fun _ => (rfl : tb = tb)))
                  have Q1 := Lib.hid (own_mod3 (own_mod3 z1.out hm8 (fun x hx h => h)) ((Mod.refl (Just tb) w8).setRow tb (bA (xdbl tw)) (fun _ => (rfl : tb = tb))) (fun x hx => not_just (by have := (z1.out.lt x hx).1; omega)))
                  have hlz : (oneB (enc (keysOf f1 m)) tw (flatKey data k)).length = 16 := by rw [hone2.out]; exact xorS_len _ _ hbe.1
                  have hbz : ∀ x ∈ oneB (enc (keysOf f1 m)) tw (flatKey data k), x < 256 := by rw [hone2.out]; exact (xorS_bytes htw hbe).2
                  clear z0 z1 z2 z3 hm8
                  go_wp2_with (refine store16 rfl _ _ rfl tb rfl (xdbl tw) tw rfl 23 htx.1 htw.1 P0.out ?_)
                  go_roundw
                  case rel =>
                    refine ⟨k + 1, out ++ oneB (enc (keysOf f1 m)) tw (flatKey data k), by omega, by go_num, Q2.out, by rw [htn.out]; exact Q0.out, Q1.out, by rw [List.length_append, hol, hlz]; omega, ?_, ?_⟩
                    · intro x hx
                      rcases List.mem_append.1 hx with h | h
                      · exact hok x h
                      · exact hbz x h
                    · intro j hj
                      by_cases hjk : j = k
                      · subst hjk
                        rw [flatKey_append hol hlz, htwk]
                      · rw [flatKey_append_other hol (by omega)]
                        exact Hdone.out j (by omega)
                  case measure => simp [intOf]; omega
        · have hkl2 : 16 * k = len := by omega
          have hd : decide (16 * (k : Int) < (len : Int)) = false := by simp; omega
          rw [hkl2] at z1 hol
          obtain ⟨g, c, rfl, hbg, hgl, hcp, hcp2⟩ := own_slice z1.out h0
          obtain ⟨cur, hfl⟩ := own_flat z1.out hok
          have HF := Lib.hid (hfl.bytes (c := c))
          rw [hol] at HF
          clear hfl z0 z1
          go_wp2_with fail
          refine bodyPost_ret (v := .tuple #[.slice (some ⟨g, 0, none⟩) len c, .int .i64 0]) (by simp [results, Try.results39, go_sem]) rfl ?_
          refine ⟨g, c, out, rfl, NW.out, hcp, hcp2, by omega, HF.out, ?_⟩
          rw [x1.out, x2'.out]
          exact ⟨by rw [hol, hds], hok, fun j hj => Hdone.out j (by rw [hds] at hj; omega)⟩
end Go.Proofs.Ytkbkobekndfapaa
