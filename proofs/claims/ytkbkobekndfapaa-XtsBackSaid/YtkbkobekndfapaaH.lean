/- The live question of layer 4: its answer is yes. -/
import Derived.Test.YtkbkobekndfapaaK4
import Derived.Test.YtkbkobekndfapaaD
import Derived.Test.YtkbkobekndfapaaQ
import Derived.Test.YtkbkobekndfapaaG
namespace Go.Proofs.Ytkbkobekndfapaa
open Go.RowKit

def aKey (n : Nat) : List Nat := List.range n
def aBlkStep (l : List Nat) (i : Nat) : List Nat := l.set i (17 * i % 256)
def aBlk : List Nat := foldUp aBlkStep (noughts 16) 16
theorem aKey_bytes (n : Nat) (h : n ≤ 256) : Bytes n (aKey n) := ⟨by simp [aKey], fun x hx => by simp [aKey] at hx; omega⟩
theorem aKey_succ (n : Nat) : aKey (n + 1) = aKey n ++ [n] := by simp [aKey, List.range_succ]
theorem aBlkStep_bytes {n : Nat} {l : List Nat} (h : Bytes n l) (i : Nat) : Bytes n (aBlkStep l i) := h.set _ (Nat.mod_lt _ (by omega))
theorem aBlk_bytes : Bytes 16 aBlk := foldUp_inv (noughts_bytes 16) (fun _ i h => aBlkStep_bytes h i) 16
theorem decrypt_later {w0 : World} {pb kb cap : Nat} {cur : Array Value} {ks : List (List Nat)} {s : List Nat} (hs : Bytes 16 s) (hc : CipherAt w0 pb kb cap cur ks) (x : Later No w0) :
    Calls Try.prog 18 #[.pointer (some ⟨pb, 0, none⟩), .agg (bA s)] x.to fun e w' => e = .returned (.agg (bA (dec ks s))) ∧ ∃ y : Later No w0, w' = y.to :=
  (decrypt_any pb kb cap cur ks s x.to hs (hc.later x.ok (fun x => x) (fun x => x))).mono fun _ _ ⟨he, hm⟩ => ⟨he, ⟨_, x.ok.then hm⟩, rfl⟩
theorem encrypt_later {w0 : World} {pb kb cap : Nat} {cur : Array Value} {ks : List (List Nat)} {s : List Nat} (hs : Bytes 16 s) (hc : CipherAt w0 pb kb cap cur ks) (x : Later No w0) :
    Calls Try.prog 16 #[.pointer (some ⟨pb, 0, none⟩), .agg (bA s)] x.to fun e w' => e = .returned (.agg (bA (enc ks s))) ∧ ∃ y : Later No w0, w' = y.to :=
  (encrypt_any pb kb cap cur ks s x.to hs (hc.later x.ok (fun x => x) (fun x => x))).mono fun _ _ ⟨he, hm⟩ => ⟨he, ⟨_, x.ok.then hm⟩, rfl⟩
theorem alive_said : (enc (keysOf (expand 4 (aKey 16)) 11) aBlk).getD 0 0 = 105 ∧ (enc (keysOf (expand 4 (aKey 16)) 11) aBlk).getD 1 0 = 196 ∧ (enc (keysOf (expand 4 (aKey 16)) 11) aBlk).getD 15 0 = 90 := by decide +kernel

set_option maxRecDepth 100000 in
set_option maxHeartbeats 4000000 in
theorem alive_any (w : World) : Calls Try.prog 15 #[] w fun e w' => e = .returned (.bool true) ∧ Mod No w w' := by
  obtain ⟨i5, hi5, hz5, hs5, hb5⟩ := info_parts info5
  have hz : ∀ w, (zeroValue 23).run Try.prog w = .ok (.agg (bA (noughts 16))) w := fun _ => by kernel_rfl
  go_enter Try.func15, Try.ntmps15
  go_wp2_with fail
  go_loopw [1, 3] (fun v1 v3 wr => ∃ i : Nat, i ≤ 16 ∧ v3 = .int .i64 i ∧ Mod No w wr ∧ wr.heap[w.heap.size]? = some (.cells (bA (foldUp aBlkStep (noughts 16) i)) 23 (0, 0)) ∧ wr.ownsRow (w.heap.size + 1) 5 1 v1 i (bL (aKey i))) (fun _ v3 _ => 16 - (intOf v3).toNat)
  case atStart => exact ⟨0, by omega, rfl, (Mod.refl _ _).alloc _, by rw [foldUp_zero]; exact blk_new _ _, World.ownsRow_nil _ _ _ _⟩
  case round =>
    obtain ⟨i, hi, rfl, y2, y0, y1⟩ := hrel
    have z0 := Lib.hid y0
    have z1 := Lib.hid y1
    have z2 := Lib.hid y2
    clear y0 y1 y2
    by_cases hli : i < 16
    · have hown := z1.out.alloc (.cells #[bv i] 5)
      go_wp2_with (at_builtin; refine wpList_append_own _ rfl (.tmp 11) (.tmp 14) 22 rfl (w.heap.size + 1) 5 i5 (.int .u8 0) 1 1 Try.underlying22 hi5 hz5 hs5 hb5 rfl (by omega) u1 i (bL (aKey i)) rfl hown ⟨wr.heap.size, 0, none⟩ 1 1 [bv i] rfl rfl (new_one wr _ (bv i) 5 rfl) (fun u hu => by simp at hu; subst hu; rfl) (by unfold maxLen; omega) (by omega) (by have := blk_lt z0.out; have := z2.out.size; simp; omega) ?_; refine hold ?_)
      unfold Hold
      intro v' w2 hown2 hgr2 _
      have hown3 : w2.ownsRow (w.heap.size + 1) 5 1 v' (i + 1) (bL (aKey (i + 1))) := by rw [aKey_succ, bL_append]; exact hown2
      have hnb : some w.heap.size ≠ u1.ownBlock := fun e => by have := (z1.out.lt _ e.symm).1; omega
      have x0 := (hgr2.block w.heap.size (by have := blk_lt z0.out; simp; omega) hnb).trans (blk_old (o' := .cells #[bv i] 5) z0.out)
      have x2 : Mod No w w2 := (z2.out.alloc (.cells #[bv i] 5)).grown hgr2 (fun k hk hlt => absurd hlt (by have := (z1.out.lt k hk).1; omega))
      have X0 := Lib.hid x0
      have X1 := Lib.hid hown3
      have X2 := Lib.hid x2
      have hb : Bytes 16 (foldUp aBlkStep (noughts 16) i) := foldUp_inv (noughts_bytes 16) (fun _ i h => aBlkStep_bytes h i) i
      have hsu := Lib.hid (foldUp_succ aBlkStep (noughts 16) i)
      have cf : w2.frozen? ⟨w.heap.size, i, none⟩ = false := blk_free x0
      have cc := byte_cell x0 (j := i) (by rw [hb.1]; exact hli)
      clear hown hown2 hown3 hgr2 hnb x0 x2 z0 z1 z2
      generalize foldUp aBlkStep (noughts 16) i = cu at *
      go_wp2_with fail
      go_roundw
      case rel =>
        refine ⟨i + 1, by omega, by go_num, X2.out.setCell (p := ⟨w.heap.size, i, none⟩) (fun h => absurd h (by simp)) _, ?_, ?_⟩
        · rw [show (17 * (i : Int)) = ((17 * i % 256 : Nat) : Int) from by omega, hsu.out]; exact byte_set X0.out
        · exact own_mod2 X1.out ((Mod.refl (Just w.heap.size) w2).setCell (p := ⟨w.heap.size, i, none⟩) (fun _ => (rfl : w.heap.size = w.heap.size)) _) (by omega)
      case measure => simp [intOf]; omega
    · obtain rfl : i = 16 := by omega
      obtain ⟨g, c, rfl⟩ : ∃ g c, u1 = .slice (some ⟨g, 0, none⟩) 16 c := by
        rcases z1.out.2 with ⟨_, h0⟩ | ⟨g, c, cur, hv, _⟩
        · omega
        · exact ⟨g, c, hv⟩
      have hcc : 16 ≤ c ∧ c ≤ maxLen := by
        rcases z1.out.2 with ⟨h0, _⟩ | ⟨g', c', cur, hv, _, _, h1, h2, _⟩
        · cases h0
        · injection hv with _ _ h3; omega
      have hcell : ∀ j, j < 16 → wr.cell? ((⟨g, 0, none⟩ : Addr).add j) = some (.int .u8 (((aKey 16).getD j 0 : Nat) : Int)) := by
        intro j hj
        rw [show (⟨g, 0, none⟩ : Addr).add j = ⟨g, j, none⟩ from by unfold Addr.add; split <;> simp_all]
        exact own_cell z1.out (by rw [(aKey_bytes 16 (by omega)).1]; exact hj)
      have HC := Lib.hid hcell
      have HB := Lib.hid (show wr.heap[w.heap.size]? = some (.cells (bA aBlk) 23 (0, 0)) from z0.out)
      have hal := alive_said
      clear hcell z0 z1 hi hli
      obtain ⟨hc1, hc2⟩ := hcc
      go_wp2_with fail
      refine (new_4 ⟨g, 0, none⟩ c (aKey 16) _ (aKey_bytes 16 (by omega)) hc1 hc2 HC.out).mono ?_
      rintro e w1 ⟨pb, kb, cc, cur, rfl, hm, hpb, hkb, hci⟩
      have HK := Lib.hid (keysOf_keys (expand_bytes (N := 4) (key := aKey 16) (aKey_bytes 16 (by omega))).2 11)
      have H1 := Lib.hid (z2.out.then hm)
      have H2 := Lib.hid (hm.blk HB.out (fun x => x))
      have H3 := Lib.hid hci
      have hsz1 := hm.size
      generalize keysOf (expand 4 (aKey 16)) 11 = ks at *
      have hbb : Bytes 16 aBlk := aBlk_bytes
      have hde := Lib.hid (dec_enc HK.out (by omega) hbb)
      have hex := enc_bytes HK.out (by omega) hbb
      clear hm hci z2 HB HC
      go_wp2_with (first
        | (refine load16w rfl _ rfl w.heap.size rfl 23 aBlk hbb.1 H2.out ?_)
        | (go_at_call 16; refine hold ?_))
      unfold Hold
      refine (encrypt_any pb kb cc cur ks aBlk _ hbb H3.out).mono ?_
      rintro e w2 ⟨rfl, hm⟩
      have J1 := Lib.hid (H1.out.then hm)
      have J2 := Lib.hid (hm.blk H2.out (fun x => x))
      have J3 := Lib.hid (H3.out.later hm (fun x => x) (fun x => x))
      have hsz2 := hm.size
      clear hm H1 H2 H3 HK
      generalize enc ks aBlk = x at *
      obtain ⟨ha1, ha2, ha3⟩ := hal
      have A1 := Lib.hid ha1
      have A2 := Lib.hid ha2
      have A3 := Lib.hid ha3
      clear ha1 ha2 ha3
      go_wp2_with (refine store16 rfl _ _ rfl w2.heap.size rfl x (noughts 16) rfl 23 hex.1 (noughts_bytes 16).1 (blk_new _ _) ?_; rw [alloc_setRow])
      simp only [Act.put]
      have L2 := Lib.hid (blk_old (o' := .cells (bA x) 23) J2.out)
      have L3 := Lib.hid (J3.out.later ((Mod.refl No w2).alloc (.cells (bA x) 23)) (fun x => x) (fun x => x))
      have L1 := Lib.hid (J1.out.alloc (.cells (bA x) 23))
      have L0 := Lib.hid (blk_new w2 (.cells (bA x) 23))
      clear J1 J2 J3
      generalize w2.alloc (.cells (bA x) 23) = wz at *
      have k0 : ∀ y : Later No wz, y.to.cell? ⟨w2.heap.size, 0, none⟩ = some (.int .u8 105) := fun y => by
        have h := byte_cell (y.ok.blk L0.out (fun x => x)) (j := 0) (by rw [hex.1]; omega)
        rw [A1.out] at h; exact h
      have k1 : ∀ y : Later No wz, y.to.cell? ⟨w2.heap.size, 1, none⟩ = some (.int .u8 196) := fun y => by
        have h := byte_cell (y.ok.blk L0.out (fun x => x)) (j := 1) (by rw [hex.1]; omega)
        rw [A2.out] at h; exact h
      have k2 : ∀ y : Later No wz, y.to.cell? ⟨w2.heap.size, 15, none⟩ = some (.int .u8 90) := fun y => by
        have h := byte_cell (y.ok.blk L0.out (fun x => x)) (j := 15) (by rw [hex.1]; omega)
        rw [A3.out] at h; exact h
      have heq := run_eq16 aBlk aBlk hbb.1 hbb.1
      rw [decide_eq_true rfl] at heq
      have hdl := Lib.hid (fun y : Later No wz => by have h := decrypt_later hex L3.out y; rw [hde.out] at h; exact h)
      refine wp_region_laters (by kernel_rfl) (by kernel_rfl) ?_
      iterate 15 (go_big_quiet_step (fail))
      refine quiet_load16 rfl _ rfl w2.heap.size 0 rfl 23 (bA x) x hex.1 (fun w ⟨y, hy⟩ => by rw [hy]; exact y.ok.blk L0.out (fun x => x)) (fun j v hv => by rw [Nat.zero_add]; exact hv) (fun K hK => ?_)
      go_simp
      refine hK _ ?_
      clear hK K
      go_big_quiet_step (exact hdl.out _)
      refine quiet_load16 rfl _ rfl w.heap.size 0 rfl 23 (bA aBlk) aBlk hbb.1 (fun w' ⟨y, hy⟩ => by rw [hy]; exact y.ok.blk L2.out (fun x => x)) (fun j v hv => by rw [Nat.zero_add]; exact hv) (fun K hK => ?_)
      go_simp
      refine hK _ ?_
      clear hK K
      repeat (go_big_quiet_step (fail))
      refine wpQuiet_nil ?_
      intro y
      go_wp2
      go_ret
      exact ⟨rfl, L1.out.then y.ok⟩
end Go.Proofs.Ytkbkobekndfapaa
