/- XtsSectors: the walk. -/
import Derived.Test.YtkbkobekndfapaaXn
import Derived.WalkKit
namespace Go.Proofs.Ytkbkobekndfapaa
open Go.RowKit

set_option maxRecDepth 100000 in
set_option maxHeartbeats 8000000 in
theorem sectors_walk (ka : Option Addr) (n kc : Nat) (key : List Nat) (s : Nat) (a : Option Addr) (len cap : Nat) (data : List Nat) (w : World) (hk : BytesAt w ka n kc key) (hkle : n ≤ kc) (hkmax : kc ≤ maxLen)
    (hs : s < 18446744073709551616) (hd : BytesAt w a len cap data) (hnil : a = none → len = 0 ∧ cap = 0) (_hle : len ≤ cap) (_hmax : cap ≤ maxLen) :
    Calls Try.prog 7 #[.slice ka n kc, .int .u64 (s : Int), .slice a len cap] w fun e w' => e = .returned (.bool true) ∧ Mod No w w' := by
  obtain ⟨i5, hi5, hz5, hs5, hb5⟩ := info_parts info5
  have HK := Lib.hid hk
  have HD := Lib.hid hd
  have hkn := hk.size
  have hds := hd.size
  by_cases hbig : 256 < len
  · have t0 : decide ((256 : Int) < (len : Int)) = true := by simp; omega
    clear hk hd
    go_enter Try.func7, Try.ntmps7
    go_wp2_with fail
    refine (xalive_any _).mono ?_
    rintro e w1 ⟨rfl, hm⟩
    go_wp2_with fail
    go_ret
    exact ⟨rfl, hm⟩
  have t0 : decide ((256 : Int) < (len : Int)) = false := by simp; omega
  have A1 := Lib.hid ((Mod.refl No w).alloc (.cells #[] 5))
  have A2 := Lib.hid (show (w.alloc (.cells #[] 5)).ownsRow w.heap.size 5 1 (.slice (some ⟨w.heap.size, 0, none⟩) 0 0) 0 [] from ⟨rfl, .inr ⟨w.heap.size, 0, #[], rfl, Nat.le_refl _, blk_new' _ (by simp), Nat.le_refl _, Nat.zero_le _, rfl, rfl⟩⟩)
  have A3 := Lib.hid (hd.later A1.out)
  have A4 : w.heap.size ≤ (w.alloc (.cells #[] 5)).heap.size := by simp
  clear hk hd
  go_enter Try.func7, Try.ntmps7
  go_wp2_with (refine append_bytes rfl (.tmp 26) (.tmp 27) rfl w.heap.size (.slice (some ⟨w.heap.size, 0, none⟩) 0 0) 0 [] rfl A2.out a len cap data rfl A3.out hnil (by omega) A4 ?_; refine hold ?_)
  unfold Hold
  intro v1 w1 o1 m1
  have B1 := Lib.hid (show Mod No w w1 from A1.out.trans m1 (fun i hi h => absurd (show w.heap.size = i by injection h) (by omega)))
  have B2 := Lib.hid o1
  have B4 : w.heap.size ≤ w1.heap.size := by have := m1.size; simp at this; omega
  have hnr : ∀ k, v1.ownBlock = some k → w.heap.size ≤ k := fun k h => (o1.lt k h).1
  clear A1 A2 A3 A4 o1 m1
  go_wp2_with (at_builtin; refine wpList_append_own _ rfl (.tmp 28) (.tmp 29) 22 rfl w.heap.size 5 i5 (.int .u8 0) 1 1 Try.underlying22 hi5 hz5 hs5 hb5 rfl (by omega) v1 len _ rfl (B2.out.alloc (.cells #[bv 77] 5)) ⟨w1.heap.size, 0, none⟩ 1 1 [bv 77] rfl rfl (new_one w1 _ (bv 77) 5 rfl) (fun u hu => by simp at hu; subst hu; rfl) (by unfold maxLen; omega) (by omega) (by simp; omega) ?_; refine hold ?_)
  unfold Hold
  intro v2 w2 o2 g2 _
  have C1 := Lib.hid (show Mod No w w2 from (B1.out.alloc (.cells #[bv 77] 5)).grown g2 (fun k hk hlt => absurd hlt (by have := hnr k hk; omega)))
  have o3 : w2.ownsRow w.heap.size 5 1 v2 (len + 1) (bL (data ++ [77])) := by rw [bL_append]; exact o2
  obtain ⟨g, cp, rfl, hg, hgl, hcp, hcp2⟩ := own_slice o3 (by omega)
  obtain ⟨cu, hcu, hcg⟩ := World.ownsRow.form o3
  have C4 := Lib.hid (show BytesAt w2 (some ⟨g, 0, none⟩) len cp data from ⟨hds, HD.out.ok, .inr ⟨g, 0, rfl, fun j hj => by
    rw [Nat.zero_add, blk_cell hcu (hcg j (by omega))]
    simp [List.getD, List.getElem?_append_left (show j < data.length by omega)]⟩⟩)
  have C5 := Lib.hid (show w2.cell? ⟨g, len, none⟩ = some (.int .u8 77) by
    rw [blk_cell hcu (hcg len (by omega))]
    simp [List.getD, ← hds])
  have hcp3 : cp ≤ 9223372036854775807 := by unfold maxLen at hcp2; omega
  clear B1 B2 B4 hnr o2 g2 o3 hcu hcg
  go_wp2_with fail
  refine (xnew_any ka n kc key w2 (HK.out.later C1.out) hkle hkmax).mono ?_
  rintro e w3 ⟨h1, h2⟩
  by_cases hr : XRight key
  · obtain ⟨xb, rfl, hm3, hx3⟩ := h1 hr
    have hn2 : n = 32 ∨ n = 64 := by have := hr.1; rwa [hkn] at this
    have M3 := Lib.hid (C1.out.then hm3)
    have L3 := Lib.hid hm3
    have X3 := Lib.hid hx3
    clear h1 h2 hm3 hx3
    go_wp2_with fail
    refine (right_any ka n kc key w3 (HK.out.later M3.out) hkle hkmax).mono ?_
    rintro e w4 ⟨h1, _, hm4⟩
    obtain rfl := h1 hr
    have M4 := Lib.hid (M3.out.then hm4)
    have L4 := Lib.hid (L3.out.then hm4)
    have X4 := Lib.hid (X3.out.later hm4)
    clear h1 hm4 M3 L3 X3
    by_cases hw : len = 0 ∨ len % 16 ≠ 0
    · go_wp2_with fail
      refine (xseal_wrong xb _ _ s _ len cp _ X4.out hw).mono ?_
      rintro e w5 ⟨rfl, hm5⟩
      have M5 := Lib.hid (M4.out.then hm5)
      have L5 := Lib.hid (L4.out.then hm5)
      have X5 := Lib.hid (X4.out.later hm5)
      clear hm5 M4 L4 X4
      go_wp2_with fail
      refine (rseal_wrong _ _ a len cap _ hw).mono ?_
      rintro e w6 ⟨rfl, hm6⟩
      have M6 := Lib.hid (M5.out.then hm6)
      have L6 := Lib.hid (L5.out.then hm6)
      have X6 := Lib.hid (X5.out.later hm6)
      clear hm6 M5 L5 X5
      go_wp2_with fail
      refine (xopen_wrong xb _ _ s _ len cp _ X6.out hw).mono ?_
      rintro e w7 ⟨rfl, hm7⟩
      have M7 := Lib.hid (M6.out.then hm7)
      have L7 := Lib.hid (L6.out.then hm7)
      clear hm7 M6 L6 X6
      go_wp2_with fail
      refine (ropen_wrong _ _ a len cap _ hw).mono ?_
      rintro e w8 ⟨rfl, hm8⟩
      have M8 := Lib.hid (M7.out.then hm8)
      have L8 := Lib.hid (L7.out.then hm8)
      clear hm8 M7 L7
      have q1 := Lib.hid (nil_same w8)
      have q3 := Lib.hid (eq_same (C4.out.later L8.out) (HD.out.later M8.out))
      go_wp2_with fail
      refine q1.out.mono ?_
      rintro e w9 ⟨rfl, rfl⟩
      go_wp2_with fail
      refine q1.out.mono ?_
      rintro e w9 ⟨rfl, rfl⟩
      go_wp2_with fail
      refine q3.out.mono ?_
      rintro e w9 ⟨rfl, rfl⟩
      go_wp2_with fail
      refine (xalive_any _).mono ?_
      rintro e w9 ⟨rfl, hm9⟩
      have t77 : w9.cell? ⟨g, len, none⟩ = some (.int .u8 77) := by rw [World.cell?_of_block (w := w2) ((L8.out.then hm9).block _ hgl (fun x => x))]; exact C5.out
      go_wp2_with fail
      go_ret
      exact ⟨rfl, M8.out.then hm9⟩
    · have h0 : 0 < len := by omega
      have h16 : len % 16 = 0 := by omega
      go_wp2_with fail
      refine (xseal_ok xb _ _ s _ len cp data _ X4.out hs (C4.out.later L4.out) h0 h16 (by omega)).mono ?_
      rintro e w5 ⟨g5, c5, r5, rfl, hm5, _, _, _, hb5, hs5⟩
      have M5 := Lib.hid (M4.out.then hm5)
      have L5 := Lib.hid (L4.out.then hm5)
      have X5 := Lib.hid (X4.out.later hm5)
      have B5 := Lib.hid hb5
      have S5 := Lib.hid hs5
      clear hm5 M4 L4 X4 hb5 hs5
      go_wp2_with fail
      refine (rseal_ok ka n kc key s a len cap data _ (HK.out.later M5.out) hkle hkmax hn2 hs (HD.out.later M5.out) h0 h16 (by omega)).mono ?_
      rintro e w6 ⟨g6, c6, r6, rfl, hm6, _, _, _, hb6, hs6⟩
      have e65 : r5 = r6 := S5.out.same hs6 (by rw [hds]; exact h16)
      subst e65
      have M6 := Lib.hid (M5.out.then hm6)
      have L6 := Lib.hid (L5.out.then hm6)
      have X6 := Lib.hid (X5.out.later hm6)
      have B56 := Lib.hid (B5.out.later hm6)
      have B6 := Lib.hid hb6
      clear hm6 M5 L5 X5 B5 S5 hb6 hs6
      go_wp2_with fail
      refine (xopen_ok xb _ _ s _ len cp data _ X6.out hs (C4.out.later L6.out) h0 h16 (by omega)).mono ?_
      rintro e w7 ⟨g7, c7, r7, rfl, hm7, _, _, _, hb7, hs7⟩
      have M7 := Lib.hid (M6.out.then hm7)
      have L7 := Lib.hid (L6.out.then hm7)
      have B57 := Lib.hid (B56.out.later hm7)
      have B67 := Lib.hid (B6.out.later hm7)
      have B7 := Lib.hid hb7
      have S7 := Lib.hid hs7
      clear hm7 M6 L6 X6 B56 B6 hb7 hs7
      go_wp2_with fail
      refine (ropen_ok ka n kc key s a len cap data _ (HK.out.later M7.out) hkle hkmax hn2 hs (HD.out.later M7.out) h0 h16 (by omega)).mono ?_
      rintro e w8 ⟨g8, c8, r8, rfl, hm8, _, _, _, hb8, hs8⟩
      have e87 : r7 = r8 := S7.out.same hs8 (by rw [hds]; exact h16)
      subst e87
      have M8 := Lib.hid (M7.out.then hm8)
      have L8 := Lib.hid (L7.out.then hm8)
      have q1 := Lib.hid (eq_same (B57.out.later hm8) (B67.out.later hm8))
      have q2 := Lib.hid (eq_same (B7.out.later hm8) hb8)
      have q3 := Lib.hid (eq_same (C4.out.later L8.out) (HD.out.later M8.out))
      clear hm8 M7 L7 B57 B67 B7 S7 hb8 hs8
      go_wp2_with fail
      refine q1.out.mono ?_
      rintro e w9 ⟨rfl, rfl⟩
      go_wp2_with fail
      refine q2.out.mono ?_
      rintro e w9 ⟨rfl, rfl⟩
      go_wp2_with fail
      refine q3.out.mono ?_
      rintro e w9 ⟨rfl, rfl⟩
      go_wp2_with fail
      refine (xalive_any _).mono ?_
      rintro e w9 ⟨rfl, hm9⟩
      have t77 : w9.cell? ⟨g, len, none⟩ = some (.int .u8 77) := by rw [World.cell?_of_block (w := w2) ((L8.out.then hm9).block _ hgl (fun x => x))]; exact C5.out
      go_wp2_with fail
      go_ret
      exact ⟨rfl, M8.out.then hm9⟩
  · obtain ⟨rfl, hm3⟩ := h2 hr
    have M3 := Lib.hid (C1.out.then hm3)
    clear h1 h2 hm3
    go_wp2_with fail
    refine (right_any ka n kc key w3 (HK.out.later M3.out) hkle hkmax).mono ?_
    rintro e w4 ⟨_, h1, hm4⟩
    obtain rfl := h1 hr
    have M4 := Lib.hid (M3.out.then hm4)
    clear h1 hm4 M3
    go_wp2_with fail
    refine (xalive_any _).mono ?_
    rintro e w5 ⟨rfl, hm5⟩
    go_wp2_with fail
    go_ret
    exact ⟨rfl, M4.out.then hm5⟩
end Go.Proofs.Ytkbkobekndfapaa
