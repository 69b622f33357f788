/- XtsBack: the walk. -/
import Derived.Test.YtkbkobekndfapaaXp
import Derived.WalkKit
namespace Go.Proofs.Ytkbkobekndfapaa
open Go.RowKit

set_option maxRecDepth 100000 in
set_option maxHeartbeats 4000000 in
theorem xback_walk (key : List Nat) (s : Nat) (a : Option Addr) (len cap : Nat) (data : List Nat) (w : World) (hk : Bytes 32 key) (hs : s < 18446744073709551616) (hd : BytesAt w a len cap data) (_hle : len ≤ cap) (_hmax : cap ≤ maxLen) :
    Calls Try.prog 8 #[.agg (bA key), .int .u64 (s : Int), .slice a len cap] w fun e w' => e = .returned (.bool true) ∧ Mod No w w' := by
  have K0 := Lib.hid (blk_new w (.cells (bA key) 34))
  have M0 := Lib.hid ((Mod.refl No w).alloc (.cells (bA key) 34))
  have D0 := Lib.hid hd
  have hds := hd.size
  have hright := keyOf_right hk
  clear hd
  by_cases hbig : 256 < len
  · have t0 : decide ((256 : Int) < (len : Int)) = true := by simp; omega
    go_enter Try.func8, Try.ntmps8
    go_wp2_with fail
    refine (xalive_any _).mono ?_
    rintro e w1 ⟨rfl, hm⟩
    go_wp2_with fail
    go_ret
    exact ⟨rfl, M0.out.then hm⟩
  · have t0 : decide ((256 : Int) < (len : Int)) = false := by simp; omega
    go_enter Try.func8, Try.ntmps8
    go_wp2_with (refine load32w rfl _ rfl w.heap.size rfl 34 key hk.1 K0.out ?_)
    refine (key_any key _ hk).mono ?_
    rintro e w1 ⟨g, c, rfl, hm1, hc, hc2, hb⟩
    have M1 := Lib.hid (M0.out.then hm1)
    have B1 := Lib.hid hb
    clear hm1 hb K0 M0
    generalize keyOf key = kk at *
    go_wp2_with fail
    refine (xnew_any _ 32 c kk w1 B1.out hc hc2).mono ?_
    rintro e w2 ⟨h1, _⟩
    obtain ⟨xb, rfl, hm2, hxc⟩ := h1 hright
    have X2 := Lib.hid hxc
    have M2 := Lib.hid (M1.out.then hm2)
    clear h1 hxc hm2 B1 M1
    generalize xk1 kk = k1 at *
    generalize xk2 kk = k2 at *
    by_cases hw : len = 0 ∨ len % 16 ≠ 0
    · go_wp2_with fail
      refine (xseal_wrong xb k1 k2 s a len cap _ X2.out hw).mono ?_
      rintro e w3 ⟨rfl, hm3⟩
      have M3 := Lib.hid (M2.out.then hm3)
      have X3 := Lib.hid (X2.out.later hm3)
      clear hm3
      go_wp2_with fail
      refine (xopen_wrong xb k1 k2 s a len cap _ X3.out hw).mono ?_
      rintro e w4 ⟨rfl, hm4⟩
      have M4 := Lib.hid (M3.out.then hm4)
      rcases Nat.eq_zero_or_pos len with h0 | h0
      · have e1 : ((len : Int) == 0) = true := by simp; omega
        go_wp2_with fail
        refine (xalive_any _).mono ?_
        rintro e w5 ⟨rfl, hm5⟩
        go_wp2_with fail
        go_ret
        exact ⟨rfl, M4.out.then hm5⟩
      · have e1 : ((len : Int) == 0) = false := by simp; omega
        have e2 : ((len : Int) % 16 != 0) = true := by simp; omega
        go_wp2_with fail
        refine (xalive_any _).mono ?_
        rintro e w5 ⟨rfl, hm5⟩
        go_wp2_with fail
        go_ret
        exact ⟨rfl, M4.out.then hm5⟩
    · have h0 : 0 < len := by omega
      have h16 : len % 16 = 0 := by omega
      have e1 : ((len : Int) == 0) = false := by simp; omega
      have e2 : ((len : Int) % 16 != 0) = false := by simp; omega
      go_wp2_with fail
      refine (xseal_ok xb k1 k2 s a len cap data _ X2.out hs (D0.out.later M2.out) h0 h16 (by omega)).mono ?_
      rintro e w3 ⟨g3, c3, r3, rfl, hm3, hc3, _, _, hb3, hs3⟩
      have M3 := Lib.hid (M2.out.then hm3)
      have X3 := Lib.hid (X2.out.later hm3)
      have B3 := Lib.hid hb3
      have S3 := Lib.hid hs3
      clear hm3 hb3 hs3
      go_wp2_with fail
      refine (xopen_ok xb k1 k2 s a len cap data _ X3.out hs (D0.out.later M3.out) h0 h16 (by omega)).mono ?_
      rintro e w4 ⟨g4, c4, r4, rfl, hm4, hc4, _, _, hb4, hs4⟩
      have M4 := Lib.hid (M3.out.then hm4)
      have X4 := Lib.hid (X3.out.later hm4)
      have B43 := Lib.hid (B3.out.later hm4)
      have B4 := Lib.hid hb4
      have S4 := Lib.hid hs4
      clear hm4 hb4 hs4
      go_wp2_with fail
      refine (xopen_ok xb k1 k2 s _ len c3 r3 _ X4.out hs B43.out h0 h16 (by omega)).mono ?_
      rintro e w5 ⟨g5, c5, r5, rfl, hm5, _, _, _, hb5, hs5⟩
      have hr5 : r5 = data := X4.out.seal_open (by rw [hds]; exact h16) D0.out.ok S3.out hs5
      subst hr5
      have M5 := Lib.hid (M4.out.then hm5)
      have X5 := Lib.hid (X4.out.later hm5)
      have B54 := Lib.hid (B4.out.later hm5)
      have B5 := Lib.hid hb5
      clear hm5 hb5 hs5
      go_wp2_with fail
      refine (xseal_ok xb k1 k2 s _ len c4 r4 _ X5.out hs B54.out h0 h16 (by omega)).mono ?_
      rintro e w6 ⟨g6, c6, r6, rfl, hm6, _, _, _, hb6, hs6⟩
      have hr6 : r6 = r5 := X5.out.open_seal (by rw [hds]; exact h16) D0.out.ok S4.out hs6
      subst hr6
      have M6 := Lib.hid (M5.out.then hm6)
      have B65 := Lib.hid (B5.out.later hm6)
      have B6 := Lib.hid hb6
      clear hm6 hb6 hs6
      have q1 := same_any _ _ _ _ _ _ _ _ w6 B65.out (D0.out.later M6.out)
      have q2 := same_any _ _ _ _ _ _ _ _ w6 B6.out (D0.out.later M6.out)
      rw [decide_eq_true rfl] at q1 q2
      have Q1 := Lib.hid q1
      have Q2 := Lib.hid q2
      clear q1 q2
      go_wp2_with fail
      refine Q1.out.mono ?_
      rintro e w7 ⟨rfl, rfl⟩
      go_wp2_with fail
      refine Q2.out.mono ?_
      rintro e w8 ⟨rfl, rfl⟩
      go_wp2_with fail
      refine (xalive_any _).mono ?_
      rintro e w9 ⟨rfl, hm9⟩
      go_wp2_with fail
      go_ret
      exact ⟨rfl, M6.out.then hm9⟩
end Go.Proofs.Ytkbkobekndfapaa
