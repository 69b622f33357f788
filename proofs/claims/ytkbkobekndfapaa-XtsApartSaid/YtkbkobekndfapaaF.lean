/- The document's answer on bytes: contracts of mul, inverse, left, S, back. -/
import Derived.Test.YtkbkobekndfapaaProg
import Derived.Test.YtkbkobekndfapaaN
import Derived.Deep.LoopGhost
import Derived.BigRegion
namespace Go.Proofs.Ytkbkobekndfapaa
open Go.RowKit

theorem byte_eq {a b : Nat} (h : a = b) : Value.int IntKind.u8 (a : Int) = Value.int IntKind.u8 (b : Int) := by rw [h]

set_option maxHeartbeats 1000000 in
theorem mul_any (a b : Nat) (ha : a < 256) (hb : b < 256) (w : World) :
    Calls Try.prog 31 #[.int .u8 (a : Int), .int .u8 (b : Int)] w fun e w' => e = .returned (.int .u8 (mulN a b : Int)) ∧ w = w' := by
  have hfin := Lib.hid (show mulN a b = (mulSt a b 8).1 by unfold mulN; rfl)
  go_enter Try.func31, Try.ntmps31
  go_wp2
  go_loop [0, 1, 5, 6] (fun v0 v1 v5 v6 => ∃ n o p q : Nat, n ≤ 8 ∧ v6 = .int .i64 n ∧ v5 = .int .u8 (o : Int) ∧ v0 = .int .u8 (p : Int) ∧ v1 = .int .u8 (q : Int) ∧ mulSt a b n = (o, p, q)) (fun _ _ _ v6 => 8 - (intOf v6).toNat)
  case atStart => exact ⟨0, 0, a, b, by omega, rfl, rfl, rfl, rfl, mulSt_zero a b⟩
  case round =>
    obtain ⟨n, o, p, q, hn, rfl, rfl, rfl, rfl, hst⟩ := hrel
    have hin := mulSt_in ha hb n
    have hs := mulSt_succ a b n
    rw [hst] at hs hin
    obtain ⟨i1, i2, i3⟩ := hin
    simp only at i1 i2 i3
    have hst1 := Lib.hid hst
    have hs1 := Lib.hid hs
    clear hst hs
    by_cases hlt : n < 8
    · have hx := bxor o p i1 i2
      have hy : bits .xor .u8 ((p : Int) * 2 % 256) 27 = ((p * 2 % 256 ^^^ 27 : Nat) : Int) := by
        have := bxor (p * 2 % 256) 27 (by omega) (by omega)
        simpa using this
      have hz : ((p : Int) * 2 % 256) = ((p * 2 % 256 : Nat) : Int) := by omega
      have hz1 := Lib.hid hz
      clear hz
      by_cases h1 : q % 2 = 1 <;> by_cases h2 : 128 ≤ p
      all_goals
        first
          | have g1 : ((q : Int) % 2 == 1) = true := by simp; omega
          | have g1 : ((q : Int) % 2 == 1) = false := by simp; omega
        first
          | have g2 : decide (128 ≤ (p : Int)) = true := by simp; omega
          | have g2 : decide (128 ≤ (p : Int)) = false := by simp; omega
        have e1 := hs1.out
        simp only [mulStep, h1, h2, if_true, if_false] at e1
        have hs2 := Lib.hid e1
        clear e1 h1 h2
        go_wp2
        go_round
        case rel => exact ⟨n + 1, _, _, _, by omega, by go_num, by first | rfl | exact byte_eq rfl, by first | rfl | (rw [hz1.out]), by first | rfl | go_num, hs2.out⟩
        case measure => simp [intOf]; omega
    · obtain rfl : n = 8 := by omega
      go_wp2
      go_ret
      have e1 := hst1.out
      rw [e1] at hfin
      exact ⟨by rw [hfin.out]; rfl, rfl⟩

set_option maxHeartbeats 1000000 in
theorem inverse_any (a : Nat) (ha : a < 256) (w : World) :
    Calls Try.prog 40 #[.int .u8 (a : Int)] w fun e w' => e = .returned (.int .u8 (invN a : Int)) ∧ w = w' := by
  have hfin := Lib.hid (show invN a = (invSt a 7).1 by unfold invN; rfl)
  go_enter Try.func40, Try.ntmps40
  go_wp2_with fail
  go_loop [3, 4, 5] (fun v3 v4 v5 => ∃ n o p : Nat, n ≤ 7 ∧ v5 = .int .i64 n ∧ v3 = .int .u8 (o : Int) ∧ v4 = .int .u8 (p : Int) ∧ invSt a n = (o, p)) (fun _ _ v5 => 7 - (intOf v5).toNat)
  case atStart => exact ⟨0, 1, a, by omega, rfl, rfl, rfl, invSt_zero a⟩
  case round =>
    obtain ⟨n, o, p, hn, rfl, rfl, rfl, hst⟩ := hrel
    have hin := invSt_in ha n
    have hs := invSt_succ a n
    rw [hst] at hs hin
    obtain ⟨i1, i2⟩ := hin
    simp only at i1 i2
    have hst1 := Lib.hid hst
    have hs1 := Lib.hid hs
    have j1 := mulN_lt i2 i2
    clear hst hs
    by_cases hlt : n < 7
    · go_wp2_with fail
      refine (mul_any p p i2 i2 _).mono ?_
      rintro e w' ⟨rfl, rfl⟩
      have e1 := hs1.out
      simp only [invStep] at e1
      have hs2 := Lib.hid e1
      clear e1 hs1
      generalize mulN p p = r at *
      go_wp2_with fail
      refine (mul_any o r i1 j1 _).mono ?_
      rintro e w' ⟨rfl, rfl⟩
      go_wp2_with fail
      go_round
      case rel => exact ⟨n + 1, _, _, by omega, by go_num, rfl, rfl, hs2.out⟩
      case measure => simp [intOf]; omega
    · obtain rfl : n = 7 := by omega
      go_wp2_with fail
      go_ret
      have e1 := hst1.out
      rw [e1] at hfin
      exact ⟨by rw [hfin.out]; rfl, rfl⟩

set_option maxHeartbeats 400000 in
theorem left_1 (a : Nat) (ha : a < 256) (w : World) :
    Calls Try.prog 41 #[.int .u8 (a : Int), .int .u64 1] w fun e w' => e = .returned (.int .u8 (rotl a 1 : Int)) ∧ w = w' := by
  have hx : bits .or .u8 ((a : Int) * 2 % 256) ((a : Int) / 128) = ((rotl a 1 : Nat) : Int) := by
    have := u8_or_nat (a * 2 % 256) (a / 128) (by omega) (by omega)
    unfold rotl
    simpa using this
  go_enter Try.func41, Try.ntmps41
  go_wp2
  go_ret
  exact ⟨rfl, rfl⟩

set_option maxHeartbeats 400000 in
theorem left_2 (a : Nat) (ha : a < 256) (w : World) :
    Calls Try.prog 41 #[.int .u8 (a : Int), .int .u64 2] w fun e w' => e = .returned (.int .u8 (rotl a 2 : Int)) ∧ w = w' := by
  have hx : bits .or .u8 ((a : Int) * 4 % 256) ((a : Int) / 64) = ((rotl a 2 : Nat) : Int) := by
    have := u8_or_nat (a * 4 % 256) (a / 64) (by omega) (by omega)
    unfold rotl
    simpa using this
  go_enter Try.func41, Try.ntmps41
  go_wp2
  go_ret
  exact ⟨rfl, rfl⟩

set_option maxHeartbeats 400000 in
theorem left_3 (a : Nat) (ha : a < 256) (w : World) :
    Calls Try.prog 41 #[.int .u8 (a : Int), .int .u64 3] w fun e w' => e = .returned (.int .u8 (rotl a 3 : Int)) ∧ w = w' := by
  have hx : bits .or .u8 ((a : Int) * 8 % 256) ((a : Int) / 32) = ((rotl a 3 : Nat) : Int) := by
    have := u8_or_nat (a * 8 % 256) (a / 32) (by omega) (by omega)
    unfold rotl
    simpa using this
  go_enter Try.func41, Try.ntmps41
  go_wp2
  go_ret
  exact ⟨rfl, rfl⟩

set_option maxHeartbeats 400000 in
theorem left_4 (a : Nat) (ha : a < 256) (w : World) :
    Calls Try.prog 41 #[.int .u8 (a : Int), .int .u64 4] w fun e w' => e = .returned (.int .u8 (rotl a 4 : Int)) ∧ w = w' := by
  have hx : bits .or .u8 ((a : Int) * 16 % 256) ((a : Int) / 16) = ((rotl a 4 : Nat) : Int) := by
    have := u8_or_nat (a * 16 % 256) (a / 16) (by omega) (by omega)
    unfold rotl
    simpa using this
  go_enter Try.func41, Try.ntmps41
  go_wp2
  go_ret
  exact ⟨rfl, rfl⟩

set_option maxHeartbeats 400000 in
theorem left_6 (a : Nat) (ha : a < 256) (w : World) :
    Calls Try.prog 41 #[.int .u8 (a : Int), .int .u64 6] w fun e w' => e = .returned (.int .u8 (rotl a 6 : Int)) ∧ w = w' := by
  have hx : bits .or .u8 ((a : Int) * 64 % 256) ((a : Int) / 4) = ((rotl a 6 : Nat) : Int) := by
    have := u8_or_nat (a * 64 % 256) (a / 4) (by omega) (by omega)
    unfold rotl
    simpa using this
  go_enter Try.func41, Try.ntmps41
  go_wp2
  go_ret
  exact ⟨rfl, rfl⟩

set_option maxHeartbeats 1000000 in
theorem S_any (x : Nat) (hx : x < 256) (w : World) :
    Calls Try.prog 30 #[.int .u8 (x : Int)] w fun e w' => e = .returned (.int .u8 (sbox x : Int)) ∧ w = w' := by
  have hfin : sbox x = invN x ^^^ rotl (invN x) 1 ^^^ rotl (invN x) 2 ^^^ rotl (invN x) 3 ^^^ rotl (invN x) 4 ^^^ 99 := by
    rw [← SN_eq x hx]; unfold SN; rfl
  have h0 := invN_lt hx
  have HC := Lib.hid (inverse_any x hx)
  have HF := Lib.hid hfin
  clear hfin
  generalize invN x = y at *
  have h1 := rotl_lt (n := 1) h0
  have h2 := rotl_lt (n := 2) h0
  have h3 := rotl_lt (n := 3) h0
  have h4 := rotl_lt (n := 4) h0
  have b1 := bxor _ _ h0 h1
  have b2 := bxor _ _ (xor_lt _ _ h0 h1) h2
  have b3 := bxor _ _ (xor_lt _ _ (xor_lt _ _ h0 h1) h2) h3
  have b4 := bxor _ _ (xor_lt _ _ (xor_lt _ _ (xor_lt _ _ h0 h1) h2) h3) h4
  have b5 : bits .xor .u8 ((y ^^^ rotl y 1 ^^^ rotl y 2 ^^^ rotl y 3 ^^^ rotl y 4 : Nat) : Int) 99 = ((y ^^^ rotl y 1 ^^^ rotl y 2 ^^^ rotl y 3 ^^^ rotl y 4 ^^^ 99 : Nat) : Int) :=
    bxor _ 99 (xor_lt _ _ (xor_lt _ _ (xor_lt _ _ (xor_lt _ _ h0 h1) h2) h3) h4) (by omega)
  clear h1 h2 h3 h4
  go_enter Try.func30, Try.ntmps30
  go_wp2_with fail
  refine (HC.out _).mono ?_
  rintro e w' ⟨rfl, rfl⟩
  go_wp2_with fail
  refine (left_1 y h0 _).mono ?_
  rintro e w' ⟨rfl, rfl⟩
  go_wp2_with fail
  refine (left_2 y h0 _).mono ?_
  rintro e w' ⟨rfl, rfl⟩
  go_wp2_with fail
  refine (left_3 y h0 _).mono ?_
  rintro e w' ⟨rfl, rfl⟩
  go_wp2_with fail
  refine (left_4 y h0 _).mono ?_
  rintro e w' ⟨rfl, rfl⟩
  go_wp2_with fail
  go_ret
  exact ⟨by rw [HF.out]; rfl, rfl⟩

set_option maxHeartbeats 1000000 in
theorem back_any (x : Nat) (hx : x < 256) (w : World) :
    Calls Try.prog 36 #[.int .u8 (x : Int)] w fun e w' => e = .returned (.int .u8 (isbox x : Int)) ∧ w = w' := by
  have hfin : isbox x = invN (rotl x 1 ^^^ rotl x 3 ^^^ rotl x 6 ^^^ 5) := by
    rw [← backN_eq x hx]; unfold backN; rfl
  have h1 := rotl_lt (n := 1) hx
  have h2 := rotl_lt (n := 3) hx
  have h3 := rotl_lt (n := 6) hx
  have b1 := bxor _ _ h1 h2
  have b2 := bxor _ _ (xor_lt _ _ h1 h2) h3
  have b3 : bits .xor .u8 ((rotl x 1 ^^^ rotl x 3 ^^^ rotl x 6 : Nat) : Int) 5 = ((rotl x 1 ^^^ rotl x 3 ^^^ rotl x 6 ^^^ 5 : Nat) : Int) :=
    bxor _ 5 (xor_lt _ _ (xor_lt _ _ h1 h2) h3) (by omega)
  have h5 := xor_lt _ 5 (xor_lt _ _ (xor_lt _ _ h1 h2) h3) (by omega)
  have HF := Lib.hid hfin
  clear hfin h1 h2 h3
  go_enter Try.func36, Try.ntmps36
  go_wp2_with fail
  refine (left_1 x hx _).mono ?_
  rintro e w' ⟨rfl, rfl⟩
  go_wp2_with fail
  refine (left_3 x hx _).mono ?_
  rintro e w' ⟨rfl, rfl⟩
  go_wp2_with fail
  refine (left_6 x hx _).mono ?_
  rintro e w' ⟨rfl, rfl⟩
  go_wp2_with fail
  refine (inverse_any _ h5 _).mono ?_
  rintro e w' ⟨rfl, rfl⟩
  go_wp2_with fail
  go_ret
  exact ⟨by rw [HF.out]; rfl, rfl⟩
end Go.Proofs.Ytkbkobekndfapaa
