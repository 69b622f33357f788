/- The document's Right, Seal and Open: their contracts. -/
import Derived.Test.YtkbkobekndfapaaXm
namespace Go.Proofs.Ytkbkobekndfapaa
open Go.RowKit

set_option maxRecDepth 100000 in
set_option maxHeartbeats 4000000 in
theorem right_any (a : Option Addr) (len cap : Nat) (key : List Nat) (w : World) (hk : BytesAt w a len cap key) (hle : len ≤ cap) (hmax : cap ≤ maxLen) :
    Calls Try.prog 22 #[.slice a len cap] w fun e w' => (XRight key → e = .returned (.bool true)) ∧ (¬ XRight key → e = .returned (.bool false)) ∧ Mod No w w' := by
  have hks := hk.size
  obtain ⟨n, hn⟩ : ∃ n, n = len / 2 := ⟨_, rfl⟩
  have hn1 := Lib.hid hn
  have hq : ((len : Int) / 2) = (n : Int) := by omega
  have hcn : n ≤ cap := by omega
  have hc9 : cap ≤ 9223372036854775807 := by unfold maxLen at hmax; omega
  have hl9 : len ≤ 9223372036854775807 := by omega
  have hn9 : n ≤ 9223372036854775807 := by omega
  have b1 := hk.take (n := n) (by omega)
  have b2 := hk.drop (n := n) hle (by omega)
  have hlo := fun w => run_cut_h a len cap n w (by omega)
  have hhi := fun w => run_cut_l a len cap n w (by omega)
  have hn2 : key.length / 2 = n := by rw [hks]; exact hn1.out.symm
  by_cases hr : len = 32 ∨ len = 64
  · have hln : len - n = n := by omega
    rw [hln] at b2
    simp only [hln] at hhi
    have t1 : ∀ y : Later No w, (convert 22 9 (.slice a n cap)).run Try.prog y.to = .ok (.string (strN (key.take n))) y.to := fun y => (b1.later y.ok).str
    have t2 : ∀ y : Later No w, (convert 22 9 (.slice (cutA a n cap) n (cap - n))).run Try.prog y.to = .ok (.string (strN (key.drop n))) y.to := fun y => (b2.later y.ok).str
    have e3 := strN_eq b1.ok b2.ok
    have hX : XRight key ↔ key.take n ≠ key.drop n := ⟨fun h => by have := h.2; rwa [hn2] at this, fun h => ⟨by rw [hks]; exact hr, by rw [hn2]; exact h⟩⟩
    have HX := Lib.hid hX
    generalize strN (key.take n) = x1 at *
    generalize strN (key.drop n) = x2 at *
    clear hX b1 b2 hk hn
    by_cases he : key.take n = key.drop n
    · rw [decide_eq_true he] at e3
      have hr2 : (((len : Int) == 32) = true) ∨ (((len : Int) == 32) = false ∧ ((len : Int) == 64) = true) := by
        rcases hr with h | h
        · left; simp; omega
        · right; constructor <;> simp <;> omega
      rcases hr2 with e1 | ⟨e1, e2⟩
      all_goals
        clear hr
        go_enter Try.func22, Try.ntmps22
        go_wp2_with fail
        refine wp_region_laters (by kernel_rfl) (by kernel_rfl) ?_
        repeat (go_big_quiet_step (fail))
        refine wpQuiet_nil ?_
        intro y
        go_wp2_with fail
        go_ret
        exact ⟨fun h => absurd he (HX.out.1 h), fun _ => rfl, y.ok⟩
    · rw [decide_eq_false he] at e3
      have hr2 : (((len : Int) == 32) = true) ∨ (((len : Int) == 32) = false ∧ ((len : Int) == 64) = true) := by
        rcases hr with h | h
        · left; simp; omega
        · right; constructor <;> simp <;> omega
      rcases hr2 with e1 | ⟨e1, e2⟩
      all_goals
        clear hr
        go_enter Try.func22, Try.ntmps22
        go_wp2_with fail
        refine wp_region_laters (by kernel_rfl) (by kernel_rfl) ?_
        repeat (go_big_quiet_step (fail))
        refine wpQuiet_nil ?_
        intro y
        go_wp2_with fail
        go_ret
        exact ⟨fun _ => rfl, fun h => absurd (HX.out.2 he) h, y.ok⟩
  · have hnr : ¬ XRight key := fun h => hr (by have := h.1; rwa [hks] at this)
    have e1 : ((len : Int) == 32) = false := by simp; omega
    have e2 : ((len : Int) == 64) = false := by simp; omega
    clear b1 b2 hk hn hlo hhi
    go_enter Try.func22, Try.ntmps22
    go_wp2_with fail
    refine wp_region_laters (by kernel_rfl) (by kernel_rfl) ?_
    repeat (go_big_quiet_step (fail))
    refine wpQuiet_nil ?_
    intro y
    go_wp2_with fail
    go_ret
    exact ⟨fun h => absurd h hnr, fun _ => rfl, y.ok⟩

theorem turn_wrong (x y : Value) (a : Option Addr) (len cap : Nat) (o : Bool) (w : World) (h : len = 0 ∨ len % 16 ≠ 0) :
    Calls Try.prog 39 #[x, y, .slice a len cap, .bool o] w fun e w' => XNone w 52 e w' := by
  go_enter Try.func39, Try.ntmps39
  rcases Nat.eq_zero_or_pos len with h0 | h0
  · subst h0
    go_wp2_with fail
    refine bodyPost_ret (v := .tuple #[.slice none 0 0, .int .i64 52]) (by simp [results, Try.results39, go_sem]) rfl ⟨rfl, Mod.refl _ _⟩
  · have e1 : ((len : Int) == 0) = false := by simp; omega
    have e2 : ((len : Int) % 16 != 0) = true := by simp; omega
    go_wp2_with fail
    refine bodyPost_ret (v := .tuple #[.slice none 0 0, .int .i64 52]) (by simp [results, Try.results39, go_sem]) rfl ⟨rfl, Mod.refl _ _⟩

theorem rseal_wrong (x y : Value) (a : Option Addr) (len cap : Nat) (w : World) (h : len = 0 ∨ len % 16 ≠ 0) :
    Calls Try.prog 24 #[x, y, .slice a len cap] w fun e w' => XNone w 52 e w' := by
  go_enter Try.func24, Try.ntmps24
  go_wp2_with fail
  refine (turn_wrong _ _ a len cap _ w h).mono ?_
  rintro e w' ⟨rfl, hm⟩
  go_wp2_with fail
  refine bodyPost_ret (v := .tuple #[.slice none 0 0, .int .i64 52]) (by simp [results, Try.results24, go_sem]) rfl ⟨rfl, hm⟩
theorem rseal_ok (ka : Option Addr) (n kc : Nat) (key : List Nat) (s : Nat) (a : Option Addr) (len cap : Nat) (data : List Nat) (w : World) (hk : BytesAt w ka n kc key) (hkle : n ≤ kc) (hkmax : kc ≤ maxLen) (hn : n = 32 ∨ n = 64)
    (hs : s < 18446744073709551616) (hd : BytesAt w a len cap data) (h0 : 0 < len) (h16 : len % 16 = 0) (hlen : len ≤ 1000000) :
    Calls Try.prog 24 #[.slice ka n kc, .int .u64 (s : Int), .slice a len cap] w fun e w' => XGood w (enc (xk1 key)) (enc (xk2 key) (secB s)) data len e w' := by
  have hE := Lib.hid (turn_enc ka n kc key s a len cap data w hk hkle hkmax hn hs hd h0 h16 hlen)
  clear hk hd
  go_enter Try.func24, Try.ntmps24
  go_wp2_with fail
  refine hE.out.mono ?_
  rintro e w' ⟨g, c, r, rfl, hm, hc, hc2, hg, hf, hr⟩
  have Hf := Lib.hid hf
  clear hE hf
  go_wp2_with fail
  refine bodyPost_ret (v := .tuple #[.slice (some ⟨g, 0, none⟩) len c, .int .i64 0]) (by simp [results, Try.results24, go_sem]) rfl ?_
  exact ⟨g, c, r, rfl, hm, hc, hc2, hg, Hf.out, hr⟩

theorem ropen_wrong (x y : Value) (a : Option Addr) (len cap : Nat) (w : World) (h : len = 0 ∨ len % 16 ≠ 0) :
    Calls Try.prog 26 #[x, y, .slice a len cap] w fun e w' => XNone w 52 e w' := by
  go_enter Try.func26, Try.ntmps26
  go_wp2_with fail
  refine (turn_wrong _ _ a len cap _ w h).mono ?_
  rintro e w' ⟨rfl, hm⟩
  go_wp2_with fail
  refine bodyPost_ret (v := .tuple #[.slice none 0 0, .int .i64 52]) (by simp [results, Try.results26, go_sem]) rfl ⟨rfl, hm⟩
theorem ropen_ok (ka : Option Addr) (n kc : Nat) (key : List Nat) (s : Nat) (a : Option Addr) (len cap : Nat) (data : List Nat) (w : World) (hk : BytesAt w ka n kc key) (hkle : n ≤ kc) (hkmax : kc ≤ maxLen) (hn : n = 32 ∨ n = 64)
    (hs : s < 18446744073709551616) (hd : BytesAt w a len cap data) (h0 : 0 < len) (h16 : len % 16 = 0) (hlen : len ≤ 1000000) :
    Calls Try.prog 26 #[.slice ka n kc, .int .u64 (s : Int), .slice a len cap] w fun e w' => XGood w (dec (xk1 key)) (enc (xk2 key) (secB s)) data len e w' := by
  have hE := Lib.hid (turn_dec ka n kc key s a len cap data w hk hkle hkmax hn hs hd h0 h16 hlen)
  clear hk hd
  go_enter Try.func26, Try.ntmps26
  go_wp2_with fail
  refine hE.out.mono ?_
  rintro e w' ⟨g, c, r, rfl, hm, hc, hc2, hg, hf, hr⟩
  have Hf := Lib.hid hf
  clear hE hf
  go_wp2_with fail
  refine bodyPost_ret (v := .tuple #[.slice (some ⟨g, 0, none⟩) len c, .int .i64 0]) (by simp [results, Try.results26, go_sem]) rfl ?_
  exact ⟨g, c, r, rfl, hm, hc, hc2, hg, Hf.out, hr⟩

theorem eq_same {w : World} {a a' : Option Addr} {n n' c c' : Nat} {l : List Nat} (h : BytesAt w a n c l) (h' : BytesAt w a' n' c' l) :
    Calls Try.prog 14 #[.slice a n c, .slice a' n' c'] w fun e w' => e = .returned (.bool true) ∧ w = w' := by
  have := same_any a a' n n' c c' l l w h h'
  rwa [decide_eq_true rfl] at this
theorem nil_same (w : World) : Calls Try.prog 14 #[.slice none 0 0, .slice none 0 0] w fun e w' => e = .returned (.bool true) ∧ w = w' :=
  eq_same (l := []) ⟨rfl, fun x hx => absurd hx (by simp), .inl rfl⟩ ⟨rfl, fun x hx => absurd hx (by simp), .inl rfl⟩
end Go.Proofs.Ytkbkobekndfapaa
