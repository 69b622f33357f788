/- New of package xts: its contract; a slice of bytes, cut. -/
import Derived.Test.YtkbkobekndfapaaXf
namespace Go.Proofs.Ytkbkobekndfapaa
open Go.RowKit

def cutA (a : Option Addr) (n cap : Nat) : Option Addr := if cap = n then a else a.map (·.add n)
theorem addr_add_zero (a : Addr) : a.add 0 = a := by unfold Addr.add; simp
theorem size5 (w : World) : (sizeOf (Try.prog.elem 22)).run Try.prog w = .ok 1 w := by kernel_rfl
theorem run_cut_h (a : Option Addr) (len cap n : Nat) (w : World) (h : n ≤ cap) : (Instr.sliceAt 22 (.slice a len cap) none (some (.int .i64 (n : Int))) none).run Try.prog w = .ok (.slice a n cap) w := by
  rw [run_sliceAt_slice w 22 _ _ _ _ (by kernel_rfl), run_slice_h w 22 a len cap (by kernel_rfl) .i64 n (by omega) (by omega), size5]
  simp only [Result.andThen, sliced, Int.toNat_natCast, Nat.sub_zero, Nat.zero_mul]
  cases a <;> simp [addr_add_zero]
theorem run_cut_l (a : Option Addr) (len cap n : Nat) (w : World) (h : n ≤ len) : (Instr.sliceAt 22 (.slice a len cap) (some (.int .i64 (n : Int))) none none).run Try.prog w = .ok (.slice (cutA a n cap) (len - n) (cap - n)) w := by
  rw [run_sliceAt_slice w 22 _ _ _ _ (by kernel_rfl), run_slice_l w 22 a len cap (by kernel_rfl) .i64 n (by omega) (by omega), size5]
  simp only [Result.andThen, sliced, Int.toNat_natCast, Nat.mul_one]
  rfl
theorem BytesAt.take {w : World} {a : Option Addr} {len cap : Nat} {l : List Nat} (h : BytesAt w a len cap l) {n : Nat} (hn : n ≤ len) : BytesAt w a n cap (l.take n) :=
  ⟨by have := h.size; simp; omega, fun x hx => h.ok x (List.mem_of_mem_take hx), by
    rcases h.cell with h0 | ⟨b, off, rfl, hc⟩
    · exact .inl (by omega)
    · exact .inr ⟨b, off, rfl, fun j hj => by rw [hc j (by omega)]; simp [List.getD, hj]⟩⟩
theorem BytesAt.drop {w : World} {a : Option Addr} {len cap : Nat} {l : List Nat} (h : BytesAt w a len cap l) {n : Nat} (hle : len ≤ cap) (hn : n ≤ len) : BytesAt w (cutA a n cap) (len - n) (cap - n) (l.drop n) :=
  ⟨by have := h.size; simp; omega, fun x hx => h.ok x (List.mem_of_mem_drop hx), by
    unfold cutA
    by_cases hcn : cap = n
    · exact .inl (by omega)
    · rw [if_neg hcn]
      rcases h.cell with h0 | ⟨b, off, rfl, hc⟩
      · exact .inl (by omega)
      · refine .inr ⟨b, off + n, ?_, fun j hj => ?_⟩
        · show some ((⟨b, off, none⟩ : Addr).add n) = _
          unfold Addr.add
          split
          · next h0 => rw [h0]; rfl
          · rfl
        · rw [Nat.add_assoc, hc (n + j) (by omega)]
          simp [List.getD, List.getElem?_drop]⟩
theorem cutA_some {w : World} {a : Option Addr} {n c : Nat} {l : List Nat} (h : BytesAt w a n c l) (h0 : 0 < n) : ∃ b off, a = some ⟨b, off, none⟩ := by
  rcases h.cell with h1 | ⟨b, off, h, _⟩
  · omega
  · exact ⟨b, off, h⟩

theorem equal_later {w0 : World} (a a' : Option Addr) (n n' c c' : Nat) (l m : List Nat) (h : BytesAt w0 a n c l) (h' : BytesAt w0 a' n' c' m) (x : Later No w0) :
    Calls Try.prog 37 #[.slice a n c, .slice a' n' c'] x.to fun e w' => e = .returned (.bool (decide (l = m))) ∧ ∃ y : Later No w0, w' = y.to :=
  (equal_any a a' n n' c c' l m x.to (h.later x.ok) (h'.later x.ok)).mono fun _ _ ⟨he, hw⟩ => ⟨he, x, hw.symm⟩
/-- A key that may be. -/
def XRight (key : List Nat) : Prop := (key.length = 32 ∨ key.length = 64) ∧ key.take (key.length / 2) ≠ key.drop (key.length / 2)
def xk1 (key : List Nat) : List (List Nat) := keysOf (flatOf (key.take (key.length / 2))) (mOf (key.length / 2))
def xk2 (key : List Nat) : List (List Nat) := keysOf (flatOf (key.drop (key.length / 2))) (mOf (key.length / 2))
theorem keys_right {key : List Nat} (hk : ∀ x ∈ key, x < 256) {n : Nat} (hn : n = 16 ∨ n = 32) (hl : key.length = n) : ∃ m, Keys m (keysOf (flatOf key) (mOf n)) ∧ 1 ≤ m := by
  have hf := flatOf_ok hk (by rw [hl]; exact hn)
  have hm := mOf_in n
  exact ⟨_, keysOf_keys hf.2 (mOf n), by omega⟩

/-- New, whatever the key. -/
theorem new_some (a : Option Addr) (n cap : Nat) (key : List Nat) (w : World) (hk : BytesAt w a n cap key) (hle : n ≤ cap) (hmax : cap ≤ maxLen) :
    Calls Try.prog 12 #[.slice a n cap] w fun e w' => ∃ p, e = .returned (.tuple #[.pointer p, .int .i64 (if n = 16 ∨ n = 32 then 0 else 41)]) ∧ Mod No w w' ∧
      (n = 16 ∨ n = 32 → ∃ pb kb c cur, p = some ⟨pb, 0, none⟩ ∧ CipherAt w' pb kb c cur (keysOf (flatOf key) (mOf n))) ∧ (¬ (n = 16 ∨ n = 32) → p = none) := by
  by_cases hn : n = 16 ∨ n = 32
  · obtain ⟨b, off, rfl⟩ := cutA_some hk (by omega)
    refine (new_ok n b off cap hn key w hk hle hmax).mono ?_
    rintro e w' ⟨pb, kb, c, cur, rfl, hm, _, _, hc⟩
    exact ⟨_, by rw [if_pos hn], hm, fun _ => ⟨pb, kb, c, cur, rfl, hc⟩, fun h => absurd hn h⟩
  · refine (new_wrong a n cap w (by omega) (by omega)).mono ?_
    rintro e w' ⟨rfl, rfl⟩
    exact ⟨none, by rw [if_neg hn], Mod.refl _ _, fun h => absurd h hn, fun _ => rfl⟩

set_option maxRecDepth 100000 in
set_option maxHeartbeats 4000000 in
theorem xnew_any (a : Option Addr) (len cap : Nat) (key : List Nat) (w : World) (hk : BytesAt w a len cap key) (hle : len ≤ cap) (hmax : cap ≤ maxLen) :
    Calls Try.prog 21 #[.slice a len cap] w fun e w' => (XRight key → ∃ xb, e = .returned (.tuple #[.pointer (some ⟨xb, 0, none⟩), .int .i64 0]) ∧ Mod No w w' ∧ XC w' xb (xk1 key) (xk2 key)) ∧
      (¬ XRight key → e = .returned (.tuple #[.pointer none, .int .i64 51]) ∧ Mod No w w') := by
  have hks := hk.size
  obtain ⟨n, hn⟩ : ∃ n, n = len / 2 := ⟨_, rfl⟩
  have hn1 := Lib.hid hn
  have hq : ((len : Int) / 2) = (n : Int) := by omega
  have hlo := fun w => run_cut_h a len cap n w (by omega)
  have hhi := fun w => run_cut_l a len cap n w (by omega)
  have HT := Lib.hid (hk.take (n := n) (by omega))
  have HD := Lib.hid (hk.drop (n := n) hle (by omega))
  have hcn : n ≤ cap := by omega
  have hc9 : cap ≤ 9223372036854775807 := by unfold maxLen at hmax; omega
  have hl9 : len ≤ 9223372036854775807 := by omega
  have hn9 : n ≤ 9223372036854775807 := by omega
  clear hn
  go_enter Try.func21, Try.ntmps21
  go_wp2_with fail
  refine (new_some a n cap _ _ HT.out hcn hmax).mono ?_
  rintro e w1 ⟨p, rfl, hm1, hp1, hp2⟩
  have P1 := Lib.hid hp1
  have P2 := Lib.hid hp2
  have M1 := Lib.hid hm1
  clear hp1 hp2 hm1
  generalize hx : (if n = 16 ∨ n = 32 then (0 : Int) else 41) = x at *
  go_wp2_with fail
  refine (new_some (cutA a n cap) (len - n) (cap - n) _ _ (HD.out.later M1.out) (by omega) (by omega)).mono ?_
  rintro e w2 ⟨q, rfl, hm2, hq1, hq2⟩
  have Q1 := Lib.hid hq1
  have Q2 := Lib.hid hq2
  have M2 := Lib.hid (M1.out.then hm2)
  have M3 := Lib.hid hm2
  clear hq1 hq2 hm2
  generalize (if len - n = 16 ∨ len - n = 32 then (0 : Int) else 41) = y at *
  by_cases hn : n = 16 ∨ n = 32
  · rw [if_pos hn] at hx
    subst hx
    obtain ⟨pb, kb, c, cur, rfl, hc⟩ := P1.out hn
    have C1 := Lib.hid (hc.later M3.out (fun x => x) (fun x => x))
    clear P1 P2 hc
    by_cases hm : len - n = 16 ∨ len - n = 32
    · obtain ⟨pb2, kb2, c2, cur2, rfl, hc2⟩ := Q1.out hm
      have C2 := Lib.hid hc2
      have hln : len - n = n := by have := hn1.out; omega
      clear Q1 Q2 hc2
      have hE2 := Lib.hid (fun x : Later No w2 => equal_later a (cutA a n cap) n (len - n) cap (cap - n) _ _ (HT.out.later M2.out) (HD.out.later M2.out) x)
      rw [hln] at hE2
      have hlen : key.length = 32 ∨ key.length = 64 := by rw [hks]; omega
      have hn2 : key.length / 2 = n := by rw [hks]; exact hn1.out.symm
      have K1 := Lib.hid (keys_right HT.out.ok hn HT.out.size)
      have K2 := Lib.hid (keys_right HD.out.ok hm HD.out.size)
      by_cases heq : key.take n = key.drop n
      · rw [decide_eq_true heq] at hE2
        have hnr : ¬ XRight key := fun h => h.2 (by rw [hn2]; exact heq)
        go_wp2_with fail
        refine wp_region_laters (by kernel_rfl) (by kernel_rfl) ?_
        repeat (go_big_quiet_step (exact hE2.out _))
        refine wpQuiet_nil ?_
        intro y
        go_wp2_with fail
        refine bodyPost_ret (v := .tuple #[.pointer none, .int .i64 51]) (by simp [results, Try.results21, go_sem]) rfl ⟨fun h => absurd h hnr, fun _ => ⟨rfl, M2.out.then y.ok⟩⟩
      · rw [decide_eq_false heq] at hE2
        have hr : XRight key := ⟨hlen, by rw [hn2]; exact heq⟩
        go_wp2_with fail
        refine wp_region_laters (by kernel_rfl) (by kernel_rfl) ?_
        repeat (go_big_quiet_step (exact hE2.out _))
        refine wpQuiet_nil ?_
        intro y_
        go_wp2_with fail
        refine bodyPost_ret (v := .tuple #[.pointer (some ⟨y_.to.heap.size, 0, none⟩), .int .i64 0]) (by simp [results, Try.results21, go_sem]) rfl ⟨fun _ => ?_, fun h => absurd hr h⟩
        obtain ⟨m1, k1, g1⟩ := K1.out
        obtain ⟨m2, k2, g2⟩ := K2.out
        refine ⟨y_.to.heap.size, rfl, (M2.out.then y_.ok).alloc _, pb, kb, c, cur, pb2, kb2, c2, cur2, m1, m2, ⟨blk_new _ _, ?_, ?_⟩, ?_, ?_, g1, g2⟩
        · unfold xk1; rw [hn2]; exact C1.out.later ((y_.ok).alloc _) (fun x => x) (fun x => x)
        · have q2 := C2.out; rw [hln] at q2; unfold xk2; rw [hn2]; exact q2.later ((y_.ok).alloc _) (fun x => x) (fun x => x)
        · unfold xk1; rw [hn2]; exact k1
        · rw [hln] at k2; unfold xk2; rw [hn2]; exact k2
    · obtain rfl := Q2.out hm
      have hnr : ¬ XRight key := fun h => by have := h.1; rw [hks] at this; omega
      clear Q1 Q2
      go_wp2_with fail
      refine wp_region_laters (by kernel_rfl) (by kernel_rfl) ?_
      repeat (go_big_quiet_step (fail))
      refine wpQuiet_nil ?_
      intro y
      go_wp2_with fail
      refine bodyPost_ret (v := .tuple #[.pointer none, .int .i64 51]) (by simp [results, Try.results21, go_sem]) rfl ⟨fun h => absurd h hnr, fun _ => ⟨rfl, M2.out.then y.ok⟩⟩
  · rw [if_neg hn] at hx
    subst hx
    have hnr : ¬ XRight key := fun h => by have := h.1; rw [hks] at this; have := hn1.out; omega
    clear P1 P2 Q1 Q2
    go_wp2_with fail
    refine wp_region_laters (by kernel_rfl) (by kernel_rfl) ?_
    repeat (go_big_quiet_step (fail))
    refine wpQuiet_nil ?_
    intro y
    go_wp2_with fail
    refine bodyPost_ret (v := .tuple #[.pointer none, .int .i64 51]) (by simp [results, Try.results21, go_sem]) rfl ⟨fun h => absurd h hnr, fun _ => ⟨rfl, M2.out.then y.ok⟩⟩
end Go.Proofs.Ytkbkobekndfapaa
