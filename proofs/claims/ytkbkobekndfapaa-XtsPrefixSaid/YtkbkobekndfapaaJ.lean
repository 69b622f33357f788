/- New with a key that lies in a block of 32 bytes; equal answers of the cipher. -/
import Derived.Test.YtkbkobekndfapaaK4
import Derived.Test.YtkbkobekndfapaaK8
import Derived.Test.YtkbkobekndfapaaH
import Derived.Test.YtkbkobekndfapaaO
namespace Go.Proofs.Ytkbkobekndfapaa
open Go.RowKit

theorem run_take34 (b : Nat) (w : World) : (Instr.sliceAt 34 (.pointer (some ⟨b, 0, none⟩)) none (some (.int .i64 16)) none).run Try.prog w = .ok (.slice (some ⟨b, 0, none⟩) 16 32) w := by kernel_rfl
theorem run_take34' (b : Nat) (w : World) : (Instr.sliceAt 34 (.pointer (some ⟨b, 0, none⟩)) none (some (.int .i64 32)) none).run Try.prog w = .ok (.slice (some ⟨b, 0, none⟩) 32 32) w := by kernel_rfl
theorem run_all34 (b : Nat) (w : World) : (Instr.sliceAt 34 (.pointer (some ⟨b, 0, none⟩)) none none none).run Try.prog w = .ok (.slice (some ⟨b, 0, none⟩) 32 32) w := by kernel_rfl

theorem add_zero (b j : Nat) : (⟨b, 0, none⟩ : Addr).add j = ⟨b, j, none⟩ := by unfold Addr.add; split <;> simp_all
/-- New takes any key of 16 or 32 bytes. -/
theorem new_of (n b : Nat) (l : List Nat) (w : World) (hn : n = 16 ∨ n = 32) (hl : Bytes 32 l) (hb : w.heap[b]? = some (.cells (bA l) 34 (0, 0))) :
    Calls Try.prog 12 #[.slice (some ⟨b, 0, none⟩) n 32] w fun e w' => ∃ pb kb c cur ks m, e = .returned (.tuple #[.pointer (some ⟨pb, 0, none⟩), .int .i64 0]) ∧ Mod No w w' ∧
      CipherAt w' pb kb c cur ks ∧ Keys m ks ∧ 1 ≤ m := by
  have h32 : (32 : Nat) ≤ maxLen := by unfold maxLen; omega
  rcases hn with rfl | rfl
  · have ht : Bytes 16 (l.take 16) := ⟨by simp [hl.1], fun x hx => hl.2 x (List.mem_of_mem_take hx)⟩
    refine (new_4 ⟨b, 0, none⟩ 32 (l.take 16) w ht (by omega) h32 ?_).mono ?_
    · intro j hj
      rw [add_zero, byte_cell hb (by rw [hl.1]; omega)]
      simp [List.getD, hj]
    · rintro e w' ⟨pb, kb, c, cur, rfl, hm, _, _, hc⟩
      exact ⟨pb, kb, c, cur, _, _, rfl, hm, hc, keysOf_keys (expand_bytes (N := 4) ht).2 11, by omega⟩
  · refine (new_8 ⟨b, 0, none⟩ 32 l w hl (by omega) h32 ?_).mono ?_
    · intro j hj
      rw [add_zero, byte_cell hb (by rw [hl.1]; omega)]
    · rintro e w' ⟨pb, kb, c, cur, rfl, hm, _, _, hc⟩
      exact ⟨pb, kb, c, cur, _, _, rfl, hm, hc, keysOf_keys (expand_bytes (N := 8) hl).2 15, by omega⟩
theorem enc_same {n : Nat} {ks : List (List Nat)} (h : Keys n ks) (hn : 1 ≤ n) {a b : List Nat} (ha : Bytes 16 a) (hb : Bytes 16 b) : decide (enc ks a = enc ks b) = decide (a = b) := by
  rw [decide_eq_decide]
  exact ⟨fun e => by rw [← dec_enc h hn ha, e, dec_enc h hn hb], fun e => by rw [e]⟩
theorem dec_same {n : Nat} {ks : List (List Nat)} (h : Keys n ks) (hn : 1 ≤ n) {a b : List Nat} (ha : Bytes 16 a) (hb : Bytes 16 b) : decide (dec ks a = dec ks b) = decide (a = b) := by
  rw [decide_eq_decide]
  exact ⟨fun e => by rw [← enc_dec h hn ha, e, enc_dec h hn hb], fun e => by rw [e]⟩
theorem alive_later {w0 : World} (x : Later No w0) : Calls Try.prog 15 #[] x.to fun e w' => e = .returned (.bool true) ∧ ∃ y : Later No w0, w' = y.to :=
  (alive_any x.to).mono fun _ _ ⟨he, hm⟩ => ⟨he, ⟨_, x.ok.then hm⟩, rfl⟩
end Go.Proofs.Ytkbkobekndfapaa
