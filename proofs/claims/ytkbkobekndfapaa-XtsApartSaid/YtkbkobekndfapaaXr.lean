/- Arrays behind a guard; unlike blocks, sealed. -/
import Derived.Test.YtkbkobekndfapaaXq
namespace Go.Proofs.Ytkbkobekndfapaa
open Go.RowKit

theorem run_neq16 (a b : List Nat) (ha : a.length = 16) (hb : b.length = 16) (w : World) : (binOp .neq 23 (.agg (bA a)) (.agg (bA b))).run Try.prog w = .ok (.bool (decide (a ≠ b))) w := by
  have h := run_eq16 a b ha hb w
  rw [run_eql_struct] at h
  rw [run_neq_struct]
  cases hq : (Op.equalIn 10000 23 (.agg (bA a)) (.agg (bA b))).run Try.prog w with
  | ok v w' =>
    rw [hq] at h
    simp only [Result.andThen, Result.ok.injEq, Value.bool.injEq] at h ⊢
    exact ⟨by rw [h.1]; simp, h.2⟩
  | _ => rw [hq] at h; simp [Result.andThen] at h
section
variable {ops : Array Oper} {rest : List Oper} {o : Oper} {a : Act} {w : World} {Q : Exit → Act → World → Prop}
theorem load16go (hw : Region.wanted o (yielded ops a.tmps) = true) (x : Operand) (ho : o.op = .load 23 x) (g off : Nat) (hx : a.eval x = .pointer (some ⟨g, off, none⟩))
    (t : TypeId) (cs : Array Value) (bs : List Nat) (h16 : bs.length = 16) (hg : w.heap[g]? = some (.cells cs t (0, 0))) (hb : ∀ j v, (bA bs)[j]? = some v → cs[off + j]? = some v)
    (h : wpList Try.prog ops Q rest (a.put o.dst (.agg (bA bs))) w) : wpList Try.prog ops Q (o :: rest) a w :=
  wpList_step fun K hK => by
    rw [if_pos hw]
    unfold Oper.wp execOp
    simp only [ho, hx, Instr.loadAt, Instr.sureAddr, Sem.run_bind, Sem.run_pure, Result.andThen_ok, run_loadVar_at w g off t 23 cs (bA bs) (0, 0) _ hg Try.underlying23 rfl (by rw [bA_size, h16]; kernel_rfl) hb]
    exact hK _ _ h
theorem lit16g (hw : Region.wanted o (yielded ops a.tmps) = true) (t : TypeId) (parts : Array (Nat × Operand)) (ho : o.op = .build t parts) (cells : Array Value)
    (hf : Try.prog.built t (parts.map fun (i, x) => (i, a.eval x)).toList = some cells)
    (h : wpList Try.prog ops Q rest (a.put o.dst (.agg cells)) w) : wpList Try.prog ops Q (o :: rest) a w :=
  wpList_step fun K hK => by
    rw [if_pos hw]
    exact wp_build t parts ho (by rw [hf]; rfl) (by rw [hf]; exact hK _ _ h)
end
theorem spot_by {s : Nat} {z : Int} {l : List Nat} : ∀ j v, (bA l)[j]? = some v → (#[Value.int .u64 (s : Int), .int .i64 z] ++ bA l)[2 + j]? = some v := by
  intro j v hv
  rw [Array.getElem?_append_right (by simp)]
  simpa using hv
theorem BytesAt.block {w : World} {g c len : Nat} {r : List Nat} (h : BytesAt w (some ⟨g, 0, none⟩) len c r) {i : Nat} (hi : 16 * i + 16 ≤ len) : BytesAt w (some ⟨g, 16 * i, none⟩) 16 (c - 16 * i) (flatKey r i) :=
  ⟨flatKey_len _ _, (flatKey_bytes h.ok i).2, .inr ⟨g, 16 * i, rfl, fun j hj => by
    rw [flatKey_get _ _ _ hj]
    rcases h.cell with h0 | ⟨b, off, e, hc⟩
    · omega
    · have e' : (⟨g, 0, none⟩ : Addr) = ⟨b, off, none⟩ := by injection e
      injection e' with e1 e2
      have := hc (16 * i + j) (by omega)
      rw [← e1, ← e2, Nat.zero_add] at this
      exact this⟩⟩
theorem oneB_inj {f g : List Nat → List Nat} {t x y : List Nat} (ht : Bytes 16 t) (hx : Bytes 16 x) (hy : Bytes 16 y) (hf : ∀ y, Bytes 16 y → Bytes 16 (f y)) (h : ∀ y, Bytes 16 y → g (f y) = y) (e : oneB f t x = oneB f t y) : x = y := by
  rw [← oneB_back (f := f) (g := g) ht hx hf h, e, oneB_back ht hy hf h]
theorem noughts_get : ∀ j, j < 16 → (noughts 16).getD j 0 = 0 := by decide +kernel
theorem xorS_self_iff {x b : List Nat} (hx : Bytes 16 x) (hb : Bytes 16 b) : xorS x b = x ↔ b = noughts 16 := by
  constructor
  · intro e
    apply list_ext16 hb.1 (noughts_bytes 16).1
    intro j hj
    have h := xorS_get x b hx.1 j hj
    rw [e] at h
    have h2 : b.getD j 0 = 0 := by
      have h1 := congrArg (fun z => x.getD j 0 ^^^ z) h
      simp only [Nat.xor_self, ← Nat.xor_assoc, Nat.zero_xor] at h1
      exact h1.symm
    rw [h2, noughts_get j hj]
  · intro e
    subst e
    apply list_ext16 (xorS_len _ _ hx.1) hx.1
    intro j hj
    rw [xorS_get _ _ hx.1 _ hj, noughts_get j hj, Nat.xor_zero]
/-- Blocks that were made unlike at one place alone. -/
theorem apart_blocks {f g : List Nat → List Nat} {t0 one two ra rb by_ : List Nat} {m n : Nat} (ht : Bytes 16 t0) (hone : Bytes (16 * n) one) (hm : m < n) (hb : Bytes 16 by_) (h2 : two = xorAt one (16 * m) by_)
    (ha : Sealed f t0 one ra) (hb2 : Sealed f t0 two rb) (hf : ∀ y, Bytes 16 y → Bytes 16 (f y)) (hg : ∀ y, Bytes 16 y → g (f y) = y) (i : Nat) (hi : i < n) :
    flatKey ra i = flatKey rb i ↔ ¬ (i = m ∧ by_ ≠ noughts 16) := by
  have hl2 : two.length = 16 * n := by rw [h2, xorAt_len _ _ _ (by rw [hone.1]; omega), hone.1]
  rw [ha.block i (by rw [hone.1]; omega), hb2.block i (by rw [hl2]; omega)]
  by_cases e : i = m
  · subst e
    have hx := flatKey_bytes hone.2 i
    rw [h2, flatKey_xor _ _ _ (by rw [hone.1]; omega)]
    constructor
    · intro h hc
      have := oneB_inj (g := g) (twk_bytes ht i) hx (xorS_bytes hb hx) hf hg h
      exact hc.2 ((xorS_self_iff hx hb).1 this.symm)
    · intro h
      have : by_ = noughts 16 := by
        by_cases hq : by_ = noughts 16
        · exact hq
        · exact absurd ⟨rfl, hq⟩ h
      rw [(xorS_self_iff hx hb).2 this]
  · rw [h2, flatKey_xor_other _ _ _ _ (by rw [hone.1]; omega) e]
    exact ⟨fun _ h => e h.1, fun _ => rfl⟩
end Go.Proofs.Ytkbkobekndfapaa
