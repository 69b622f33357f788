/- What came in: a Spot. -/
import Derived.Test.YtkbkobekndfapaaXp
namespace Go.Proofs.Ytkbkobekndfapaa
open Go.ChangeShapes Go.WideShapes Go.ChangeAt Go.RowKit

theorem open_spot {H : Type} {enc : TypeId × Value → H} {w : World} {base b0 : Nat} {spare : Nat → Bool} {held : Bool} {r : Reach} {v : Value} {d : DataW H} {ps : List MemPlace}
    (hval : Value.okWide Try.prog w r b0 50 v) (hd : DataW.Trod enc Try.prog w base spare held 50 v d ps) :
    ∃ (s : Nat) (at_ : Int) (l : List Nat), v = .agg (#[.int .u64 (s : Int), .int .i64 at_] ++ bA l) ∧ s < 18446744073709551616 ∧ -9223372036854775808 ≤ at_ ∧ at_ ≤ 9223372036854775807 ∧ Bytes 16 l := by
  obtain ⟨cs, rfl, hcs, _⟩ : ∃ cs, v = .agg cs ∧ cs.size = Try.prog.cellsOf 50 ∧ Row.okWide Try.prog w r b0 50 cs := by
    simpa only [Value.okWide, Try.underlying50] using hval
  have hsz : cs.size = 18 := by rw [hcs]; kernel_rfl
  obtain ⟨fuel, hf⟩ := hd
  obtain ⟨xs, n, _, _, hl, hlen, hat⟩ := DataW.trod_struct Try.underlying50 hf
  simp only [Value.cells] at hat
  have h0 := hat 0 { name := "Sector", type := 38, offset := 0, embedded := false, tag := "", pkgPath := "", byteOffset := 0 } rfl
  have h1 := hat 1 { name := "At", type := 3, offset := 1, embedded := false, tag := "", pkgPath := "", byteOffset := 8 } rfl
  have h2 := hat 2 { name := "By", type := 23, offset := 2, embedded := false, tag := "", pkgPath := "", byteOffset := 16 } rfl
  have k0 : Try.prog.cellsOf 38 = 1 := by kernel_rfl
  have k1 : Try.prog.cellsOf 3 = 1 := by kernel_rfl
  have k2 : Try.prog.cellsOf 23 = 16 := by kernel_rfl
  have hx : xs.length = 3 := hlen
  dsimp only at h0 h1 h2
  rw [k0] at h0
  rw [k1] at h1
  rw [k2] at h2
  rw [List.getElem?_eq_getElem (by omega)] at h0 h1 h2
  obtain ⟨z0, e0, _, w0⟩ := DataW.trod_int Try.underlying38 h0
  obtain ⟨z1, e1, _, w1⟩ := DataW.trod_int Try.underlying3 h1
  obtain ⟨ys, m, _, _, _, hyl, hys⟩ := DataW.trod_array Try.underlying23 h2
  have k5 : Try.prog.cellsOf 5 = 1 := by kernel_rfl
  have hc : cs.toList.length = 18 := by simpa using hsz
  have hone : ∀ (j : Nat) (v : Value), j < 18 → (cs.toList.drop j).take 1 = [v] → cs[j]? = some v := by
    intro j v hj h
    rw [List.drop_eq_getElem_cons (by omega)] at h
    simp only [List.take_succ_cons, List.take_zero, List.cons.injEq, and_true] at h
    rw [Array.getElem?_eq_getElem (by omega), ← h, Array.getElem_toList]
  have hcell : ∀ i, i < 16 → ∃ x : Nat, cs[2 + i]? = some (.int .u8 (x : Int)) ∧ x < 256 := by
    intro i hi
    have h := hys i hi
    rw [k5, Nat.mul_one] at h
    rw [List.getElem?_eq_getElem (by omega)] at h
    obtain ⟨z, hz, _, hw⟩ := DataW.trod_int Try.underlying5 h
    have hb : 0 ≤ z ∧ z < 256 := by
      simp [Lit.wf, IntKind.min, IntKind.max, IntKind.signed, IntKind.bits] at hw; omega
    refine ⟨z.toNat, ?_, by omega⟩
    rw [show ((z.toNat : Nat) : Int) = z by omega]
    refine hone (2 + i) _ (by omega) ?_
    rw [← hz, List.drop_take, List.drop_drop, List.take_take]
    congr 1
    omega
  obtain ⟨s, hs, hs2⟩ : ∃ s : Nat, z0 = (s : Int) ∧ s < 18446744073709551616 := by
    simp [Lit.wf, IntKind.min, IntKind.max, IntKind.signed, IntKind.bits] at w0
    exact ⟨z0.toNat, by omega, by omega⟩
  have hz1 : -9223372036854775808 ≤ z1 ∧ z1 ≤ 9223372036854775807 := by
    simp [Lit.wf, IntKind.min, IntKind.max, IntKind.signed, IntKind.bits] at w1; omega
  have g0 := hone 0 _ (by omega) e0
  have g1 := hone 1 _ (by omega) e1
  subst hs
  refine ⟨s, z1, (cs.toList.drop 2).map (fun v => match v with | .int _ z => z.toNat | _ => 0), ?_, hs2, hz1.1, hz1.2, by simp; omega, ?_⟩
  · congr 1
    apply Array.ext
    · rw [Array.size_append, bA_size]; simp; omega
    · intro i q1 q2
      have q3 : cs[i]? = (#[.int .u64 (s : Int), .int .i64 z1] ++ bA ((cs.toList.drop 2).map (fun v => match v with | .int _ z => z.toNat | _ => 0)))[i]? := by
        match i, q1 with
        | 0, _ => rw [g0, Array.getElem?_append_left (by simp)]; rfl
        | 1, _ => rw [g1, Array.getElem?_append_left (by simp)]; rfl
        | i + 2, q1 =>
          obtain ⟨x, hx, _⟩ := hcell i (by omega)
          rw [show i + 2 = 2 + i by omega, hx, Array.getElem?_append_right (by simp)]
          simp only [List.size_toArray, List.length_cons, List.length_nil, Nat.zero_add, Nat.add_sub_cancel_left]
          rw [bA_get (by simp; omega)]
          have hx' : cs[2 + i]'(by omega) = .int .u8 (x : Int) := by
            rw [Array.getElem?_eq_getElem (by omega)] at hx; simpa using hx
          simp [List.getD, hx]
      rw [Array.getElem?_eq_getElem q1, Array.getElem?_eq_getElem q2] at q3
      exact Option.some.inj q3
  · intro y hy
    simp only [List.mem_map] at hy
    obtain ⟨v, hv, rfl⟩ := hy
    obtain ⟨i, hi, rfl⟩ := List.getElem_of_mem hv
    obtain ⟨x, hx, hlt⟩ := hcell i (by simp at hi; omega)
    have hx' : cs[2 + i]'(by simp at hi; omega) = .int .u8 (x : Int) := by
      rw [Array.getElem?_eq_getElem (by simp at hi; omega)] at hx; simpa using hx
    simp [hx', hlt]
end Go.Proofs.Ytkbkobekndfapaa
