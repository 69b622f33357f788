/- There and back: dec of enc is the block, and enc of dec. -/
import Derived.Test.YtkbkobekndfapaaP
namespace Go.Proofs.Ytkbkobekndfapaa

theorem bytes16 {a0 a1 a2 a3 a4 a5 a6 a7 a8 a9 a10 a11 a12 a13 a14 a15 : Nat} (h : Bytes 16 [a0, a1, a2, a3, a4, a5, a6, a7, a8, a9, a10, a11, a12, a13, a14, a15]) :
    a0 < 256 ∧ a1 < 256 ∧ a2 < 256 ∧ a3 < 256 ∧ a4 < 256 ∧ a5 < 256 ∧ a6 < 256 ∧ a7 < 256 ∧ a8 < 256 ∧ a9 < 256 ∧ a10 < 256 ∧ a11 < 256 ∧ a12 < 256 ∧ a13 < 256 ∧ a14 < 256 ∧ a15 < 256 := by
  have hb := h.2
  simp only [List.mem_cons, List.not_mem_nil, or_false, forall_eq_or_imp, forall_eq] at hb
  exact hb
theorem xorS_lit (a0 a1 a2 a3 a4 a5 a6 a7 a8 a9 a10 a11 a12 a13 a14 a15 b0 b1 b2 b3 b4 b5 b6 b7 b8 b9 b10 b11 b12 b13 b14 b15 : Nat) :
    xorS [a0, a1, a2, a3, a4, a5, a6, a7, a8, a9, a10, a11, a12, a13, a14, a15] [b0, b1, b2, b3, b4, b5, b6, b7, b8, b9, b10, b11, b12, b13, b14, b15] =
    [a0 ^^^ b0, a1 ^^^ b1, a2 ^^^ b2, a3 ^^^ b3, a4 ^^^ b4, a5 ^^^ b5, a6 ^^^ b6, a7 ^^^ b7, a8 ^^^ b8, a9 ^^^ b9, a10 ^^^ b10, a11 ^^^ b11, a12 ^^^ b12, a13 ^^^ b13, a14 ^^^ b14, a15 ^^^ b15] := by kernel_rfl
theorem xc (a b : Nat) : a ^^^ b ^^^ b = a := by rw [Nat.xor_assoc, Nat.xor_self, Nat.xor_zero]
theorem xorS_twice {s k : List Nat} (hs : s.length = 16) (hk : k.length = 16) : xorS (xorS s k) k = s := by
  obtain ⟨a0, a1, a2, a3, a4, a5, a6, a7, a8, a9, a10, a11, a12, a13, a14, a15, rfl⟩ := list16 hs
  obtain ⟨b0, b1, b2, b3, b4, b5, b6, b7, b8, b9, b10, b11, b12, b13, b14, b15, rfl⟩ := list16 hk
  rw [xorS_lit, xorS_lit]
  simp only [xc]
theorem isub_sub_lit (a0 a1 a2 a3 a4 a5 a6 a7 a8 a9 a10 a11 a12 a13 a14 a15 : Nat) :
    isubS (subS [a0, a1, a2, a3, a4, a5, a6, a7, a8, a9, a10, a11, a12, a13, a14, a15]) =
    [isbox (sbox a0), isbox (sbox a1), isbox (sbox a2), isbox (sbox a3), isbox (sbox a4), isbox (sbox a5), isbox (sbox a6), isbox (sbox a7), isbox (sbox a8), isbox (sbox a9), isbox (sbox a10), isbox (sbox a11), isbox (sbox a12), isbox (sbox a13), isbox (sbox a14), isbox (sbox a15)] := by kernel_rfl
theorem sub_isub_lit (a0 a1 a2 a3 a4 a5 a6 a7 a8 a9 a10 a11 a12 a13 a14 a15 : Nat) :
    subS (isubS [a0, a1, a2, a3, a4, a5, a6, a7, a8, a9, a10, a11, a12, a13, a14, a15]) =
    [sbox (isbox a0), sbox (isbox a1), sbox (isbox a2), sbox (isbox a3), sbox (isbox a4), sbox (isbox a5), sbox (isbox a6), sbox (isbox a7), sbox (isbox a8), sbox (isbox a9), sbox (isbox a10), sbox (isbox a11), sbox (isbox a12), sbox (isbox a13), sbox (isbox a14), sbox (isbox a15)] := by kernel_rfl
theorem isub_sub {s : List Nat} (hs : Bytes 16 s) : isubS (subS s) = s := by
  have hs' := hs
  obtain ⟨a0, a1, a2, a3, a4, a5, a6, a7, a8, a9, a10, a11, a12, a13, a14, a15, rfl⟩ := list16 hs.1
  obtain ⟨h0, h1, h2, h3, h4, h5, h6, h7, h8, h9, h10, h11, h12, h13, h14, h15⟩ := bytes16 hs'
  rw [isub_sub_lit, box_back _ h0, box_back _ h1, box_back _ h2, box_back _ h3, box_back _ h4, box_back _ h5, box_back _ h6, box_back _ h7, box_back _ h8, box_back _ h9, box_back _ h10, box_back _ h11, box_back _ h12, box_back _ h13, box_back _ h14, box_back _ h15]
theorem sub_isub {s : List Nat} (hs : Bytes 16 s) : subS (isubS s) = s := by
  have hs' := hs
  obtain ⟨a0, a1, a2, a3, a4, a5, a6, a7, a8, a9, a10, a11, a12, a13, a14, a15, rfl⟩ := list16 hs.1
  obtain ⟨h0, h1, h2, h3, h4, h5, h6, h7, h8, h9, h10, h11, h12, h13, h14, h15⟩ := bytes16 hs'
  rw [sub_isub_lit, back_box _ h0, back_box _ h1, back_box _ h2, back_box _ h3, back_box _ h4, back_box _ h5, back_box _ h6, back_box _ h7, back_box _ h8, back_box _ h9, back_box _ h10, back_box _ h11, back_box _ h12, back_box _ h13, back_box _ h14, back_box _ h15]
theorem imix_mix {s : List Nat} (hs : Bytes 16 s) : imixS (mixS s) = s := by
  rw [imixS_three (mixS_bytes hs).1, mixS_four hs.1]
theorem mix_imix {s : List Nat} (hs : Bytes 16 s) : mixS (imixS s) = s := by
  rw [imixS_three hs.1, mixS_four hs.1]

theorem enc_step {n : Nat} {ks : List (List Nat)} (h : Keys n ks) {s : List Nat} (hs : Bytes 16 s) {j i : Nat} (hj : i + j + 2 = n) : decRound ks (encRound ks s j) i = s := by
  have hk := h.get (i := j + 1) (by omega)
  have hlen := h.1
  rw [decRound_eq, encRound_eq, show ks.length - 1 - i = j + 1 from by omega]
  have hsub := subS_bytes hs
  by_cases hi : 0 < i
  · rw [if_pos hi, if_pos (by omega), xorS_twice (mixS_bytes hsub).1 hk.1, imix_mix hsub, isub_sub hs]
  · rw [if_neg hi, if_neg (by omega), xorS_twice hsub.1 hk.1, isub_sub hs]
theorem dec_step {n : Nat} {ks : List (List Nat)} (h : Keys n ks) {s : List Nat} (hs : Bytes 16 s) {j i : Nat} (hj : i + j + 2 = n) : encRound ks (decRound ks s i) j = s := by
  have hk := h.get (i := j + 1) (by omega)
  have hlen := h.1
  rw [encRound_eq, decRound_eq, show ks.length - 1 - i = j + 1 from by omega]
  have hx := xorS_bytes hk hs
  by_cases hi : 0 < i
  · rw [if_pos hi, if_pos (by omega), sub_isub (imixS_bytes hx), mix_imix hx, xorS_twice hs.1 hk.1]
  · rw [if_neg hi, if_neg (by omega), sub_isub hx, xorS_twice hs.1 hk.1]
theorem encSt_bytes {n : Nat} {ks : List (List Nat)} (h : Keys n ks) {s : List Nat} (hs : Bytes 16 s) : ∀ j, j + 1 ≤ n → Bytes 16 (foldUp (encRound ks) s j)
  | 0, _ => by rw [foldUp_zero]; exact hs
  | j + 1, hj => by rw [foldUp_succ]; exact encRound_bytes h (encSt_bytes h hs j (by omega)) (by omega)
theorem decSt_bytes {n : Nat} {ks : List (List Nat)} (h : Keys n ks) {s : List Nat} (hs : Bytes 16 s) : ∀ j, j + 1 ≤ n → Bytes 16 (foldUp (decRound ks) s j)
  | 0, _ => by rw [foldUp_zero]; exact hs
  | j + 1, hj => by rw [foldUp_succ]; exact decRound_bytes h (decSt_bytes h hs j (by omega)) (by omega)
theorem enc_bytes {n : Nat} {ks : List (List Nat)} (h : Keys n ks) (hn : 1 ≤ n) {s : List Nat} (hs : Bytes 16 s) : Bytes 16 (enc ks s) := by
  have hlen := h.1
  rw [enc_eq]; exact encSt_bytes h (xorS_bytes (h.get (by omega)) hs) _ (by omega)
theorem dec_bytes {n : Nat} {ks : List (List Nat)} (h : Keys n ks) (hn : 1 ≤ n) {s : List Nat} (hs : Bytes 16 s) : Bytes 16 (dec ks s) := by
  have hlen := h.1
  rw [dec_eq]; exact xorS_bytes (h.get (by omega)) (decSt_bytes h hs _ (by omega))
theorem dec_enc {n : Nat} {ks : List (List Nat)} (h : Keys n ks) (hn : 1 ≤ n) {s : List Nat} (hs : Bytes 16 s) : dec ks (enc ks s) = s := by
  have hlen := h.1
  have hk := h.get (i := 0) (by omega)
  have hs0 := xorS_bytes hk hs
  have key : ∀ i, i + 1 ≤ n → foldUp (decRound ks) (enc ks s) i = foldUp (encRound ks) (xorS s (ks.getD 0 [])) (n - 1 - i) := by
    intro i
    induction i with
    | zero => intro _; rw [foldUp_zero, enc_eq, hlen]; rfl
    | succ i ih =>
      intro hi
      rw [foldUp_succ, ih (by omega), show n - 1 - i = (n - 1 - (i + 1)) + 1 from by omega, foldUp_succ]
      exact enc_step h (encSt_bytes h hs0 _ (by omega)) (by omega)
  rw [dec_eq, hlen, key (n - 1) (by omega), show n - 1 - (n - 1) = 0 from by omega, foldUp_zero, xorS_twice hs.1 hk.1]
theorem enc_dec {n : Nat} {ks : List (List Nat)} (h : Keys n ks) (hn : 1 ≤ n) {s : List Nat} (hs : Bytes 16 s) : enc ks (dec ks s) = s := by
  have hlen := h.1
  have hk := h.get (i := 0) (by omega)
  have key : ∀ j, j + 1 ≤ n → foldUp (encRound ks) (xorS (dec ks s) (ks.getD 0 [])) j = foldUp (decRound ks) s (n - 1 - j) := by
    intro j
    induction j with
    | zero => intro _; rw [foldUp_zero, dec_eq, hlen, xorS_twice (decSt_bytes h hs _ (by omega)).1 hk.1]; rfl
    | succ j ih =>
      intro hj
      rw [foldUp_succ, ih (by omega), show n - 1 - j = (n - 1 - (j + 1)) + 1 from by omega, foldUp_succ]
      exact dec_step h (decSt_bytes h hs _ (by omega)) (by omega)
  rw [enc_eq, hlen, key (n - 1) (by omega), show n - 1 - (n - 1) = 0 from by omega, foldUp_zero]
end Go.Proofs.Ytkbkobekndfapaa
