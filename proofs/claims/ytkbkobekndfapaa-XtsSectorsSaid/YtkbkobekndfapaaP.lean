/- The document's rounds are the program's: rows turned, columns mixed, both ways. -/
import Derived.Test.YtkbkobekndfapaaN
namespace Go.Proofs.Ytkbkobekndfapaa

def subRow (s : List Nat) (r : Nat) (t : List Nat) (c : Nat) : List Nat := t.set (r + 4 * c) (sbox (s.getD (r + 4 * ((c + r) % 4)) 0))
def subR (s : List Nat) : List Nat := foldUp (fun t r => foldUp (subRow s r) t 4) (noughts 16) 4
def isubRow (s : List Nat) (r : Nat) (t : List Nat) (c : Nat) : List Nat := t.set (r + 4 * ((c + r) % 4)) (isbox (s.getD (r + 4 * c) 0))
def isubR (s : List Nat) : List Nat := foldUp (fun t r => foldUp (isubRow s r) t 4) (noughts 16) 4
def mixCell (s f : List Nat) (c r : Nat) (t : List Nat) (k : Nat) : List Nat := t.set (r + 4 * c) (t.getD (r + 4 * c) 0 ^^^ mulN (f.getD ((k + 4 - r) % 4) 0) (s.getD (k + 4 * c) 0))
def mixCol (s f : List Nat) (c : Nat) (t : List Nat) (r : Nat) : List Nat := foldUp (mixCell s f c r) t 4
def mixR (s f : List Nat) : List Nat := foldUp (fun t c => foldUp (mixCol s f c) t 4) (noughts 16) 4

theorem list16 {s : List Nat} (h : s.length = 16) : ∃ a0 a1 a2 a3 a4 a5 a6 a7 a8 a9 a10 a11 a12 a13 a14 a15, s = [a0, a1, a2, a3, a4, a5, a6, a7, a8, a9, a10, a11, a12, a13, a14, a15] := by
  match s, h with
  | [a0, a1, a2, a3, a4, a5, a6, a7, a8, a9, a10, a11, a12, a13, a14, a15], _ => exact ⟨a0, a1, a2, a3, a4, a5, a6, a7, a8, a9, a10, a11, a12, a13, a14, a15, rfl⟩

section

theorem subR_eq {s : List Nat} (h : Bytes 16 s) : subR s = subS s := by
  obtain ⟨a0, a1, a2, a3, a4, a5, a6, a7, a8, a9, a10, a11, a12, a13, a14, a15, rfl⟩ := list16 h.1
  kernel_rfl
theorem isubR_eq {s : List Nat} (h : Bytes 16 s) : isubR s = isubS s := by
  obtain ⟨a0, a1, a2, a3, a4, a5, a6, a7, a8, a9, a10, a11, a12, a13, a14, a15, rfl⟩ := list16 h.1
  kernel_rfl
/-- A column, mixed. -/
def col (a b c d : Nat) : Nat := a ^^^ ((a ^^^ b ^^^ c ^^^ d) ^^^ dbl (a ^^^ b))
theorem mixS_lit (a0 a1 a2 a3 a4 a5 a6 a7 a8 a9 a10 a11 a12 a13 a14 a15 : Nat) :
    mixS [a0, a1, a2, a3, a4, a5, a6, a7, a8, a9, a10, a11, a12, a13, a14, a15] =
    [a0 ^^^ ((a0 ^^^ a1 ^^^ a2 ^^^ a3) ^^^ dbl (a0 ^^^ a1)), a1 ^^^ ((a0 ^^^ a1 ^^^ a2 ^^^ a3) ^^^ dbl (a1 ^^^ a2)), a2 ^^^ ((a0 ^^^ a1 ^^^ a2 ^^^ a3) ^^^ dbl (a2 ^^^ a3)), a3 ^^^ ((a0 ^^^ a1 ^^^ a2 ^^^ a3) ^^^ dbl (a3 ^^^ a0)),
     a4 ^^^ ((a4 ^^^ a5 ^^^ a6 ^^^ a7) ^^^ dbl (a4 ^^^ a5)), a5 ^^^ ((a4 ^^^ a5 ^^^ a6 ^^^ a7) ^^^ dbl (a5 ^^^ a6)), a6 ^^^ ((a4 ^^^ a5 ^^^ a6 ^^^ a7) ^^^ dbl (a6 ^^^ a7)), a7 ^^^ ((a4 ^^^ a5 ^^^ a6 ^^^ a7) ^^^ dbl (a7 ^^^ a4)),
     a8 ^^^ ((a8 ^^^ a9 ^^^ a10 ^^^ a11) ^^^ dbl (a8 ^^^ a9)), a9 ^^^ ((a8 ^^^ a9 ^^^ a10 ^^^ a11) ^^^ dbl (a9 ^^^ a10)), a10 ^^^ ((a8 ^^^ a9 ^^^ a10 ^^^ a11) ^^^ dbl (a10 ^^^ a11)), a11 ^^^ ((a8 ^^^ a9 ^^^ a10 ^^^ a11) ^^^ dbl (a11 ^^^ a8)),
     a12 ^^^ ((a12 ^^^ a13 ^^^ a14 ^^^ a15) ^^^ dbl (a12 ^^^ a13)), a13 ^^^ ((a12 ^^^ a13 ^^^ a14 ^^^ a15) ^^^ dbl (a13 ^^^ a14)), a14 ^^^ ((a12 ^^^ a13 ^^^ a14 ^^^ a15) ^^^ dbl (a14 ^^^ a15)), a15 ^^^ ((a12 ^^^ a13 ^^^ a14 ^^^ a15) ^^^ dbl (a15 ^^^ a12))] := by kernel_rfl
theorem mixR_lit (f0 f1 f2 f3 a0 a1 a2 a3 a4 a5 a6 a7 a8 a9 a10 a11 a12 a13 a14 a15 : Nat) :
    mixR [a0, a1, a2, a3, a4, a5, a6, a7, a8, a9, a10, a11, a12, a13, a14, a15] [f0, f1, f2, f3] =
    [0 ^^^ mulN f0 a0 ^^^ mulN f1 a1 ^^^ mulN f2 a2 ^^^ mulN f3 a3, 0 ^^^ mulN f3 a0 ^^^ mulN f0 a1 ^^^ mulN f1 a2 ^^^ mulN f2 a3, 0 ^^^ mulN f2 a0 ^^^ mulN f3 a1 ^^^ mulN f0 a2 ^^^ mulN f1 a3, 0 ^^^ mulN f1 a0 ^^^ mulN f2 a1 ^^^ mulN f3 a2 ^^^ mulN f0 a3,
     0 ^^^ mulN f0 a4 ^^^ mulN f1 a5 ^^^ mulN f2 a6 ^^^ mulN f3 a7, 0 ^^^ mulN f3 a4 ^^^ mulN f0 a5 ^^^ mulN f1 a6 ^^^ mulN f2 a7, 0 ^^^ mulN f2 a4 ^^^ mulN f3 a5 ^^^ mulN f0 a6 ^^^ mulN f1 a7, 0 ^^^ mulN f1 a4 ^^^ mulN f2 a5 ^^^ mulN f3 a6 ^^^ mulN f0 a7,
     0 ^^^ mulN f0 a8 ^^^ mulN f1 a9 ^^^ mulN f2 a10 ^^^ mulN f3 a11, 0 ^^^ mulN f3 a8 ^^^ mulN f0 a9 ^^^ mulN f1 a10 ^^^ mulN f2 a11, 0 ^^^ mulN f2 a8 ^^^ mulN f3 a9 ^^^ mulN f0 a10 ^^^ mulN f1 a11, 0 ^^^ mulN f1 a8 ^^^ mulN f2 a9 ^^^ mulN f3 a10 ^^^ mulN f0 a11,
     0 ^^^ mulN f0 a12 ^^^ mulN f1 a13 ^^^ mulN f2 a14 ^^^ mulN f3 a15, 0 ^^^ mulN f3 a12 ^^^ mulN f0 a13 ^^^ mulN f1 a14 ^^^ mulN f2 a15, 0 ^^^ mulN f2 a12 ^^^ mulN f3 a13 ^^^ mulN f0 a14 ^^^ mulN f1 a15, 0 ^^^ mulN f1 a12 ^^^ mulN f2 a13 ^^^ mulN f3 a14 ^^^ mulN f0 a15] := by kernel_rfl
theorem imixS_three {s : List Nat} (h : s.length = 16) : imixS s = mixS (mixS (mixS s)) := by
  obtain ⟨a0, a1, a2, a3, a4, a5, a6, a7, a8, a9, a10, a11, a12, a13, a14, a15, rfl⟩ := list16 h
  kernel_rfl
theorem xlc (a b c : Nat) : a ^^^ (b ^^^ c) = b ^^^ (a ^^^ c) := by rw [← Nat.xor_assoc, Nat.xor_comm a b, Nat.xor_assoc]
theorem xcancel (a b : Nat) : a ^^^ (a ^^^ b) = b := by rw [← Nat.xor_assoc, Nat.xor_self, Nat.zero_xor]
theorem mixS_def {s : List Nat} (h : Bytes 16 s) : mixR s [2, 3, 1, 1] = mixS s := by
  have hb := h.2
  obtain ⟨a0, a1, a2, a3, a4, a5, a6, a7, a8, a9, a10, a11, a12, a13, a14, a15, rfl⟩ := list16 h.1
  simp only [List.mem_cons, List.not_mem_nil, or_false, forall_eq_or_imp, forall_eq] at hb
  obtain ⟨h0, h1, h2, h3, h4, h5, h6, h7, h8, h9, h10, h11, h12, h13, h14, h15⟩ := hb
  rw [mixR_lit, mixS_lit]
  simp only [mul_1 _ h0, mul_1 _ h1, mul_1 _ h2, mul_1 _ h3, mul_1 _ h4, mul_1 _ h5, mul_1 _ h6, mul_1 _ h7, mul_1 _ h8, mul_1 _ h9, mul_1 _ h10, mul_1 _ h11, mul_1 _ h12, mul_1 _ h13, mul_1 _ h14, mul_1 _ h15,
    mul_2 _ h0, mul_2 _ h1, mul_2 _ h2, mul_2 _ h3, mul_2 _ h4, mul_2 _ h5, mul_2 _ h6, mul_2 _ h7, mul_2 _ h8, mul_2 _ h9, mul_2 _ h10, mul_2 _ h11, mul_2 _ h12, mul_2 _ h13, mul_2 _ h14, mul_2 _ h15,
    mul_3 _ h0, mul_3 _ h1, mul_3 _ h2, mul_3 _ h3, mul_3 _ h4, mul_3 _ h5, mul_3 _ h6, mul_3 _ h7, mul_3 _ h8, mul_3 _ h9, mul_3 _ h10, mul_3 _ h11, mul_3 _ h12, mul_3 _ h13, mul_3 _ h14, mul_3 _ h15,
    dbl_xor, Nat.zero_xor]
  simp only [List.cons.injEq, and_true]
  refine ⟨?_, ?_, ?_, ?_, ?_, ?_, ?_, ?_, ?_, ?_, ?_, ?_, ?_, ?_, ?_, ?_⟩ <;> simp only [Nat.xor_assoc, Nat.xor_comm, xlc, xcancel]
/-- Mixed twice: five times itself, four times the one across. -/
theorem mixS_two (a0 a1 a2 a3 a4 a5 a6 a7 a8 a9 a10 a11 a12 a13 a14 a15 : Nat) :
    mixS (mixS [a0, a1, a2, a3, a4, a5, a6, a7, a8, a9, a10, a11, a12, a13, a14, a15]) =
    [a0 ^^^ (dbl (dbl a0) ^^^ dbl (dbl a2)), a1 ^^^ (dbl (dbl a1) ^^^ dbl (dbl a3)), a2 ^^^ (dbl (dbl a2) ^^^ dbl (dbl a0)), a3 ^^^ (dbl (dbl a3) ^^^ dbl (dbl a1)),
     a4 ^^^ (dbl (dbl a4) ^^^ dbl (dbl a6)), a5 ^^^ (dbl (dbl a5) ^^^ dbl (dbl a7)), a6 ^^^ (dbl (dbl a6) ^^^ dbl (dbl a4)), a7 ^^^ (dbl (dbl a7) ^^^ dbl (dbl a5)),
     a8 ^^^ (dbl (dbl a8) ^^^ dbl (dbl a10)), a9 ^^^ (dbl (dbl a9) ^^^ dbl (dbl a11)), a10 ^^^ (dbl (dbl a10) ^^^ dbl (dbl a8)), a11 ^^^ (dbl (dbl a11) ^^^ dbl (dbl a9)),
     a12 ^^^ (dbl (dbl a12) ^^^ dbl (dbl a14)), a13 ^^^ (dbl (dbl a13) ^^^ dbl (dbl a15)), a14 ^^^ (dbl (dbl a14) ^^^ dbl (dbl a12)), a15 ^^^ (dbl (dbl a15) ^^^ dbl (dbl a13))] := by
  rw [mixS_lit, mixS_lit]
  simp only [dbl_xor, List.cons.injEq, and_true]
  refine ⟨?_, ?_, ?_, ?_, ?_, ?_, ?_, ?_, ?_, ?_, ?_, ?_, ?_, ?_, ?_, ?_⟩ <;> simp only [Nat.xor_assoc, Nat.xor_comm, xlc, xcancel, Nat.xor_self, Nat.xor_zero, Nat.zero_xor]
theorem mixS_four {s : List Nat} (h : s.length = 16) : mixS (mixS (mixS (mixS s))) = s := by
  obtain ⟨a0, a1, a2, a3, a4, a5, a6, a7, a8, a9, a10, a11, a12, a13, a14, a15, rfl⟩ := list16 h
  rw [mixS_two, mixS_two]
  simp only [dbl_xor, List.cons.injEq, and_true]
  refine ⟨?_, ?_, ?_, ?_, ?_, ?_, ?_, ?_, ?_, ?_, ?_, ?_, ?_, ?_, ?_, ?_⟩ <;> simp only [Nat.xor_comm, xlc, Nat.xor_self, Nat.xor_zero, Nat.zero_xor]
set_option maxHeartbeats 2000000 in
theorem imixS_def {s : List Nat} (h : Bytes 16 s) : mixR s [14, 11, 13, 9] = imixS s := by
  have hb := h.2
  rw [imixS_three h.1]
  obtain ⟨a0, a1, a2, a3, a4, a5, a6, a7, a8, a9, a10, a11, a12, a13, a14, a15, rfl⟩ := list16 h.1
  simp only [List.mem_cons, List.not_mem_nil, or_false, forall_eq_or_imp, forall_eq] at hb
  obtain ⟨h0, h1, h2, h3, h4, h5, h6, h7, h8, h9, h10, h11, h12, h13, h14, h15⟩ := hb
  rw [mixR_lit, mixS_two, mixS_lit]
  simp only [mul_14 _ h0, mul_14 _ h1, mul_14 _ h2, mul_14 _ h3, mul_14 _ h4, mul_14 _ h5, mul_14 _ h6, mul_14 _ h7, mul_14 _ h8, mul_14 _ h9, mul_14 _ h10, mul_14 _ h11, mul_14 _ h12, mul_14 _ h13, mul_14 _ h14, mul_14 _ h15,
    mul_11 _ h0, mul_11 _ h1, mul_11 _ h2, mul_11 _ h3, mul_11 _ h4, mul_11 _ h5, mul_11 _ h6, mul_11 _ h7, mul_11 _ h8, mul_11 _ h9, mul_11 _ h10, mul_11 _ h11, mul_11 _ h12, mul_11 _ h13, mul_11 _ h14, mul_11 _ h15,
    mul_13 _ h0, mul_13 _ h1, mul_13 _ h2, mul_13 _ h3, mul_13 _ h4, mul_13 _ h5, mul_13 _ h6, mul_13 _ h7, mul_13 _ h8, mul_13 _ h9, mul_13 _ h10, mul_13 _ h11, mul_13 _ h12, mul_13 _ h13, mul_13 _ h14, mul_13 _ h15,
    mul_9 _ h0, mul_9 _ h1, mul_9 _ h2, mul_9 _ h3, mul_9 _ h4, mul_9 _ h5, mul_9 _ h6, mul_9 _ h7, mul_9 _ h8, mul_9 _ h9, mul_9 _ h10, mul_9 _ h11, mul_9 _ h12, mul_9 _ h13, mul_9 _ h14, mul_9 _ h15,
    dbl_xor, Nat.zero_xor]
  simp only [List.cons.injEq, and_true]
  refine ⟨?_, ?_, ?_, ?_, ?_, ?_, ?_, ?_, ?_, ?_, ?_, ?_, ?_, ?_, ?_, ?_⟩ <;> simp only [Nat.xor_assoc, Nat.xor_comm, xlc, xcancel, Nat.xor_self, Nat.xor_zero]
end
end Go.Proofs.Ytkbkobekndfapaa
