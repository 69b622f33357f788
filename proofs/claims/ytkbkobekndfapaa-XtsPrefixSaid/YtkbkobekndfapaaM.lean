/- AES on lists of numbers: what each function of the program computes. -/
import Derived.Test.YtkbkobekndfapaaB
namespace Go.Proofs.Ytkbkobekndfapaa

/-- A loop that turns a state, round by round. -/
def foldUp {α : Type} (step : α → Nat → α) (s : α) (n : Nat) : α := (List.range n).foldl step s
theorem foldUp_zero {α : Type} (step : α → Nat → α) (s : α) : foldUp step s 0 = s := rfl
theorem foldUp_succ {α : Type} (step : α → Nat → α) (s : α) (n : Nat) : foldUp step s (n + 1) = step (foldUp step s n) n := by
  simp [foldUp, List.range_succ]
/-- n bytes. -/
def Bytes (n : Nat) (l : List Nat) : Prop := l.length = n ∧ ∀ x ∈ l, x < 256
theorem foldUp_inv {α : Type} {step : α → Nat → α} {I : α → Prop} {s : α} (h : I s) (hs : ∀ s i, I s → I (step s i)) (n : Nat) : I (foldUp step s n) := by
  induction n with
  | zero => exact h
  | succ n ih => rw [foldUp_succ]; exact hs _ _ ih
theorem Bytes.set {n : Nat} {l : List Nat} (h : Bytes n l) (i : Nat) {x : Nat} (hx : x < 256) : Bytes n (l.set i x) :=
  ⟨by rw [List.length_set]; exact h.1, fun y hy => by rcases List.mem_or_eq_of_mem_set hy with h' | h'; exact h.2 y h'; exact h' ▸ hx⟩
theorem Bytes.get {n : Nat} {l : List Nat} (h : Bytes n l) (i : Nat) : l.getD i 0 < 256 := getD_lt h.2 i

def dbl (a : Nat) : Nat := (a <<< 1) % 256 ^^^ (if a.testBit 7 then 27 else 0)
theorem dbl_lt (a : Nat) (_h : a < 256) : dbl a < 256 := xor_lt _ _ (Nat.mod_lt _ (by omega)) (by split <;> omega)
theorem dbl_byte : ∀ a, a < 256 → dbl a = (a * 2 % 256) ^^^ (a / 128 * 27) := by decide +kernel
theorem dbl_xor (a b : Nat) : dbl (a ^^^ b) = dbl a ^^^ dbl b := by
  unfold dbl
  rw [Nat.shiftLeft_xor_distrib, show 256 = 2 ^ 8 from rfl, Nat.xor_mod_two_pow, Nat.testBit_xor]
  have : ∀ p q : Bool, (if (p ^^ q) = true then 27 else 0) = (if p = true then 27 else 0) ^^^ (if q = true then 27 else 0) := by decide
  rw [this]
  ac_rfl

def sboxL : List Nat := [
  0x63, 0x7c, 0x77, 0x7b, 0xf2, 0x6b, 0x6f, 0xc5, 0x30, 0x01, 0x67, 0x2b, 0xfe, 0xd7, 0xab, 0x76,
  0xca, 0x82, 0xc9, 0x7d, 0xfa, 0x59, 0x47, 0xf0, 0xad, 0xd4, 0xa2, 0xaf, 0x9c, 0xa4, 0x72, 0xc0,
  0xb7, 0xfd, 0x93, 0x26, 0x36, 0x3f, 0xf7, 0xcc, 0x34, 0xa5, 0xe5, 0xf1, 0x71, 0xd8, 0x31, 0x15,
  0x04, 0xc7, 0x23, 0xc3, 0x18, 0x96, 0x05, 0x9a, 0x07, 0x12, 0x80, 0xe2, 0xeb, 0x27, 0xb2, 0x75,
  0x09, 0x83, 0x2c, 0x1a, 0x1b, 0x6e, 0x5a, 0xa0, 0x52, 0x3b, 0xd6, 0xb3, 0x29, 0xe3, 0x2f, 0x84,
  0x53, 0xd1, 0x00, 0xed, 0x20, 0xfc, 0xb1, 0x5b, 0x6a, 0xcb, 0xbe, 0x39, 0x4a, 0x4c, 0x58, 0xcf,
  0xd0, 0xef, 0xaa, 0xfb, 0x43, 0x4d, 0x33, 0x85, 0x45, 0xf9, 0x02, 0x7f, 0x50, 0x3c, 0x9f, 0xa8,
  0x51, 0xa3, 0x40, 0x8f, 0x92, 0x9d, 0x38, 0xf5, 0xbc, 0xb6, 0xda, 0x21, 0x10, 0xff, 0xf3, 0xd2,
  0xcd, 0x0c, 0x13, 0xec, 0x5f, 0x97, 0x44, 0x17, 0xc4, 0xa7, 0x7e, 0x3d, 0x64, 0x5d, 0x19, 0x73,
  0x60, 0x81, 0x4f, 0xdc, 0x22, 0x2a, 0x90, 0x88, 0x46, 0xee, 0xb8, 0x14, 0xde, 0x5e, 0x0b, 0xdb,
  0xe0, 0x32, 0x3a, 0x0a, 0x49, 0x06, 0x24, 0x5c, 0xc2, 0xd3, 0xac, 0x62, 0x91, 0x95, 0xe4, 0x79,
  0xe7, 0xc8, 0x37, 0x6d, 0x8d, 0xd5, 0x4e, 0xa9, 0x6c, 0x56, 0xf4, 0xea, 0x65, 0x7a, 0xae, 0x08,
  0xba, 0x78, 0x25, 0x2e, 0x1c, 0xa6, 0xb4, 0xc6, 0xe8, 0xdd, 0x74, 0x1f, 0x4b, 0xbd, 0x8b, 0x8a,
  0x70, 0x3e, 0xb5, 0x66, 0x48, 0x03, 0xf6, 0x0e, 0x61, 0x35, 0x57, 0xb9, 0x86, 0xc1, 0x1d, 0x9e,
  0xe1, 0xf8, 0x98, 0x11, 0x69, 0xd9, 0x8e, 0x94, 0x9b, 0x1e, 0x87, 0xe9, 0xce, 0x55, 0x28, 0xdf,
  0x8c, 0xa1, 0x89, 0x0d, 0xbf, 0xe6, 0x42, 0x68, 0x41, 0x99, 0x2d, 0x0f, 0xb0, 0x54, 0xbb, 0x16]
theorem sboxL_bytes : Bytes 256 sboxL := by unfold Bytes; decide +kernel
def sbox (x : Nat) : Nat := sboxL.getD x 0
theorem sbox_lt (x : Nat) : sbox x < 256 := sboxL_bytes.get x
/-- S's other way, as New fills it. -/
def isboxL : List Nat := foldUp (fun l x => l.set (sboxL.getD x 0) x) (List.replicate 256 0) 256
def isbox (x : Nat) : Nat := isboxL.getD x 0
theorem isboxL_bytes : Bytes 256 isboxL := by unfold Bytes; decide +kernel
theorem isbox_lt (x : Nat) : isbox x < 256 := isboxL_bytes.get x

/-- n noughts (not to be unfolded). -/
def noughts (n : Nat) : List Nat := List.replicate n 0
theorem noughts_bytes (n : Nat) : Bytes n (noughts n) := ⟨by simp [noughts], fun x hx => by simp [noughts] at hx; omega⟩

def xorStep (k : List Nat) (s : List Nat) (i : Nat) : List Nat := s.set i (s.getD i 0 ^^^ k.getD i 0)
def xorS (s k : List Nat) : List Nat := foldUp (xorStep k) s 16
theorem xorStep_bytes {n m : Nat} {k s : List Nat} (hk : Bytes m k) (hs : Bytes n s) (i : Nat) : Bytes n (xorStep k s i) := hs.set i (xor_lt _ _ (hs.get i) (hk.get i))
theorem xorS_bytes {n m : Nat} {k s : List Nat} (hk : Bytes m k) (hs : Bytes n s) : Bytes n (xorS s k) := foldUp_inv hs (fun _ i h => xorStep_bytes hk h i) 16

/-- mix: a column at o. -/
def mixStep (all o : Nat) (s : List Nat) (r : Nat) : List Nat := s.set (o + r) (s.getD (o + r) 0 ^^^ (all ^^^ dbl (s.getD (o + r) 0 ^^^ s.getD (o + (r + 1)) 0)))
def mixAll (s : List Nat) (o : Nat) : Nat := s.getD o 0 ^^^ s.getD (o + 1) 0 ^^^ s.getD (o + 2) 0 ^^^ s.getD (o + 3) 0
def mixAt (s : List Nat) (o : Nat) : List Nat :=
  let t := foldUp (mixStep (mixAll s o) o) s 3
  t.set (o + 3) (t.getD (o + 3) 0 ^^^ (mixAll s o ^^^ dbl (t.getD (o + 3) 0 ^^^ s.getD o 0)))
theorem mixAll_lt {n : Nat} {s : List Nat} (hs : Bytes n s) (o : Nat) : mixAll s o < 256 := xor_lt _ _ (xor_lt _ _ (xor_lt _ _ (hs.get _) (hs.get _)) (hs.get _)) (hs.get _)
theorem mixStep_bytes {n : Nat} {s : List Nat} {all : Nat} (ha : all < 256) (o : Nat) (hs : Bytes n s) (r : Nat) : Bytes n (mixStep all o s r) :=
  hs.set _ (xor_lt _ _ (hs.get _) (xor_lt _ _ ha (dbl_lt _ (xor_lt _ _ (hs.get _) (hs.get _)))))
theorem mixAt_bytes {n : Nat} {s : List Nat} (hs : Bytes n s) (o : Nat) : Bytes n (mixAt s o) := by
  have ha := mixAll_lt hs o
  have ht : Bytes n (foldUp (mixStep (mixAll s o) o) s 3) := foldUp_inv hs (fun _ i h => mixStep_bytes ha o h i) 3
  exact ht.set _ (xor_lt _ _ (ht.get _) (xor_lt _ _ ha (dbl_lt _ (xor_lt _ _ (ht.get _) (hs.get _)))))

def mixS (s : List Nat) : List Nat := foldUp (fun s c => mixAt s (4 * c)) s 4
theorem mixS_bytes {n : Nat} {s : List Nat} (hs : Bytes n s) : Bytes n (mixS s) := foldUp_inv hs (fun _ _ h => mixAt_bytes h _) 4
def subStep (t s : List Nat) (i : Nat) : List Nat := s.set i (sbox (t.getD ((i + 4 * (i % 4)) % 16) 0))
def subS (s : List Nat) : List Nat := foldUp (subStep s) s 16
theorem subStep_bytes {n : Nat} (t : List Nat) {s : List Nat} (hs : Bytes n s) (i : Nat) : Bytes n (subStep t s i) := hs.set _ (sbox_lt _)
theorem subS_bytes {n : Nat} {s : List Nat} (hs : Bytes n s) : Bytes n (subS s) := foldUp_inv hs (fun _ i h => subStep_bytes s h i) 16
def isubStep (t s : List Nat) (i : Nat) : List Nat := s.set ((i + 4 * (i % 4)) % 16) (isbox (t.getD i 0))
def isubS (s : List Nat) : List Nat := foldUp (isubStep s) s 16
theorem isubStep_bytes {n : Nat} (t : List Nat) {s : List Nat} (hs : Bytes n s) (i : Nat) : Bytes n (isubStep t s i) := hs.set _ (isbox_lt _)
theorem isubS_bytes {n : Nat} {s : List Nat} (hs : Bytes n s) : Bytes n (isubS s) := foldUp_inv hs (fun _ i h => isubStep_bytes s h i) 16

/-- A round of Encrypt, with the keys. -/
def encRound (ks : List (List Nat)) (s : List Nat) (j : Nat) : List Nat :=
  xorS (if j + 2 < ks.length then mixS (subS s) else subS s) (ks.getD (j + 1) [])
def enc (ks : List (List Nat)) (s : List Nat) : List Nat := foldUp (encRound ks) (xorS s (ks.getD 0 [])) (ks.length - 1)
def mix3 (s : List Nat) (o : Nat) : List Nat := foldUp (fun s _ => mixAt s o) s 3
def imixS (s : List Nat) : List Nat := foldUp (fun s c => mix3 s (4 * c)) s 4
/-- A round of Decrypt: with the key number ks.length - 1 - j. -/
def decRound (ks : List (List Nat)) (s : List Nat) (j : Nat) : List Nat :=
  let t := xorS s (ks.getD (ks.length - 1 - j) [])
  isubS (if 0 < j then imixS t else t)
def dec (ks : List (List Nat)) (s : List Nat) : List Nat := xorS (foldUp (decRound ks) s (ks.length - 1)) (ks.getD 0 [])
def Keys (n : Nat) (ks : List (List Nat)) : Prop := ks.length = n ∧ ∀ k ∈ ks, Bytes 16 k
theorem Keys.get {n : Nat} {ks : List (List Nat)} (h : Keys n ks) {i : Nat} (hi : i < n) : Bytes 16 (ks.getD i []) := by
  have hi' : i < ks.length := by rw [h.1]; exact hi
  simp [List.getD, hi']; exact h.2 _ (List.getElem_mem hi')
theorem encRound_bytes {n : Nat} {ks : List (List Nat)} (h : Keys n ks) {s : List Nat} (hs : Bytes 16 s) {j : Nat} (hj : j + 1 < n) : Bytes 16 (encRound ks s j) := by
  unfold encRound
  refine xorS_bytes (h.get hj) ?_
  split
  · exact mixS_bytes (subS_bytes hs)
  · exact subS_bytes hs
theorem mix3_bytes {n : Nat} {s : List Nat} (hs : Bytes n s) (o : Nat) : Bytes n (mix3 s o) := foldUp_inv hs (fun _ _ h => mixAt_bytes h _) 3
theorem imixS_bytes {n : Nat} {s : List Nat} (hs : Bytes n s) : Bytes n (imixS s) := foldUp_inv hs (fun _ _ h => mix3_bytes h _) 4
theorem decRound_bytes {n : Nat} {ks : List (List Nat)} (h : Keys n ks) {s : List Nat} (hs : Bytes 16 s) {j : Nat} (hj : j < n) : Bytes 16 (decRound ks s j) := by
  unfold decRound
  have ht : Bytes 16 (xorS s (ks.getD (ks.length - 1 - j) [])) := xorS_bytes (h.get (by have := h.1; omega)) hs
  refine isubS_bytes ?_
  split
  · exact imixS_bytes ht
  · exact ht
theorem sbox_eq (x : Nat) : sbox x = sboxL.getD x 0 := rfl
theorem isbox_eq (x : Nat) : isbox x = isboxL.getD x 0 := rfl
theorem subStep_eq (t s : List Nat) (i : Nat) : subStep t s i = s.set i (sbox (t.getD ((i + 4 * (i % 4)) % 16) 0)) := rfl
theorem isubStep_eq (t s : List Nat) (i : Nat) : isubStep t s i = s.set ((i + 4 * (i % 4)) % 16) (isbox (t.getD i 0)) := rfl
def backStep (l : List Nat) (x : Nat) : List Nat := l.set (sboxL.getD x 0) x
theorem back_all : foldUp backStep (noughts 256) 256 = isboxL := rfl
theorem sboxL_get_lt (x : Nat) : sboxL.getD x 0 < 256 := sboxL_bytes.get x
theorem xorS_eq (s k : List Nat) : xorS s k = foldUp (xorStep k) s 16 := rfl
theorem subS_eq (s : List Nat) : subS s = foldUp (subStep s) s 16 := rfl
theorem isubS_eq (s : List Nat) : isubS s = foldUp (isubStep s) s 16 := rfl
theorem mixS_eq (s : List Nat) : mixS s = foldUp (fun s c => mixAt s (4 * c)) s 4 := rfl
theorem imixS_eq (s : List Nat) : imixS s = foldUp (fun s c => mix3 s (4 * c)) s 4 := rfl
theorem mix3_eq (s : List Nat) (o : Nat) : mix3 s o = foldUp (fun s _ => mixAt s o) s 3 := rfl
theorem mixAt_eq (s : List Nat) (o : Nat) : mixAt s o = (foldUp (mixStep (mixAll s o) o) s 3).set (o + 3) ((foldUp (mixStep (mixAll s o) o) s 3).getD (o + 3) 0 ^^^ (mixAll s o ^^^ dbl ((foldUp (mixStep (mixAll s o) o) s 3).getD (o + 3) 0 ^^^ s.getD o 0))) := rfl
theorem enc_eq (ks : List (List Nat)) (s : List Nat) : enc ks s = foldUp (encRound ks) (xorS s (ks.getD 0 [])) (ks.length - 1) := rfl
theorem encRound_eq (ks : List (List Nat)) (s : List Nat) (j : Nat) : encRound ks s j = xorS (if j + 2 < ks.length then mixS (subS s) else subS s) (ks.getD (j + 1) []) := rfl
theorem dec_eq (ks : List (List Nat)) (s : List Nat) : dec ks s = xorS (foldUp (decRound ks) s (ks.length - 1)) (ks.getD 0 []) := rfl
theorem decRound_eq (ks : List (List Nat)) (s : List Nat) (j : Nat) : decRound ks s j =
    isubS (if 0 < j then imixS (xorS s (ks.getD (ks.length - 1 - j) [])) else xorS s (ks.getD (ks.length - 1 - j) [])) := rfl
attribute [irreducible] foldUp noughts sboxL isboxL sbox isbox xorS subS isubS mixS imixS mix3 mixAt enc encRound dec decRound
end Go.Proofs.Ytkbkobekndfapaa
