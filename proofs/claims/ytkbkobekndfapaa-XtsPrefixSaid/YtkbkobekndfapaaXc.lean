/- bytes.Clone and bytes.Equal; a block copied into a row. -/
import Derived.Test.YtkbkobekndfapaaXb
import Derived.Test.YtkbkobekndfapaaI9
import Derived.Laws.CopyOwn
namespace Go.Proofs.Ytkbkobekndfapaa
open Go.RowKit

theorem equal_any (a a' : Option Addr) (n n' c c' : Nat) (l m : List Nat) (w : World) (h : BytesAt w a n c l) (h' : BytesAt w a' n' c' m) :
    Calls Try.prog 37 #[.slice a n c, .slice a' n' c'] w fun e w' => e = .returned (.bool (decide (l = m))) ∧ w = w' := by
  have e1 := h.str
  have e2 := h'.str
  have e3 := strN_eq h.ok h'.ok
  clear h h'
  generalize strN l = s at *
  generalize strN m = t at *
  go_enter Try.func37, Try.ntmps37
  go_wp2
  go_ret
  exact ⟨rfl, rfl⟩

theorem own_flat {w : World} {base g n cap : Nat} {l : List Nat} (h : w.ownsRow base 5 1 (.slice (some ⟨g, 0, none⟩) n cap) n (bL l)) (hl : ∀ x ∈ l, x < 256) : ∃ cur, FlatAt w g cur l := by
  obtain ⟨cur, h1, h2⟩ := World.ownsRow.form h
  have hn : l.length = n := by have := h.1; rw [bL_len] at this; omega
  exact ⟨cur, h1, fun j hj => h2 j (by omega), hl⟩

theorem clone_any (a : Option Addr) (len cap : Nat) (l : List Nat) (w : World) (hk : BytesAt w a len cap l) (h0 : 0 < len) (hlen : len ≤ 140737488351232) :
    Calls Try.prog 42 #[.slice a len cap] w fun e w' => ∃ g c cur, e = .returned (.slice (some ⟨g, 0, none⟩) len c) ∧ Mod No w w' ∧ w.heap.size ≤ g ∧ g < w'.heap.size ∧ len ≤ c ∧ c ≤ maxLen ∧ FlatAt w' g cur l := by
  obtain ⟨b, off, rfl, _⟩ : ∃ b off, a = some ⟨b, off, none⟩ ∧ True := by
    rcases hk.cell with h1 | ⟨b, off, h, _⟩
    · omega
    · exact ⟨b, off, h, trivial⟩
  have A1 := Lib.hid ((Mod.refl No w).alloc (.cells #[] 5))
  have A2 := Lib.hid (show (w.alloc (.cells #[] 5)).ownsRow w.heap.size 5 1 (.slice (some ⟨w.heap.size, 0, none⟩) 0 0) 0 [] from ⟨rfl, .inr ⟨w.heap.size, 0, #[], rfl, Nat.le_refl _, blk_new _ _, Nat.le_refl _, Nat.zero_le _, rfl, rfl⟩⟩)
  have A3 := Lib.hid (hk.later A1.out)
  have A4 : w.heap.size ≤ (w.alloc (.cells #[] 5)).heap.size := by simp
  have hok := hk.ok
  have heq : ∀ w, (binOp .eql 22 (.slice (some ⟨b, off, none⟩) len cap) (.slice none 0 0)).run Try.prog w = .ok (.bool false) w := fun _ => by kernel_rfl
  clear hk
  go_enter Try.func42, Try.ntmps42
  go_wp2_with (refine append_bytes rfl (.tmp 5) (.tmp 6) rfl w.heap.size (.slice (some ⟨w.heap.size, 0, none⟩) 0 0) 0 [] rfl A2.out (some ⟨b, off, none⟩) len cap l rfl A3.out (fun h => absurd h (by simp)) (by omega) A4 ?_; refine hold ?_)
  unfold Hold
  intro v1 w1 o1 m1
  have B1 := Lib.hid (show Mod No w w1 from A1.out.trans m1 (fun i hi h => absurd (show w.heap.size = i by injection h) (by omega)))
  have o2 : w1.ownsRow w.heap.size 5 1 v1 len (bL l) := by simpa using o1
  obtain ⟨g, cp, rfl, hg, hgl, hcp, hcp2⟩ := own_slice o2 h0
  obtain ⟨cur, hfl⟩ := own_flat o2 hok
  have F := Lib.hid hfl
  clear A1 A2 A3 A4 o1 o2 m1 hfl
  go_wp2_with fail
  go_ret
  exact ⟨g, cp, cur, rfl, B1.out, hg, hgl, hcp, hcp2, F.out⟩

theorem FlatAt.put {w : World} {g at_ : Nat} {cur : Array Value} {l x : List Nat} (h : FlatAt w g cur l) (hl : at_ + 16 ≤ l.length) (hx : Bytes 16 x) :
    FlatAt (w.setRow g (cur.toList.take at_ ++ (bL x ++ cur.toList.drop (at_ + (bL x).length))).toArray) g (cur.toList.take at_ ++ (bL x ++ cur.toList.drop (at_ + (bL x).length))).toArray (putAt l at_ x) :=
  ⟨blk_setRow h.cell, fun j hj => by
    have hsz : l.length ≤ cur.size := by
      have := h.get (l.length - 1) (by omega)
      have := (Array.getElem?_eq_some_iff.1 this).1
      omega
    rw [putAt_len _ _ _ hl hx.1] at hj
    rw [putAt_get _ _ _ hl hx.1]
    have hxl : (bL x).length = 16 := by rw [bL_len, hx.1]
    rw [List.getElem?_toArray, hxl]
    by_cases h1 : j < at_
    · rw [if_neg (by omega), List.getElem?_append_left (by simp; omega), List.getElem?_take, if_pos h1, Array.getElem?_toList]
      exact h.get j hj
    · have hm : (cur.toList.take at_).length = at_ := by simp; omega
      by_cases h2 : j < at_ + 16
      · rw [if_pos (by omega), List.getElem?_append_right (by omega), hm, List.getElem?_append_left (by omega)]
        simp [bL, bv, List.getD, hx.1, show j - at_ < 16 by omega]
      · rw [if_neg (by omega), List.getElem?_append_right (by omega), hm, List.getElem?_append_right (by omega), List.getElem?_drop, hxl, show at_ + 16 + (j - at_ - 16) = j by omega, Array.getElem?_toList]
        exact h.get j hj, putAt_lt h.ok hx.2⟩

/-- The sector's bytes. -/
def secStep (s : Nat) (t : List Nat) (i : Nat) : List Nat := t.set i (s / 2 ^ (8 * i) % 256)
def secB (s : Nat) : List Nat := foldUp (secStep s) (noughts 16) 8
theorem secStep_bytes {n : Nat} (s : Nat) {t : List Nat} (h : Bytes n t) (i : Nat) : Bytes n (secStep s t i) := h.set _ (Nat.mod_lt _ (by omega))
theorem secB_bytes (s : Nat) : Bytes 16 (secB s) := foldUp_inv (noughts_bytes 16) (fun _ i h => secStep_bytes s h i) 8
theorem secB_def (s : Nat) : secB s = foldUp (secStep s) (noughts 16) 8 := rfl
theorem secStep_def (s : Nat) (t : List Nat) (i : Nat) : secStep s t i = t.set i (s / 2 ^ (8 * i) % 256) := rfl
attribute [irreducible] secStep secB
end Go.Proofs.Ytkbkobekndfapaa
