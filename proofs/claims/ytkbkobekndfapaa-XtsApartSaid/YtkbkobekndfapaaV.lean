/- A cipher in memory. -/
import Derived.Test.YtkbkobekndfapaaM
namespace Go.Proofs.Ytkbkobekndfapaa
open Go.RowKit

/-- A cipher in memory: its block, the block of its keys, the keys. -/
structure CipherAt (w : World) (pb kb cap : Nat) (cur : Array Value) (ks : List (List Nat)) : Prop where
  cell : w.heap[pb]? = some (.cells (#[.slice (some ⟨kb, 0, none⟩) ks.length cap] ++ bA isboxL) 59 (0, 0))
  keys : w.heap[kb]? = some (.cells cur 23 (0, 0))
  key : ∀ i j, i < ks.length → j < 16 → cur[16 * i + j]? = some (.int .u8 (((ks.getD i []).getD j 0 : Nat) : Int))
  le : ks.length ≤ cap
  two : 2 ≤ ks.length
  few : cap ≤ maxLen
  ok : ∀ k ∈ ks, Bytes 16 k
theorem CipherAt.later {w w' : World} {pb kb cap : Nat} {cur : Array Value} {ks : List (List Nat)} (h : CipherAt w pb kb cap cur ks) {S : Nat → Prop} (hm : Mod S w w') (h1 : ¬ S pb) (h2 : ¬ S kb) : CipherAt w' pb kb cap cur ks :=
  ⟨hm.blk h.cell h1, hm.blk h.keys h2, h.key, h.le, h.two, h.few, h.ok⟩
theorem CipherAt.slice {w : World} {pb kb cap : Nat} {cur : Array Value} {ks : List (List Nat)} (h : CipherAt w pb kb cap cur ks) : w.cell? ⟨pb, 0, none⟩ = some (.slice (some ⟨kb, 0, none⟩) ks.length cap) :=
  blk_cell h.cell (by rw [Array.getElem?_append_left (by simp)]; rfl)
theorem CipherAt.get {w : World} {pb kb cap : Nat} {cur : Array Value} {ks : List (List Nat)} (h : CipherAt w pb kb cap cur ks) {i : Nat} (hi : i < ks.length) : Bytes 16 (ks.getD i []) := by
  simp [List.getD, hi]; exact h.ok _ (List.getElem_mem hi)
theorem CipherAt.row {w : World} {pb kb cap : Nat} {cur : Array Value} {ks : List (List Nat)} (h : CipherAt w pb kb cap cur ks) {i : Nat} (hi : i < ks.length) :
    ∀ j v, (bA (ks.getD i []))[j]? = some v → cur[16 * i + j]? = some v := by
  intro j v hv
  have hj : j < 16 := by
    have := (Array.getElem?_eq_some_iff.1 hv).1
    rw [bA_size, (h.get hi).1] at this; exact this
  rw [h.key i j hi hj, ← hv, bA_get (by rw [(h.get hi).1]; exact hj)]

theorem CipherAt.backAt {w : World} {pb kb cap : Nat} {cur : Array Value} {ks : List (List Nat)} (h : CipherAt w pb kb cap cur ks) {x : Nat} (hx : x < 256) : w.cell? ⟨pb, 1 + x, none⟩ = some (.int .u8 ((isbox x : Nat) : Int)) :=
  blk_cell h.cell (by
    rw [Array.getElem?_append_right (by simp)]
    simp only [List.size_toArray, List.length_cons, List.length_nil, Nat.zero_add, Nat.add_sub_cancel_left]
    rw [bA_get (by rw [isboxL_bytes.1]; exact hx), isbox_eq])

end Go.Proofs.Ytkbkobekndfapaa
