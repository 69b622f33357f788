/- Small laws on memory: blocks as wholes, what a call may have changed, lists of bytes as cells. -/
import Derived.WalkKit
import Derived.WalkSpells
import Derived.WalkLawsBesides
import Derived.Lib.Hide
namespace Go.Proofs.YtmijbomfekopjaaGreatDoor
open Go.RowKit

structure Mod (S : Nat → Prop) (w w' : World) : Prop where
  os : w'.os = w.os
  tape : w'.tape = w.tape
  output : w'.output = w.output
  size : w.heap.size ≤ w'.heap.size
  block : ∀ k, k < w.heap.size → ¬ S k → w'.heap[k]? = w.heap[k]?

def No : Nat → Prop := fun _ => False
def Just (b : Nat) : Nat → Prop := fun k => k = b

theorem Mod.refl (S : Nat → Prop) (w : World) : Mod S w w := ⟨rfl, rfl, rfl, Nat.le_refl _, fun _ _ _ => rfl⟩
theorem Mod.trans {S T : Nat → Prop} {a b c : World} (h : Mod S a b) (k : Mod T b c) (hs : ∀ i, i < a.heap.size → T i → S i) : Mod S a c :=
  ⟨k.os.trans h.os, k.tape.trans h.tape, k.output.trans h.output, Nat.le_trans h.size k.size,
   fun i hi hn => (k.block i (Nat.lt_of_lt_of_le hi h.size) (fun ht => hn (hs i hi ht))).trans (h.block i hi hn)⟩
theorem Mod.mono {S T : Nat → Prop} {a b : World} (h : Mod S a b) (hs : ∀ i, i < a.heap.size → S i → T i) : Mod T a b :=
  ⟨h.os, h.tape, h.output, h.size, fun i hi hn => h.block i hi (fun k => hn (hs i hi k))⟩
theorem Mod.alloc {S : Nat → Prop} {a w : World} (h : Mod S a w) (o : Obj) : Mod S a (w.alloc o) :=
  ⟨h.os, h.tape, h.output, Nat.le_trans h.size (by simp), fun k hk hn => (Below.heap_alloc w o k (Nat.lt_of_lt_of_le hk h.size)).trans (h.block k hk hn)⟩
theorem Mod.setCell {S : Nat → Prop} {a w : World} (h : Mod S a w) {p : Addr} (hp : p.block < a.heap.size → S p.block) (v : Value) : Mod S a (w.setCell p v) :=
  ⟨h.os, h.tape, h.output, Nat.le_trans h.size (by simp [World.setCell]), fun k hk hn => (Below.heap_setCell w p v k (fun e => hn (by subst e; exact hp hk))).trans (h.block k hk hn)⟩
theorem Mod.drew {S : Nat → Prop} {a w : World} (h : Mod S a w) : Mod S a w.drew := ⟨h.os, h.tape, h.output, h.size, h.block⟩
theorem Mod.drewN {S : Nat → Prop} {a w : World} (h : Mod S a w) (n : Nat) : Mod S a (w.drewN n) := ⟨h.os, h.tape, h.output, h.size, h.block⟩
theorem Mod.grown {S : Nat → Prop} {a w w' : World} {row : Option Nat} (h : Mod S a w) (hg : w.grownBy w' row) (hr : ∀ k, row = some k → k < a.heap.size → S k) : Mod S a w' :=
  ⟨hg.os.trans h.os, hg.tape.trans h.tape, hg.output.trans h.output, Nat.le_trans h.size hg.size,
   fun k hk hn => (hg.block k (Nat.lt_of_lt_of_le hk h.size) (fun e => hn (hr k e.symm hk))).trans (h.block k hk hn)⟩
theorem Mod.setRow {S : Nat → Prop} {a w : World} (h : Mod S a w) (g : Nat) (cs : Array Value) (hp : g < a.heap.size → S g) : Mod S a (w.setRow g cs) :=
  ⟨h.os, h.tape, h.output, Nat.le_trans h.size (by simp), fun k hk hn => (setRow_other w g k cs (fun e => hn (by subst e; exact hp hk))).trans (h.block k hk hn)⟩
theorem Mod.below {w w' : World} (h : Mod No w w') : Below w.heap.size w w' := ⟨h.os, h.tape, h.output, h.size, fun k hk => h.block k hk (fun x => x)⟩
theorem Mod.of_below {w w' : World} (h : Below w.heap.size w w') : Mod No w w' := ⟨h.os, h.tape, h.output, h.size, fun k hk _ => h.block k hk⟩
theorem Mod.blk {S : Nat → Prop} {w w' : World} (h : Mod S w w') {b : Nat} {o : Obj} (hb : w.heap[b]? = some o) (hn : ¬ S b) : w'.heap[b]? = some o :=
  (h.block b (Array.getElem?_eq_some_iff.1 hb).1 hn).trans hb
theorem Mod.no {S : Nat → Prop} {w w' : World} (h : Mod S w w') (hs : ∀ k, k < w.heap.size → ¬ S k) : Mod No w w' := h.mono fun i hi k => (hs i hi k).elim

theorem Mod.fresh {S : Nat → Prop} {a b c : World} {x : Nat} (h : Mod S a b) (k : Mod (Just x) b c) (hx : a.heap.size ≤ x) : Mod S a c :=
  h.trans k (fun i hi (hj : i = x) => absurd hi (by omega))
theorem Mod.then {S : Nat → Prop} {a b c : World} (h : Mod S a b) (k : Mod No b c) : Mod S a c := h.trans k (fun _ _ hj => hj.elim)
theorem not_just {x k : Nat} (h : k ≠ x) : ¬ Just x k := h
/-- The walk stands still here. -/
def Hold (p : Prop) : Prop := p
theorem hold {p : Prop} (h : Hold p) : p := h
theorem blk_lt {w : World} {b : Nat} {o : Obj} (h : w.heap[b]? = some o) : b < w.heap.size := (Array.getElem?_eq_some_iff.1 h).1
theorem blk_old {w : World} {b : Nat} {o o' : Obj} (h : w.heap[b]? = some o) : (w.alloc o').heap[b]? = some o := by
  rw [Below.heap_alloc _ _ _ (blk_lt h)]; exact h
theorem blk_new (w : World) (o : Obj) : (w.alloc o).heap[w.heap.size]? = some o := heap_alloc_new w o
theorem blk_set {w : World} {g i : Nat} {cs : Array Value} {t : TypeId} (v : Value) (hg : w.heap[g]? = some (.cells cs t (0, 0))) :
    (w.setCell ⟨g, i, none⟩ v).heap[g]? = some (.cells (cs.setIfInBounds i v) t (0, 0)) := heap_setCell_same w g i cs t v hg
theorem blk_set_other {w : World} {a : Addr} {v : Value} {k : Nat} {o : Obj} (hk : w.heap[k]? = some o) (h : k ≠ a.block) : (w.setCell a v).heap[k]? = some o :=
  (heap_setCell_other w a k v h).trans hk
theorem blk_cell {w : World} {g j : Nat} {cs : Array Value} {t : TypeId} {fr : Nat × Nat} {v : Value} (hg : w.heap[g]? = some (.cells cs t fr)) (hv : cs[j]? = some v) : w.cell? ⟨g, j, none⟩ = some v := by
  rw [cell_of_row w g j cs t fr hg]; exact hv
theorem blk_free {w : World} {g j : Nat} {cs : Array Value} {t : TypeId} (hg : w.heap[g]? = some (.cells cs t (0, 0))) : w.frozen? ⟨g, j, none⟩ = false := frozen_of_row w g j cs t hg

theorem modify_push (A : Array Obj) (o o' : Obj) (f : Obj → Obj) (h : f o = o') : (A.push o).modify A.size f = A.push o' := by
  apply Array.ext
  · simp
  · intro i h1 h2
    have h3 : i < A.size + 1 := by simpa using h2
    simp only [Array.getElem_modify, Array.getElem_push]
    by_cases e : A.size = i
    · subst e; simp [h]
    · rw [if_neg e, dif_pos (by omega), dif_pos (by omega)]
theorem alloc_setRow (w : World) (a b : Array Value) (t : TypeId) : (w.alloc (.cells a t)).setRow w.heap.size b = w.alloc (.cells b t) :=
  congrArg (fun h => ({ w with heap := h } : World)) (modify_push w.heap (.cells a t) (.cells b t) _ rfl)
theorem alloc_setRow' {w : World} {g : Nat} (a b : Array Value) (t : TypeId) (h : g = w.heap.size) : (w.alloc (.cells a t)).setRow g b = w.alloc (.cells b t) := by
  subst h; exact alloc_setRow w a b t
theorem blk_new' {w : World} {g : Nat} (o : Obj) (h : g = w.heap.size) : (w.alloc o).heap[g]? = some o := by subst h; exact blk_new w o
/-! bytes -/
def bA (l : List Nat) : Array Value := (l.map fun (n : Nat) => Value.int .u8 (n : Int)).toArray
theorem bA_get {l : List Nat} {i : Nat} (h : i < l.length) : (bA l)[i]? = some (.int .u8 ((l.getD i 0 : Nat) : Int)) := by
  simp [bA, h, List.getD]
theorem bA_size (l : List Nat) : (bA l).size = l.length := by simp [bA]
theorem bA_set (l : List Nat) (i x : Nat) : (bA l).setIfInBounds i (.int .u8 (x : Int)) = bA (l.set i x) := by
  simp [bA, List.map_set]
theorem getD_lt {l : List Nat} (h : ∀ x ∈ l, x < 256) (i : Nat) : l.getD i 0 < 256 := by
  by_cases hi : i < l.length
  · simp [List.getD, hi]; exact h _ (List.getElem_mem hi)
  · simp [List.getD, List.getElem?_eq_none (Nat.le_of_not_lt hi)]
theorem byte_cell {w : World} {b j : Nat} {l : List Nat} {t : TypeId} {fr : Nat × Nat} (h : w.heap[b]? = some (.cells (bA l) t fr)) (hj : j < l.length) :
    w.cell? ⟨b, j, none⟩ = some (.int .u8 ((l.getD j 0 : Nat) : Int)) := blk_cell h (bA_get hj)
theorem byte_set {w : World} {b j x : Nat} {l : List Nat} {t : TypeId} (h : w.heap[b]? = some (.cells (bA l) t (0, 0))) :
    (w.setCell ⟨b, j, none⟩ (.int .u8 (x : Int))).heap[b]? = some (.cells (bA (l.set j x)) t (0, 0)) := by
  rw [blk_set _ h, bA_set]
theorem xor_lt (a b : Nat) (ha : a < 256) (hb : b < 256) : a ^^^ b < 256 := Nat.xor_lt_two_pow (n := 8) ha hb
theorem bxor (a b : Nat) (ha : a < 256) (hb : b < 256) : bits .xor .u8 (a : Int) (b : Int) = ((a ^^^ b : Nat) : Int) := u8_xor_nat a b ha hb
end Go.Proofs.YtmijbomfekopjaaGreatDoor
