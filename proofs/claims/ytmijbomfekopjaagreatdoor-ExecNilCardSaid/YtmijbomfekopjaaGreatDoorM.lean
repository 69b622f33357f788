/- The maps of a cache and of a device, asked and written. -/
import Derived.Test.YtmijbomfekopjaaGreatDoorA
import Derived.MapKept
namespace Go.Proofs.YtmijbomfekopjaaGreatDoor
open Go.RowKit

def putObj (w : World) (m : Nat) (o : Obj) : World := { w with heap := w.heap.setIfInBounds m o }
theorem Mod.putObj {S : Nat → Prop} {a w : World} (h : Mod S a w) {m : Nat} (hp : m < a.heap.size → S m) (o : Obj) : Mod S a (putObj w m o) :=
  ⟨h.os, h.tape, h.output, Nat.le_trans h.size (by simp [Go.Proofs.YtmijbomfekopjaaGreatDoor.putObj]), fun k hk hn => by
    show (w.heap.setIfInBounds m o)[k]? = _
    rw [Array.getElem?_setIfInBounds_ne (fun e => hn (by subst e; exact hp hk))]
    exact h.block k hk hn⟩
theorem blk_putObj {w : World} {m : Nat} {o o' : Obj} (h : w.heap[m]? = some o') : (putObj w m o).heap[m]? = some o := by
  show (w.heap.setIfInBounds m o)[m]? = some o
  rw [Array.getElem?_setIfInBounds_self_of_lt (blk_lt h)]
theorem blk_putObj_other {w : World} {m k : Nat} {o o' : Obj} (h : w.heap[k]? = some o') (hk : k ≠ m) : (putObj w m o).heap[k]? = some o' := by
  show (w.heap.setIfInBounds m o)[k]? = some o'
  rw [Array.getElem?_setIfInBounds_ne (Ne.symm hk)]; exact h
def keyV (s : Int) : Value := .agg #[.int .i64 0, .int .i64 s]
theorem check_key (b : Bool) (s : Int) (w : World) : (Instr.checkKey b 10000 108 (keyV s)).run Tryz.prog w = .ok () w := by kernel_rfl
theorem find_key (v : Value) (n : Nat) (w : World) : (Instr.findKey 108 (keyV 1) [{ key := keyV 1, val := v, born := n }]).run Tryz.prog w = .ok (some (0, v)) w := by kernel_rfl
theorem find_none (k : Value) (w : World) : (Instr.findKey 108 k []).run Tryz.prog w = .ok none w := by kernel_rfl
theorem look_nil (s : Int) (w : World) : (Instr.lookup 58 (.map none) (keyV s) true).run Tryz.prog w = .ok (.tuple #[.slice none 0 0, .bool false]) w := by kernel_rfl
theorem look_empty {m c : Nat} (s : Int) (w : World) (h : w.heap[m]? = some (.map #[] c)) : (Instr.lookup 58 (.map (some m)) (keyV s) true).run Tryz.prog w = .ok (.tuple #[.slice none 0 0, .bool false]) w := by
  have hz : (zeroValue 23).run Tryz.prog w = .ok (.slice none 0 0) w := by kernel_rfl
  simp [Instr.lookup, run_underlying Tryz.underlying58, MapKept.run_getObj_map h, check_key, find_none, hz, Result.andThen]
theorem look_one {m c n : Nat} (v : Value) (w : World) (h : w.heap[m]? = some (.map #[{ key := keyV 1, val := v, born := n }] c)) : (Instr.lookup 58 (.map (some m)) (keyV 1) false).run Tryz.prog w = .ok v w := by
  simp [Instr.lookup, run_underlying Tryz.underlying58, MapKept.run_getObj_map h, check_key, find_key, Result.andThen]
theorem look_bad {m c : Nat} (s : Int) (w : World) (h : w.heap[m]? = some (.map #[] c)) : (Instr.lookup 97 (.map (some m)) (.int .i64 s) false).run Tryz.prog w = .ok (.bool false) w := by
  have hz : (zeroValue 4).run Tryz.prog w = .ok (.bool false) w := by kernel_rfl
  have hc : ∀ b, (Instr.checkKey b 10000 3 (.int .i64 s)).run Tryz.prog w = .ok () w := fun _ => by kernel_rfl
  have hf : (Instr.findKey 3 (.int .i64 s) []).run Tryz.prog w = .ok none w := by kernel_rfl
  simp [Instr.lookup, run_underlying Tryz.underlying97, MapKept.run_getObj_map h, hc, hf, hz, Result.andThen]
theorem look_now {m c : Nat} (s : Int) (w : World) (h : w.heap[m]? = some (.map #[] c)) : (Instr.lookup 96 (.map (some m)) (.int .i64 s) false).run Tryz.prog w = .ok (.slice none 0 0) w := by
  have hz : (zeroValue 23).run Tryz.prog w = .ok (.slice none 0 0) w := by kernel_rfl
  have hc : ∀ b, (Instr.checkKey b 10000 3 (.int .i64 s)).run Tryz.prog w = .ok () w := fun _ => by kernel_rfl
  have hf : (Instr.findKey 3 (.int .i64 s) []).run Tryz.prog w = .ok none w := by kernel_rfl
  simp [Instr.lookup, run_underlying Tryz.underlying96, MapKept.run_getObj_map h, hc, hf, hz, Result.andThen]
theorem upd_empty {m : Nat} (v : Value) (w : World) (h : w.heap[m]? = some (.map #[] 0)) : (Instr.mapUpdate 58 (.map (some m)) (keyV 1) v).run Tryz.prog w = .ok () (putObj w m (.map #[{ key := keyV 1, val := v, born := 0 }] 1)) := by
  simp [Instr.mapUpdate, run_underlying Tryz.underlying58, MapKept.run_getObj_map h, check_key, find_none, MapKept.run_setObj_map _ h, Result.andThen, putObj]
end Go.Proofs.YtmijbomfekopjaaGreatDoor
