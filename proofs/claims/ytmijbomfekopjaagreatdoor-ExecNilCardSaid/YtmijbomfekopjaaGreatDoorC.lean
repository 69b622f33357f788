/- The cache and its device: what may be come to; no error's number. -/
import Derived.Test.YtmijbomfekopjaaGreatDoorA
import Derived.Test.YtmijbomfekopjaaGreatDoorL
import Derived.Test.YtmijbomfekopjaaGreatDoorRa
import Derived.Laws.AppendOwnNone
import Derived.Maps.AppendAt
namespace Go.Proofs.YtmijbomfekopjaaGreatDoor
open Go.RowKit

theorem size_ok (db m1 m2 m3 ck : Nat) (w : World) (h : DevAt w db m1 m2 m3 ck) : Calls Tryz.prog 64 #[.pointer (some ⟨db, 0, none⟩)] w fun e w' => e = .returned (.int .i64 4) ∧ w = w' := by
  have k : w.cell? ⟨db, 0, none⟩ = some (.int .i64 4) := blk_cell h.cell rfl
  go_enter Tryz.func64, Tryz.ntmps64
  go_wp2_with fail
  go_ret
  exact ⟨rfl, rfl⟩
theorem dead_ok (db m1 m2 m3 ck : Nat) (w : World) (h : DevAt w db m1 m2 m3 ck) : Calls Tryz.prog 65 #[.pointer (some ⟨db, 0, none⟩)] w fun e w' => e = .returned (.bool false) ∧ w = w' := by
  have k : w.cell? ⟨db, 4, none⟩ = some (.bool false) := blk_cell h.cell rfl
  go_enter Tryz.func65, Tryz.ntmps65
  go_wp2_with fail
  go_ret
  exact ⟨rfl, rfl⟩
theorem failed_ok (w : World) : Calls Tryz.prog 15 #[.int .i64 0] w fun e w' => e = .returned .nilIface ∧ w = w' := by
  go_enter Tryz.func15, Tryz.ntmps15
  go_wp2_with fail
  go_ret
  exact ⟨rfl, rfl⟩
theorem as_nil (v : Value) (w : World) : Calls Tryz.prog 33 #[.nilIface, v] w fun e w' => e = .returned (.bool false) ∧ w = w' := by
  go_enter Tryz.func33, Tryz.ntmps33
  go_wp2_with fail
  go_ret
  exact ⟨rfl, rfl⟩
theorem number_nil (w : World) : Calls Tryz.prog 10 #[.nilIface] w fun e w' => e = .returned (.int .i64 0) ∧ Mod No w w' := by
  go_enter Tryz.func10, Tryz.ntmps10
  go_wp2_with fail
  refine (as_nil _ _).mono ?_
  rintro e w1 ⟨rfl, rfl⟩
  go_wp2_with fail
  refine (as_nil _ _).mono ?_
  rintro e w1 ⟨rfl, rfl⟩
  go_wp2_with fail
  go_ret
  exact ⟨rfl, ((Mod.refl _ _).alloc _).alloc _⟩
/-- A cache over one device. -/
structure CacheAt (w : World) (cb lb cp db m1 m2 m3 ck : Nat) (at_ l : Value) (le : Array Value) : Prop where
  cell : w.heap[cb]? = some (.cells #[.slice (some ⟨lb, 0, none⟩) 1 cp, at_, l, .slice none 0 0] 64 (0, 0))
  row : w.heap[lb]? = some (.cells le 52 (0, 0))
  one : le[0]? = some (.pointer (some ⟨db, 0, none⟩))
  dev : DevAt w db m1 m2 m3 ck
theorem CacheAt.later {w w' : World} {cb lb cp db m1 m2 m3 ck : Nat} {at_ l : Value} {le : Array Value} (h : CacheAt w cb lb cp db m1 m2 m3 ck at_ l le) (hm : Mod No w w') (_h : True → True) : CacheAt w' cb lb cp db m1 m2 m3 ck at_ l le :=
  ⟨hm.blk h.cell (fun x => x), hm.blk h.row (fun x => x), h.one, h.dev.later hm (fun x => x) (fun x => x) (fun x => x)⟩
theorem may_ok (cb lb cp db m1 m2 m3 ck : Nat) (at_ l : Value) (le : Array Value) (s : Nat) (w : World) (h : CacheAt w cb lb cp db m1 m2 m3 ck at_ l le) (hs : s < 4) :
    Calls Tryz.prog 37 #[.pointer (some ⟨cb, 0, none⟩), .int .i64 0, .int .i64 (s : Int)] w fun e w' => e = .returned (.int .i64 0) ∧ w = w' := by
  have k : w.cell? ⟨cb, 0, none⟩ = some (.slice (some ⟨lb, 0, none⟩) 1 cp) := blk_cell h.cell rfl
  have k1 : w.cell? ⟨lb, 0, none⟩ = some (.pointer (some ⟨db, 0, none⟩)) := blk_cell h.row h.one
  have h4 : decide ((4 : Int) ≤ (s : Int)) = false := by simp; omega
  have h5 : decide ((s : Int) < 0) = false := by simp
  go_enter Tryz.func37, Tryz.ntmps37
  go_wp2_with fail
  refine (size_ok db m1 m2 m3 ck w h.dev).mono ?_
  rintro e w1 ⟨rfl, rfl⟩
  go_wp2_with fail
  refine (dead_ok db m1 m2 m3 ck _ h.dev).mono ?_
  rintro e w1 ⟨rfl, rfl⟩
  go_wp2_with fail
  go_ret
  exact ⟨rfl, rfl⟩
end Go.Proofs.YtmijbomfekopjaaGreatDoor
