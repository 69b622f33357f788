/- A plan of one disk: a sector written through it. -/
import Derived.Test.YtmijbomfekopjaaGreatDoorE
namespace Go.Proofs.YtmijbomfekopjaaGreatDoor
open Go.RowKit

def zstepC : Array Value := #[.int .i64 0, .int .i64 0, .int .i64 0, .slice none 0 0, .slice none 0 0, .int .i64 0, .int .i64 0, .int .i64 0, .slice none 0 0, .slice none 0 0]
def stepC : Array Value := #[.int .i64 1, .int .i64 4, .int .i64 0, .slice none 0 0, .slice none 0 0, .int .i64 0, .int .i64 0, .int .i64 0, .slice none 0 0, .slice none 0 0]
theorem blk_setRow {w : World} {g : Nat} {old cs : Array Value} {t : TypeId} {fr : Nat × Nat} (hg : w.heap[g]? = some (.cells old t fr)) : (w.setRow g cs).heap[g]? = some (.cells cs t fr) := setRow_heap w g old cs t fr hg
theorem blk_setRow_other {w : World} {g k : Nat} {cs : Array Value} {o : Obj} (hk : w.heap[k]? = some o) (h : k ≠ g) : (w.setRow g cs).heap[k]? = some o := (setRow_other w g k cs h).trans hk
/-- What Write of a cache leaves. -/
def Wrote (cb lb cp db m1 m2 m3 ck : Nat) (le : Array Value) (w w' : World) : Prop := ∃ m l2 lc cu sv, Mod (Just cb) w w' ∧
      CacheAt w' cb lb cp db m1 m2 m3 ck (.map (some m)) (.slice (some ⟨l2, 0, none⟩) 1 lc) le ∧ w.heap.size ≤ m ∧ w.heap.size ≤ l2 ∧ (∃ g c, sv = .slice (some ⟨g, 0, none⟩) 64 c ∧ w.heap.size ≤ g) ∧
      w'.heap[m]? = some (.map #[{ key := keyV 1, val := sv, born := 0 }] 1) ∧ Row64 w' sv ∧ w'.heap[l2]? = some (.cells cu 108 (0, 0)) ∧ cu[0]? = some (.int .i64 0) ∧ cu[1]? = some (.int .i64 1)

set_option maxRecDepth 100000 in
set_option maxHeartbeats 4000000 in
theorem mwrite_ok (sb sc cb lb cp db m1 m2 m3 ck : Nat) (le : Array Value) (v : Value) (w : World) (h : CacheAt w cb lb cp db m1 m2 m3 ck (.map none) (.slice none 0 0) le) (hv : Row64 w v) (hcb : cb ≠ lb) (hcd : cb ≠ db) (hc2 : cb ≠ m2) (hc3 : cb ≠ m3)
    (hs : w.heap[sb]? = some (.cells stepC 33 (0, 0))) :
    Calls Tryz.prog 8 #[.agg #[.slice (some ⟨sb, 0, none⟩) 1 sc, .int .i64 0, .bool false, .pointer (some ⟨cb, 0, none⟩)], .int .i64 0, .int .i64 1, v] w fun e w' => e = .returned .nilIface ∧ ∃ w1, Mod No w w1 ∧ Wrote cb lb cp db m1 m2 m3 ck le w1 w' := by
  have B0 := Lib.hid (blk_new w (.cells #[.slice (some ⟨sb, 0, none⟩) 1 sc, .int .i64 0, .bool false, .pointer (some ⟨cb, 0, none⟩)] 41))
  have S0 := Lib.hid (blk_old (o' := .cells #[.slice (some ⟨sb, 0, none⟩) 1 sc, .int .i64 0, .bool false, .pointer (some ⟨cb, 0, none⟩)] 41) hs)
  have H := Lib.hid h
  have HV := Lib.hid hv
  clear h hv hs
  have k0 : (w.alloc (.cells #[.slice (some ⟨sb, 0, none⟩) 1 sc, .int .i64 0, .bool false, .pointer (some ⟨cb, 0, none⟩)] 41)).cell? ⟨w.heap.size, 0, none⟩ = some (.slice (some ⟨sb, 0, none⟩) 1 sc) := blk_cell B0.out rfl
  go_enter Tryz.func8, Tryz.ntmps8
  go_wp2_with (first
    | (refine wpList_load_at rfl 33 _ rfl sb 0 rfl 33 stepC stepC (0, 0) _ S0.out Tryz.underlying33 rfl (by kernel_rfl) (fun j v hv => by rw [Nat.zero_add]; exact hv) ?_)
    | (refine wpList_store_row rfl 33 _ _ rfl (w.heap.size + 1) stepC rfl rfl 33 zstepC (blk_new' _ (by simp)) (by kernel_rfl) rfl (by kernel_rfl) ?_; refine hold ?_))
  unfold Hold
  have X1 := Lib.hid (show (((w.alloc (.cells #[.slice (some ⟨sb, 0, none⟩) 1 sc, .int .i64 0, .bool false, .pointer (some ⟨cb, 0, none⟩)] 41)).alloc (.cells #[.int .i64 0, .int .i64 0, .int .i64 0, .slice none 0 0, .slice none 0 0, .int .i64 0, .int .i64 0, .int .i64 0, .slice none 0 0, .slice none 0 0] 33)).setRow (w.heap.size + 1) stepC).heap[w.heap.size]? = some (.cells #[.slice (some ⟨sb, 0, none⟩) 1 sc, .int .i64 0, .bool false, .pointer (some ⟨cb, 0, none⟩)] 41 (0, 0)) from blk_setRow_other (blk_old B0.out) (by omega))
  have X2 := Lib.hid (show (((w.alloc (.cells #[.slice (some ⟨sb, 0, none⟩) 1 sc, .int .i64 0, .bool false, .pointer (some ⟨cb, 0, none⟩)] 41)).alloc (.cells #[.int .i64 0, .int .i64 0, .int .i64 0, .slice none 0 0, .slice none 0 0, .int .i64 0, .int .i64 0, .int .i64 0, .slice none 0 0, .slice none 0 0] 33)).setRow (w.heap.size + 1) stepC).heap[w.heap.size + 1]? = some (.cells stepC 33 (0, 0)) from blk_setRow (blk_new' _ (by simp)))
  have N2 := Lib.hid (show Mod No w (((w.alloc (.cells #[.slice (some ⟨sb, 0, none⟩) 1 sc, .int .i64 0, .bool false, .pointer (some ⟨cb, 0, none⟩)] 41)).alloc (.cells #[.int .i64 0, .int .i64 0, .int .i64 0, .slice none 0 0, .slice none 0 0, .int .i64 0, .int .i64 0, .int .i64 0, .slice none 0 0, .slice none 0 0] 33)).setRow (w.heap.size + 1) stepC) from (((Mod.refl No w).alloc _).alloc _).setRow _ _ (fun h => absurd (show w.heap.size + 1 < w.heap.size from h) (by omega)))
  generalize (((w.alloc (.cells #[.slice (some ⟨sb, 0, none⟩) 1 sc, .int .i64 0, .bool false, .pointer (some ⟨cb, 0, none⟩)] 41)).alloc (.cells #[.int .i64 0, .int .i64 0, .int .i64 0, .slice none 0 0, .slice none 0 0, .int .i64 0, .int .i64 0, .int .i64 0, .slice none 0 0, .slice none 0 0] 33)).setRow (w.heap.size + 1) stepC) = w2 at *
  have C2 := Lib.hid (H.out.later N2.out (fun x => x))
  have R2 := Lib.hid (HV.out.later N2.out (fun _ _ _ x => x))
  have d1 : w2.cell? ⟨w.heap.size, 3, none⟩ = some (.pointer (some ⟨cb, 0, none⟩)) := blk_cell X1.out rfl
  have d2 : w2.cell? ⟨w.heap.size + 1, 0, none⟩ = some (.int .i64 1) := blk_cell X2.out rfl
  have d3 : w2.cell? ⟨w.heap.size + 1, 2, none⟩ = some (.int .i64 0) := blk_cell X2.out rfl
  clear k0 B0 S0 H HV
  go_wp2_with fail
  refine (cwrite_ok cb lb cp db m1 m2 m3 ck le v w2 C2.out R2.out hcb hcd hc2 hc3).mono ?_
  rintro e w3 ⟨m, l2, lc, cu, sv, rfl, hm, hc, h1, h2, h3, h4, h5, h6, h7, h8⟩
  have W3 := Lib.hid (show Wrote cb lb cp db m1 m2 m3 ck le w2 w3 from ⟨m, l2, lc, cu, sv, hm, hc, h1, h2, h3, h4, h5, h6, h7, h8⟩)
  clear hm hc h1 h2 h3 h4 h5 h6 h7 h8
  go_wp2_with fail
  refine (failed_ok _).mono ?_
  rintro e w4 ⟨rfl, rfl⟩
  go_wp2_with fail
  go_ret
  exact ⟨rfl, w2, N2.out, W3.out⟩
end Go.Proofs.YtmijbomfekopjaaGreatDoor
