/- The open group of a cache; a sector read from its device. -/
import Derived.Test.YtmijbomfekopjaaGreatDoorG
import Derived.Laws.CopyOwn
namespace Go.Proofs.YtmijbomfekopjaaGreatDoor
open Go.RowKit

theorem group_nil (cb : Nat) (c0 c3 : Value) (w : World) (h : w.heap[cb]? = some (.cells #[c0, .map none, .slice none 0 0, c3] 64 (0, 0))) :
    Calls Tryz.prog 11 #[.pointer (some ⟨cb, 0, none⟩)] w fun e w' => e = .returned (.slice none 0 0) ∧ Mod No w w' := by
  go_enter Tryz.func11, Tryz.ntmps11
  go_wp2_with (refine wpList_load_at rfl 61 _ rfl cb 1 rfl 64 _ #[.map none, .slice none 0 0] (0, 0) _ h Tryz.underlying61 rfl (by kernel_rfl) (fun j v hv => by match j, hv with | 0, hv => simpa using hv | 1, hv => simpa using hv | j + 2, hv => simp at hv) ?_)
  refine (writes_nil w).mono ?_
  rintro e w1 ⟨rfl, hm⟩
  go_wp2_with fail
  go_ret
  exact ⟨rfl, hm⟩
theorem group_one (cb lb cp db m1 m2 m3 ck m l2 lc : Nat) (le cu : Array Value) (sv : Value) (w : World) (hc : CacheAt w cb lb cp db m1 m2 m3 ck (.map (some m)) (.slice (some ⟨l2, 0, none⟩) 1 lc) le)
    (hm : w.heap[m]? = some (.map #[{ key := keyV 1, val := sv, born := 0 }] 1)) (hsv : Row64 w sv) (hl : w.heap[l2]? = some (.cells cu 108 (0, 0))) (h0 : cu[0]? = some (.int .i64 0)) (h1 : cu[1]? = some (.int .i64 1)) :
    Calls Tryz.prog 11 #[.pointer (some ⟨cb, 0, none⟩)] w fun e w' => ∃ g c, e = .returned (.slice (some ⟨g, 0, none⟩) 1 c) ∧ Mod No w w' := by
  have hcc := hc.cell
  have W1 := Lib.hid (writes_one m l2 lc cu sv w hm hsv hl h0 h1)
  clear hc hm hsv hl
  go_enter Tryz.func11, Tryz.ntmps11
  go_wp2_with (refine wpList_load_at rfl 61 _ rfl cb 1 rfl 64 _ #[.map (some m), .slice (some ⟨l2, 0, none⟩) 1 lc] (0, 0) _ hcc Tryz.underlying61 rfl (by kernel_rfl) (fun j v hv => by match j, hv with | 0, hv => simpa using hv | 1, hv => simpa using hv | j + 2, hv => simp at hv) ?_)
  refine W1.out.mono ?_
  rintro e w1 ⟨g, c, rfl, hm⟩
  go_wp2_with fail
  go_ret
  exact ⟨g, c, rfl, hm⟩
theorem fault_ok (db m1 m2 m3 ck s : Nat) (w : World) (h : DevAt w db m1 m2 m3 ck) (hs : s < 4) : Calls Tryz.prog 79 #[.pointer (some ⟨db, 0, none⟩), .int .i64 (s : Int)] w fun e w' => e = .returned (.int .i64 0) ∧ w = w' := by
  have k : w.cell? ⟨db, 4, none⟩ = some (.bool false) := blk_cell h.cell rfl
  have k0 : w.cell? ⟨db, 0, none⟩ = some (.int .i64 4) := blk_cell h.cell rfl
  have h4 : decide ((4 : Int) ≤ (s : Int)) = false := by simp; omega
  have h5 : decide ((s : Int) < 0) = false := by simp
  go_enter Tryz.func79, Tryz.ntmps79
  go_wp2_with fail
  go_ret
  exact ⟨rfl, rfl⟩
def z64 : List Value := List.replicate 64 (.int .u8 0)
theorem run_make64 (w : World) : (Instr.makeSlice 23 (.int .i64 64) (.int .i64 64)).run Tryz.prog w = .ok (.slice (some ⟨w.heap.size, 0, none⟩) 64 64) (w.alloc (.cells z64.toArray 5)) := by kernel_rfl
theorem row_new (w : World) : Row64 (w.alloc (.cells z64.toArray 5)) (.slice (some ⟨w.heap.size, 0, none⟩) 64 64) :=
  ⟨_, _, rfl, z64, by unfold z64; exact List.length_replicate, fun u hu => by rw [(List.mem_replicate.1 hu).2]; rfl, fun j u hu => by
    rw [show (⟨w.heap.size, 0, none⟩ : Addr).add j = ⟨w.heap.size, j, none⟩ from by unfold Addr.add; split <;> simp_all]
    exact blk_cell (blk_new w _) (by rw [List.getElem?_toArray]; exact hu)⟩
set_option maxRecDepth 100000 in
set_option maxHeartbeats 4000000 in
theorem dread_ok (db m1 m2 m3 ck s : Nat) (w : World) (h : DevAt w db m1 m2 m3 ck) (hs : s < 4) : Calls Tryz.prog 53 #[.pointer (some ⟨db, 0, none⟩), .int .i64 (s : Int)] w fun e w' => ∃ g c, e = .returned (.tuple #[.slice (some ⟨g, 0, none⟩) 64 c, .int .i64 0]) ∧ Mod No w w' ∧ w.heap.size ≤ g ∧ Row64 w' (.slice (some ⟨g, 0, none⟩) 64 c) := by
  have k2 : w.cell? ⟨db, 2, none⟩ = some (.map (some m2)) := blk_cell h.cell rfl
  have k3 : w.cell? ⟨db, 3, none⟩ = some (.map (some m3)) := blk_cell h.cell rfl
  have b1 := look_bad (s : Int) w h.bad
  have H := Lib.hid h
  clear h
  go_enter Tryz.func53, Tryz.ntmps53
  go_wp2_with fail
  refine (fault_ok db m1 m2 m3 ck s w H.out hs).mono ?_
  rintro e w1 ⟨rfl, rfl⟩
  have hms := run_make64
  have R := Lib.hid (row_new w)
  have N := Lib.hid ((Mod.refl No w).alloc (.cells z64.toArray 5))
  have k4 : (w.alloc (.cells z64.toArray 5)).cell? ⟨db, 2, none⟩ = some (.map (some m2)) := blk_cell (N.out.blk H.out.cell (fun x => x)) rfl
  have b2 := look_now (s : Int) (w.alloc (.cells z64.toArray 5)) (N.out.blk H.out.now (fun x => x))
  generalize hw1 : w.alloc (.cells z64.toArray 5) = w1 at *
  go_wp2_with (refine wpList_copy_nothing rfl (.tmp 21) (.tmp 27) 23 23 rfl 5 Tryz.underlying23 (by kernel_rfl) (some ⟨w.heap.size, 0, none⟩) none 64 64 0 0 rfl rfl rfl ?_)
  refine bodyPost_ret (v := .tuple #[.slice (some ⟨w.heap.size, 0, none⟩) 64 64, .int .i64 0]) (by simp [results, Tryz.results53, go_sem]) rfl ?_
  exact ⟨_, _, rfl, N.out, Nat.le_refl _, R.out⟩
end Go.Proofs.YtmijbomfekopjaaGreatDoor
