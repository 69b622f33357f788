/- A cache over one device: made. -/
import Derived.Test.YtmijbomfekopjaaGreatDoorP
namespace Go.Proofs.YtmijbomfekopjaaGreatDoor
open Go.RowKit

set_option maxRecDepth 100000 in
theorem index_ok (b c db : Nat) (w : World) (h : w.cell? ⟨b, 0, none⟩ = some (.pointer (some ⟨db, 0, none⟩))) : Calls Tryz.prog 63 #[.slice (some ⟨b, 0, none⟩) 1 c, .pointer none] w fun e w' => e = .returned (.int .i64 (-1)) ∧ w = w' := by
  have hpe : ∀ w, (binOp .eql 52 (.pointer none) (.pointer (some ⟨db, 0, none⟩))).run Tryz.prog w = .ok (.bool false) w := fun _ => by kernel_rfl
  go_enter Tryz.func63, Tryz.ntmps63
  go_wp2_with fail
  go_loopw [8] (fun v wr => ∃ i : Nat, i ≤ 1 ∧ v = .int .i64 (i : Int) ∧ w = wr) (fun v _ => 1 - (intOf v).toNat)
  case atStart => exact ⟨0, by omega, rfl, rfl⟩
  case round =>
    obtain ⟨i, hi, rfl, rfl⟩ := hrel
    by_cases hli : i < 1
    · obtain rfl : i = 0 := by omega
      go_wp2_with fail
      go_roundw
      case rel => exact ⟨1, by omega, by go_num, trivial⟩
      case measure => simp [intOf]
    · obtain rfl : i = 1 := by omega
      go_wp2_with fail
      go_ret
      exact ⟨rfl, rfl⟩
theorem contains_ok (b c db : Nat) (w : World) (h : w.cell? ⟨b, 0, none⟩ = some (.pointer (some ⟨db, 0, none⟩))) : Calls Tryz.prog 35 #[.slice (some ⟨b, 0, none⟩) 1 c, .pointer none] w fun e w' => e = .returned (.bool false) ∧ w = w' := by
  go_enter Tryz.func35, Tryz.ntmps35
  go_wp2_with fail
  refine (index_ok b c db w h).mono ?_
  rintro e w1 ⟨rfl, rfl⟩
  go_wp2_with fail
  go_ret
  exact ⟨rfl, rfl⟩
theorem info52 : (Tryz.prog.info? 52).map (fun i => (i.zero, i.size, i.bytes)) = some (some (.pointer none), 1, 8) := by kernel_rfl
set_option maxRecDepth 100000 in
theorem clone_devs (b c db : Nat) (w : World) (h : w.cell? ⟨b, 0, none⟩ = some (.pointer (some ⟨db, 0, none⟩))) : Calls Tryz.prog 36 #[.slice (some ⟨b, 0, none⟩) 1 c] w fun e w' => ∃ lb cp le, e = .returned (.slice (some ⟨lb, 0, none⟩) 1 cp) ∧ Mod No w w' ∧ w.heap.size ≤ lb ∧
    w'.heap[lb]? = some (.cells le 52 (0, 0)) ∧ le[0]? = some (.pointer (some ⟨db, 0, none⟩)) := by
  obtain ⟨i5, hi5, hz5, hs5, hb5⟩ := info_parts info52
  have A1 := Lib.hid ((Mod.refl No w).alloc (.cells #[] 52))
  have A2 := Lib.hid (show (w.alloc (.cells #[] 52)).ownsRow w.heap.size 52 1 (.slice (some ⟨w.heap.size, 0, none⟩) 0 0) 0 [] from ⟨rfl, .inr ⟨w.heap.size, 0, #[], rfl, Nat.le_refl _, blk_new _ _, Nat.le_refl _, Nat.zero_le _, rfl, rfl⟩⟩)
  have A3 : (w.alloc (.cells #[] 52)).cell? ⟨b, 0, none⟩ = some (.pointer (some ⟨db, 0, none⟩)) := by
    rw [World.cell?_of_block (w := w) (A1.out.block _ (World.block_lt_of_cell? _ _ h) (fun x => x)), h]
  have heq : ∀ w, (binOp .eql 57 (.slice (some ⟨b, 0, none⟩) 1 c) (.slice none 0 0)).run Tryz.prog w = .ok (.bool false) w := fun _ => by kernel_rfl
  go_enter Tryz.func36, Tryz.ntmps36
  go_wp2_with (at_builtin; refine wpList_append_own _ rfl (.tmp 5) (.tmp 6) 57 rfl w.heap.size 52 i5 (.pointer none) 1 8 Tryz.underlying57 hi5 hz5 hs5 hb5 rfl (by omega) (.slice (some ⟨w.heap.size, 0, none⟩) 0 0) 0 [] rfl A2.out ⟨b, 0, none⟩ 1 c [.pointer (some ⟨db, 0, none⟩)] rfl rfl (fun j u hu => by
      match j, hu with
      | 0, hu => simp at hu; subst hu; rw [show (⟨b, 0, none⟩ : Addr).add 0 = ⟨b, 0, none⟩ from by unfold Addr.add; simp]; exact A3
      | j + 1, hu => simp at hu) (fun u hu => by simp at hu; subst hu; rfl) (by unfold maxLen; omega) (by omega) (by simp) ?_; refine hold ?_)
  unfold Hold
  intro v1 w1 o1 g1 _
  have B1 := Lib.hid (show Mod No w w1 from A1.out.grown g1 (fun k hk hlt => by have : k = w.heap.size := (by injection hk with h; exact h.symm); omega))
  obtain ⟨lb, cp, le, rfl, hlb, hr, ht⟩ : ∃ g cap cur, v1 = .slice (some ⟨g, 0, none⟩) 1 cap ∧ w.heap.size ≤ g ∧ w1.heap[g]? = some (.cells cur 52 (0, 0)) ∧ cur.toList.take 1 = [.pointer (some ⟨db, 0, none⟩)] := by
    rcases o1.2 with ⟨_, h0⟩ | ⟨g, cap, cur, h1, h2, h3, _, _, _, h7⟩
    · omega
    · exact ⟨g, cap, cur, h1, h2, h3, by simpa using h7⟩
  have q0 : le[0]? = some (.pointer (some ⟨db, 0, none⟩)) := by
    have := congrArg (fun z => z[0]?) ht
    simpa [List.getElem?_take] using this
  have HR := Lib.hid hr
  clear A1 A2 A3 o1 g1 hr ht heq
  go_wp2_with fail
  go_ret
  exact ⟨lb, cp, le, rfl, B1.out, hlb, HR.out, q0⟩
set_option maxRecDepth 100000 in
theorem cache_new (b c db m1 m2 m3 ck : Nat) (w : World) (h : w.cell? ⟨b, 0, none⟩ = some (.pointer (some ⟨db, 0, none⟩))) (hd : DevAt w db m1 m2 m3 ck) :
    Calls Tryz.prog 13 #[.slice (some ⟨b, 0, none⟩) 1 c] w fun e w' => ∃ cb lb cp le, e = .returned (.tuple #[.pointer (some ⟨cb, 0, none⟩), .int .i64 0]) ∧ Mod No w w' ∧ CacheAt w' cb lb cp db m1 m2 m3 ck (.map none) (.slice none 0 0) le ∧ w.heap.size ≤ cb ∧ cb ≠ lb := by
  have C := Lib.hid (contains_ok b c db w h)
  have D := Lib.hid (clone_devs b c db w h)
  go_enter Tryz.func13, Tryz.ntmps13
  go_wp2_with fail
  refine C.out.mono ?_
  rintro e w1 ⟨rfl, rfl⟩
  go_wp2_with fail
  refine D.out.mono ?_
  rintro e w1 ⟨lb, cp, le, rfl, hm, hlb, hr, hle⟩
  have M := Lib.hid hm
  have R := Lib.hid hr
  have hl := blk_lt hr
  have hsz := hm.size
  clear hm hr C D
  go_wp2_with fail
  refine bodyPost_ret (v := .tuple #[.pointer (some ⟨w1.heap.size, 0, none⟩), .int .i64 0]) (by simp [results, Tryz.results13, go_sem]) rfl ?_
  exact ⟨w1.heap.size, lb, cp, le, rfl, M.out.alloc _, ⟨blk_new _ _, blk_old R.out, hle, (hd.later M.out (fun x => x) (fun x => x) (fun x => x)).later ((Mod.refl No w1).alloc _) (fun x => x) (fun x => x) (fun x => x)⟩, hsz, by omega⟩
end Go.Proofs.YtmijbomfekopjaaGreatDoor
