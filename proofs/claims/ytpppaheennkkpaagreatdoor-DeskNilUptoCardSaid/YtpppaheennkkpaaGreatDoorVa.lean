/- A start in which DeskNil's listed variables lie as the program's text lays them. -/
import Derived.Test.YtpppaheennkkpaaGreatDoorXQ
import Derived.Test.YtpppaheennkkpaaGreatDoorXE
import Derived.Test.YtpppaheennkkpaaGreatDoorRows
import Derived.WalkKit
import Derived.ProofKit
import Derived.OpenShut
import Derived.ChangeMaps5
import Derived.Below
import Derived.LaidMore
import Derived.LaidSub
import Derived.LaidHandle
import Derived.Stop.Joined
import Derived.Deep.DeepHandedRow
import Derived.Shelf.Vars
import Derived.Lay
namespace Go.Proofs.YtpppaheennkkpaaGreatDoor.deskNil
open Go.ChangeShapes Go.WideShapes Go.ChangeAt Go.RowKit
open Go.Proofs.YtpppaheennkkpaaGreatDoor

theorem own : ownKnob Tryz.prog.godebug = none := by kernel_rfl
theorem laidOut : laidOutB Tryz.prog = true := by kernel_rfl

theorem sha_of_laid {W : World} (h : laidMetH Tryz.prog Rows.deskNilUptoRow.laid W) : ∃ ty, W.heap[9]? = some (.cells shaV ty (0, 0)) := by
  obtain ⟨⟨ps, hl, _, hrows⟩, _⟩ := laidMetH_iff.1 h
  have e0 : (Rows.deskNilUptoRow.laid.filter fun x => x.2.handleName?.isNone) = [("math/bits.deBruijn32tab", Rows.laid_math_bits_deBruijn32tab), ("math/bits.deBruijn64tab", Rows.laid_math_bits_deBruijn64tab), ("cofferdam/sha.constants", Rows.laid_cofferdam_sha_constants), ("internal/strconv.uint64pow10", Rows.laid_internal_strconv_uint64pow10), ("unicode/utf8.acceptRanges", Rows.laid_unicode_utf8_acceptRanges), ("strconv.ErrRange", Rows.laid_strconv_ErrRange), ("strconv.ErrSyntax", Rows.laid_strconv_ErrSyntax), ("unicode/utf8.first", Rows.laid_unicode_utf8_first)] := by kernel_rfl
  rw [e0] at hl
  obtain ⟨_, _, _, _, p1, q1, _, _, _, _, hl1, rfl⟩ := hl
  obtain ⟨_, _, _, _, p2, q2, _, _, _, _, hl2, rfl⟩ := hl1
  obtain ⟨g, t, cs, fuel, p, q, hg, ht, hv, hd, _, rfl⟩ := hl2
  obtain rfl := Option.some.inj ((show Tryz.prog.globalNamed "cofferdam/sha.constants" = some 9 by kernel_rfl).symm.trans hg)
  obtain rfl := Option.some.inj ((show (Tryz.prog.globals[9]?).map (·.type) = some 471 by kernel_rfl).symm.trans ht)
  obtain ⟨xs, m, _, ex, hlen, hl, hel⟩ := DataW.trod_array Tryz.underlying471 hd
  have c1 : Tryz.prog.cellsOf 252 = 1 := by kernel_rfl
  have c64 : Tryz.prog.cellsOf 471 = 64 := by kernel_rfl
  have hl64 : xs.length = 64 := by omega
  have e3 : (xs.map (·.1)) = shaL.map fun n => (DataW.lit (.int .u32 (.ofNat n)) : DataW Unit) := (DataW.agg.inj (Prod.mk.inj ex).1).symm
  have hL : shaL.length = 64 := by kernel_rfl
  have hV : shaV.size = 64 := by simp [shaV, hL]
  have hcs : cs = shaV := by
    refine Array.ext (by rw [c64] at hlen; simpa [hV] using hlen) fun i h1 h2 => ?_
    have hi : i < 64 := by omega
    have hE := hel i hi
    rw [c1, Nat.mul_one, List.getElem?_eq_getElem (by omega)] at hE
    obtain ⟨z, e1, e2, _⟩ := DataW.trod_int Tryz.underlying252 hE
    have e4 : (xs.map (·.1))[i]? = (shaL.map fun n => (DataW.lit (.int .u32 (.ofNat n)) : DataW Unit))[i]? := by rw [e3]
    rw [List.getElem?_map, List.getElem?_map, List.getElem?_eq_getElem (by omega : i < xs.length), List.getElem?_eq_getElem (by omega : i < shaL.length), e2] at e4
    simp only [Option.map_some, Option.some.injEq, DataW.lit.injEq, Lit.int.injEq, true_and] at e4
    have h0 : ((cs.toList.drop i).take 1)[0]? = some (.int .u32 z) := by rw [e1]; rfl
    have h3 : cs[i]? = some (.int .u32 z) := by simpa using h0
    rw [Array.getElem?_eq_getElem h1] at h3
    rw [Option.some.inj h3, e4]
    simp [shaV]
  subst hcs
  have hm0 : MemPlace.cell 9 0 ∈ MemPlace.row ⟨9, 0, none⟩ shaV.size ++ p ++ q := by
    refine List.mem_append_left _ (List.mem_append_left _ ?_)
    rw [hV]
    exact List.mem_map.2 ⟨0, List.mem_range.2 (by omega), rfl⟩
  obtain ⟨⟨c, t, hc⟩, _⟩ := hrows 9 0 (List.mem_append_right _ (List.mem_append_right _ hm0))
  have : c = shaV := by
    have h2 : W.var? Tryz.prog "cofferdam/sha.constants" = some c := by unfold World.var?; rw [hg]; simp [hc]
    rw [h2] at hv; exact Option.some.inj hv
  subst this
  exact ⟨t, hc⟩

/-- The library's own number. -/
theorem most_of_shape {W : World} (h : W.ShapedOpen Tryz.prog) : ∃ m, W.heap[0]? = some (.cells #[.int .i64 m] 3 (0, 0)) := by
  have h0 : ((begin Tryz.prog (fun _ _ => 0) default).world.heap[0]?).bind Obj.row? = some (#[.int .i64 0], 3) := by kernel_rfl
  obtain ⟨m, hm⟩ := Go.Proofs.cell_of_shapedOpen_int (g := 0) (k := .i64) h (of_decide_eq_true (by kernel_rfl)) h0 rfl (by kernel_rfl) (by kernel_rfl) Tryz.underlying3
  obtain ⟨cs, hh, hs, _⟩ := h.1 0 #[.int .i64 0] 3 (of_decide_eq_true (by kernel_rfl)) h0
  refine ⟨m, ?_⟩
  have h1 : cs.size = 1 := hs
  have hc : W.cell? ⟨0, 0, none⟩ = some cs[0] := by simp [World.cell?, hh, h1]
  rw [hm] at hc
  have e : cs = #[.int .i64 m] := by
    refine Array.ext (by simpa using h1) (fun i hi1 hi2 => ?_)
    have : i = 0 := by omega
    subst this
    exact (Option.some.inj hc).symm
  rw [hh, e]

/-- What the row lists, but for the handle. -/
def listed : List (String × DataW Unit) := [("math/bits.deBruijn32tab", Rows.laid_math_bits_deBruijn32tab), ("math/bits.deBruijn64tab", Rows.laid_math_bits_deBruijn64tab), ("cofferdam/sha.constants", Rows.laid_cofferdam_sha_constants), ("internal/strconv.uint64pow10", Rows.laid_internal_strconv_uint64pow10), ("unicode/utf8.acceptRanges", Rows.laid_unicode_utf8_acceptRanges), ("strconv.ErrRange", Rows.laid_strconv_ErrRange), ("strconv.ErrSyntax", Rows.laid_strconv_ErrSyntax), ("unicode/utf8.first", Rows.laid_unicode_utf8_first)]
theorem listed_eq : (Rows.deskNilUptoRow.laid.filter fun x => x.2.handleName?.isNone) = listed := by kernel_rfl
/-- A start: the handle as the door lays it, the rest by the law. -/
noncomputable def start (os : Os) : World := (World.doorLaid Tryz.prog 100 os).layVars Tryz.prog listed
theorem start_os (os : Os) : (start os).os = os := World.layVars_os _ _ _
abbrev arg0 : Array Value := #[.string ⟨#[]⟩]
theorem start_listed (os : Os) : laidMet Tryz.prog listed (start os) := by
  have e1 : (listed.filter fun x => (listed.map (·.1)).contains x.1) = listed := List.filter_eq_self.2 fun x hx => List.contains_iff_mem.2 (List.mem_map.2 ⟨x, hx, rfl⟩)
  have e2 : (listed.filter fun x => !(listed.map (·.1)).contains x.1) = [] := List.filter_eq_nil_iff.2 fun x hx => by rw [List.contains_iff_mem.2 (List.mem_map.2 ⟨x, hx, rfl⟩)]; simp
  exact laidMet_layVars (w0 := World.doorLaid Tryz.prog 100 os) (listed.map (·.1)) [] (by rw [e1]; rfl) (by rw [e1]; kernel_rfl) (by rw [e1]; kernel_rfl) (by rw [e2]; exact LaidIn.none)
theorem door_met (os : Os) : laidMetH Tryz.prog Rows.deskNilUptoRow.laid ((start os).forCall (fun _ _ => 0) ⟨#[], arg0, []⟩).memory :=
  laidMetH_of_parts3 (fuel := 8) (by rw [listed_eq]; exact (start_listed os).of_heap (by simp [World.memory, World.forCall, Input.heap])) (by kernel_rfl) (by kernel_rfl)
theorem reads (os : Os) {H : Type} (enc : TypeId × Value → H) : ∃ places, DataW.whole enc Tryz.prog ((start os).forCall (fun _ _ => 0) ⟨#[], arg0, []⟩).memory Tryz.f3.params.toList Rows.deskNilSpec.vars false arg0.toList 8 = some ([.lit (.string [])], [], places) :=
  ⟨[], by kernel_rfl⟩
theorem shaped (os : Os) : ((start os).forCall (fun _ _ => 0) ⟨#[], arg0, []⟩).Shaped Tryz.prog := World.shaped_of_ZipB (by kernel_rfl) (by kernel_rfl)
theorem fits (os : Os) : Input.okWideB Tryz.prog ((start os).forCall (fun _ _ => 0) ⟨#[], arg0, []⟩) 3 ⟨#[], arg0, []⟩ = true := by kernel_rfl
end Go.Proofs.YtpppaheennkkpaaGreatDoor.deskNil
