/- VolumeNil: no volume says so, whatever was asked; the statement.
   Conditions: the card's own (sha.constants and errors.errorType as the program's text lays them). -/
import Derived.Test.YtphlklajljmgdaaGreatDoorXE
import Derived.Test.YtphlklajljmgdaaGreatDoorRows
import Derived.WalkKit
import Derived.ProofKit
import Derived.OpenShut
import Derived.Below
import Derived.LaidMore
import Derived.LaidSub
import Derived.LaidHandle
import Derived.Stop.Joined
namespace Go.Proofs.YtphlklajljmgdaaGreatDoor.volumeNil
open Go.ChangeShapes Go.WideShapes Go.ChangeAt Go.RowKit
open Go.Proofs.YtphlklajljmgdaaGreatDoor

theorem own : ownKnob Tryz.prog.godebug = none := by kernel_rfl
theorem laidOut : laidOutB Tryz.prog = true := by kernel_rfl

theorem one_of_okWide {P : Program} {w : World} {r : Reach} {base : Nat} {t : TypeId} {v : Value} (h : Cell.okWide P w r base t v) : v.oneCell' = true := by
  cases v with
  | agg x => exact absurd h (by unfold Cell.okWide Cell.ok; split <;> simp_all)
  | tuple x => exact absurd h (by unfold Cell.okWide Cell.ok; split <;> simp_all)
  | _ => rfl
theorem sha_of_laid {W : World} (h : laidMetH Tryz.prog Rows.volumeNilRow.laid W) : ∃ ty, W.heap[1]? = some (.cells shaV ty (0, 0)) := by
  obtain ⟨⟨ps, hl, _, hrows⟩, _⟩ := laidMetH_iff.1 h
  have e0 : (Rows.volumeNilRow.laid.filter fun x => x.2.handleName?.isNone) = [("cofferdam/sha.constants", Rows.laid_cofferdam_sha_constants)] := by kernel_rfl
  rw [e0] at hl
  obtain ⟨g, t, cs, fuel, p, q, hg, ht, hv, hd, _, rfl⟩ := hl
  obtain rfl := Option.some.inj ((show Tryz.prog.globalNamed "cofferdam/sha.constants" = some 1 by kernel_rfl).symm.trans hg)
  obtain rfl := Option.some.inj ((show (Tryz.prog.globals[1]?).map (·.type) = some 324 by kernel_rfl).symm.trans ht)
  obtain ⟨xs, m, _, ex, hlen, hl, hel⟩ := DataW.trod_array Tryz.underlying324 hd
  have c1 : Tryz.prog.cellsOf 307 = 1 := by kernel_rfl
  have c64 : Tryz.prog.cellsOf 324 = 64 := by kernel_rfl
  have hl64 : xs.length = 64 := by omega
  have e3 : (xs.map (·.1)) = shaL.map fun n => (DataW.lit (.int .u32 (.ofNat n)) : DataW Unit) := (DataW.agg.inj (Prod.mk.inj ex).1).symm
  have hL : shaL.length = 64 := by kernel_rfl
  have hV : shaV.size = 64 := by simp [shaV, hL]
  have hcs : cs = shaV := by
    refine Array.ext (by rw [c64] at hlen; simpa [hV] using hlen) fun i h1 h2 => ?_
    have hi : i < 64 := by omega
    have hE := hel i hi
    rw [c1, Nat.mul_one, List.getElem?_eq_getElem (by omega)] at hE
    obtain ⟨z, e1, e2, _⟩ := DataW.trod_int Tryz.underlying307 hE
    have e4 : (xs.map (·.1))[i]? = (shaL.map fun n => (DataW.lit (.int .u32 (.ofNat n)) : DataW Unit))[i]? := by rw [e3]
    rw [List.getElem?_map, List.getElem?_map, List.getElem?_eq_getElem (by omega : i < xs.length), List.getElem?_eq_getElem (by omega : i < shaL.length), e2] at e4
    simp only [Option.map_some, Option.some.injEq, DataW.lit.injEq, Lit.int.injEq, true_and] at e4
    have h0 : ((cs.toList.drop i).take 1)[0]? = some (.int .u32 z) := by rw [e1]; rfl
    have h3 : cs[i]? = some (.int .u32 z) := by simpa using h0
    rw [Array.getElem?_eq_getElem h1] at h3
    rw [Option.some.inj h3, e4]
    simp [shaV]
  subst hcs
  have hm : MemPlace.cell 1 0 ∈ MemPlace.row ⟨1, 0, none⟩ shaV.size ++ p ++ q := by
    refine List.mem_append_left _ (List.mem_append_left _ ?_)
    rw [hV]
    exact List.mem_map.2 ⟨0, List.mem_range.2 (by omega), rfl⟩
  obtain ⟨⟨c, t, hc⟩, _⟩ := hrows 1 0 hm
  have : c = shaV := by
    have h2 : W.var? Tryz.prog "cofferdam/sha.constants" = some c := by unfold World.var?; rw [hg]; simp [hc]
    rw [h2] at hv; exact Option.some.inj hv
  subst this
  exact ⟨t, hc⟩

theorem door_met (os : Os) (args : Array Value) : laidMetH Tryz.prog Rows.volumeNilRow.laid ((World.doorLaid Tryz.prog 100 os).forCall (fun _ _ => 0) ⟨#[], args, []⟩).memory :=
  laidMetH_of_parts3 (fuel := 8) (laidMet_of_run' 8 (by kernel_rfl) (by kernel_rfl)) (by kernel_rfl) (by kernel_rfl)

set_option maxRecDepth 100000 in
theorem lifted (os : Os) (started : os.Started) (H : Type) (enc : TypeId × Value → H) :
    ReturnsInHanded {} Tryz.checked os 3 .any (fun w args => (Rows.volumeNilSpec.pre enc Tryz.prog Tryz.f3 [] false w args ∧ laidMetH Tryz.prog Rows.volumeNilRow.laid w) ∧ sizedMet enc Tryz.prog Tryz.f3 (OpenSpec.ofChange Rows.volumeNilSpec) false w args)
      (Rows.volumeNilSpec.post enc Tryz.prog Tryz.f3 false true false false) := by
  refine returnsInHanded_of_change_and (C := Tryz.checked) (X := fun w _ => laidMetH Tryz.prog Rows.volumeNilRow.laid w) (fun _ _ _ hh h => h.of_heap hh) own started (by kernel_rfl) Tryz.func3
    (ChangeSpec.witness_shaped (enc := enc) (C := Tryz.checked) (os := os) (X := fun w _ => laidMetH Tryz.prog Rows.volumeNilRow.laid w) false (World.doorLaid Tryz.prog 100 os) #[.agg #[.int .i64 0, .int .i64 0, .int .i64 0, .slice none 0 0, .bool false]] 8 rfl (World.shaped_of_RefB (by kernel_rfl) (by kernel_rfl)) (by kernel_rfl) (by kernel_rfl) (by kernel_rfl) (door_met os _)) ?_
  intro W base args ds gs before hval0 hW _ _ hL _
  have hval : ∀ (j : Nat) t v, Tryz.f3.params[j]? = some t → args[j]? = some v → Value.okWide Tryz.prog W .any base t v := hval0
  have hW' := hW
  obtain ⟨p, q, hA0, hV, rfl, hfz, hnd⟩ := hW
  have hA : DataW.TrodAll enc Tryz.prog W 0 (fun _ => true) true Tryz.f3.params.toList args.toList ds p := hA0
  rw [Tryz.params3] at hA hval
  obtain ⟨v0, vs0, d0, ds0, p0, q0, hargs, rfl, rfl, h0, r0⟩ := trodAll_cons hA
  obtain ⟨rfl, rfl, rfl⟩ := trodAll_nil r0
  obtain rfl : args = #[v0] := by cases args; simp_all
  obtain ⟨rfl, rfl⟩ := trodVars_none hV
  have hv0 := hval 0 25 v0 rfl rfl
  obtain ⟨cs, rfl, hcs, hrow⟩ : ∃ cs, v0 = .agg cs ∧ cs.size = Tryz.prog.cellsOf 25 ∧ Row.okWide Tryz.prog W .any base 25 cs := by
    simpa only [Value.okWide, Tryz.underlying25] using hv0
  have hsz : cs.size = 5 := by rw [hcs]; kernel_rfl
  have k0 := h0
  have lt0 : ∀ x ∈ p0, x.block < W.heap.size := by obtain ⟨m, hm⟩ := k0; exact DataW.trod_lt m _ _ _ hm
  clear hA0 hval0
  have hone : ∀ v, v ∈ cs.toList → v.oneCell' = true := fun v hv => by
    obtain ⟨ts, _, _, hcell⟩ := hrow
    obtain ⟨i, hi⟩ := List.mem_iff_getElem?.1 hv
    obtain ⟨u, _, hu⟩ := hcell i v (by simpa using hi)
    exact one_of_okWide hu
  obtain ⟨ty, hsha⟩ := sha_of_laid hL
  refine (walk3 cs hsz hone W ty hsha).mono fun e W' ⟨he, bel⟩ => ?_
  subst he
  exact ⟨_, rfl, _, _, _, [], _, [], hW', trodAll_mk1 (shut_bool Tryz.underlying4 _), (trodAll_cons_mk (Below.trod laidOut (by kernel_rfl) (of_decide_eq_true (by kernel_rfl)) k0 bel lt0) trodAll_mk0), rfl, bel.frame _, fun h => by cases h⟩

theorem over : Rows.volumeNilRow.holds Tryz.pinned (OpenSpec.ofChange Rows.volumeNilSpec) :=
  OpenClaim.holds_of_wide 3 Tryz.f3 rfl rfl rfl rfl rfl rfl rfl ⟨rfl, rfl, rfl, rfl, rfl⟩ rfl rfl rfl rfl rfl (by kernel_rfl) Tryz.func3 (by kernel_rfl)
    (of_decide_eq_true (by kernel_rfl)) (by unfold Func.isWrapper; first | (rw [if_pos (by decide +kernel)]; kernel_rfl) | (rw [if_neg (by decide +kernel)]; exact ⟨rfl, rfl⟩))
    (fun os started H enc _ => lifted os started H enc)
end Go.Proofs.YtphlklajljmgdaaGreatDoor.volumeNil
