/- ServerNil: no server, or one that may not be, says so, whatever was asked; the statement.
   Conditions: the card's own (sha.constants and errors.errorType as the program's text lays them). -/
import Derived.Test.YtikmamcbngbipaaGreatDoorXE
import Derived.Test.YtikmamcbngbipaaGreatDoorRows
import Derived.WalkKit
import Derived.ProofKit
import Derived.OpenShut
import Derived.Below
import Derived.LaidMore
import Derived.LaidSub
import Derived.LaidHandle
import Derived.Stop.Joined
namespace Go.Proofs.YtikmamcbngbipaaGreatDoor.serverNil
open Go.ChangeShapes Go.WideShapes Go.ChangeAt Go.RowKit
open Go.Proofs.YtikmamcbngbipaaGreatDoor

theorem own : ownKnob Tryz.prog.godebug = none := by kernel_rfl
theorem laidOut : laidOutB Tryz.prog = true := by kernel_rfl

theorem one_of_okWide {P : Program} {w : World} {r : Reach} {base : Nat} {t : TypeId} {v : Value} (h : Cell.okWide P w r base t v) : v.oneCell' = true := by
  cases v with
  | agg x => exact absurd h (by unfold Cell.okWide Cell.ok; split <;> simp_all)
  | tuple x => exact absurd h (by unfold Cell.okWide Cell.ok; split <;> simp_all)
  | _ => rfl
theorem sha_of_laid {W : World} (h : laidMetH Tryz.prog Rows.serverNilRow.laid W) : ∃ ty, W.heap[1]? = some (.cells shaV ty (0, 0)) := by
  obtain ⟨⟨ps, hl, _, hrows⟩, _⟩ := laidMetH_iff.1 h
  have e0 : (Rows.serverNilRow.laid.filter fun x => x.2.handleName?.isNone) = [("cofferdam/sha.constants", Rows.laid_cofferdam_sha_constants)] := by kernel_rfl
  rw [e0] at hl
  obtain ⟨g, t, cs, fuel, p, q, hg, ht, hv, hd, _, rfl⟩ := hl
  obtain rfl := Option.some.inj ((show Tryz.prog.globalNamed "cofferdam/sha.constants" = some 1 by kernel_rfl).symm.trans hg)
  obtain rfl := Option.some.inj ((show (Tryz.prog.globals[1]?).map (·.type) = some 389 by kernel_rfl).symm.trans ht)
  obtain ⟨xs, m, _, ex, hlen, hl, hel⟩ := DataW.trod_array Tryz.underlying389 hd
  have c1 : Tryz.prog.cellsOf 385 = 1 := by kernel_rfl
  have c64 : Tryz.prog.cellsOf 389 = 64 := by kernel_rfl
  have hl64 : xs.length = 64 := by omega
  have e3 : (xs.map (·.1)) = shaL.map fun n => (DataW.lit (.int .u32 (.ofNat n)) : DataW Unit) := (DataW.agg.inj (Prod.mk.inj ex).1).symm
  have hL : shaL.length = 64 := by kernel_rfl
  have hV : shaV.size = 64 := by simp [shaV, hL]
  have hcs : cs = shaV := by
    refine Array.ext (by rw [c64] at hlen; simpa [hV] using hlen) fun i h1 h2 => ?_
    have hi : i < 64 := by omega
    have hE := hel i hi
    rw [c1, Nat.mul_one, List.getElem?_eq_getElem (by omega)] at hE
    obtain ⟨z, e1, e2, _⟩ := DataW.trod_int Tryz.underlying385 hE
    have e4 : (xs.map (·.1))[i]? = (shaL.map fun n => (DataW.lit (.int .u32 (.ofNat n)) : DataW Unit))[i]? := by rw [e3]
    rw [List.getElem?_map, List.getElem?_map, List.getElem?_eq_getElem (by omega : i < xs.length), List.getElem?_eq_getElem (by omega : i < shaL.length), e2] at e4
    simp only [Option.map_some, Option.some.injEq, DataW.lit.injEq, Lit.int.injEq, true_and] at e4
    have h0 : ((cs.toList.drop i).take 1)[0]? = some (.int .u32 z) := by rw [e1]; rfl
    have h3 : cs[i]? = some (.int .u32 z) := by simpa using h0
    rw [Array.getElem?_eq_getElem h1] at h3
    rw [Option.some.inj h3, e4]
    simp [shaV]
  subst hcs
  have hm : MemPlace.cell 1 0 ∈ MemPlace.row ⟨1, 0, none⟩ shaV.size ++ p ++ q := by
    refine List.mem_append_left _ (List.mem_append_left _ ?_)
    rw [hV]
    exact List.mem_map.2 ⟨0, List.mem_range.2 (by omega), rfl⟩
  obtain ⟨⟨c, t, hc⟩, _⟩ := hrows 1 0 hm
  have : c = shaV := by
    have h2 : W.var? Tryz.prog "cofferdam/sha.constants" = some c := by unfold World.var?; rw [hg]; simp [hc]
    rw [h2] at hv; exact Option.some.inj hv
  subst this
  exact ⟨t, hc⟩

theorem door_met (os : Os) (args : Array Value) : laidMetH Tryz.prog Rows.serverNilRow.laid ((World.doorLaid Tryz.prog 100 os).forCall (fun _ _ => 0) ⟨#[], args, []⟩).memory :=
  laidMetH_of_parts3 (fuel := 8) (laidMet_of_run' 8 (by kernel_rfl) (by kernel_rfl)) (by kernel_rfl) (by kernel_rfl)

set_option maxRecDepth 100000 in
theorem lifted (os : Os) (started : os.Started) (H : Type) (enc : TypeId × Value → H) :
    ReturnsInHanded {} Tryz.checked os 3 .any (fun w args => (Rows.serverNilSpec.pre enc Tryz.prog Tryz.f3 [] false w args ∧ laidMetH Tryz.prog Rows.serverNilRow.laid w) ∧ sizedMet enc Tryz.prog Tryz.f3 (OpenSpec.ofChange Rows.serverNilSpec) false w args)
      (Rows.serverNilSpec.post enc Tryz.prog Tryz.f3 false true false false) := by
  refine returnsInHanded_of_change_and (C := Tryz.checked) (X := fun w _ => laidMetH Tryz.prog Rows.serverNilRow.laid w) (fun _ _ _ hh h => h.of_heap hh) own started (by kernel_rfl) Tryz.func3
    (ChangeSpec.witness_shaped (enc := enc) (C := Tryz.checked) (os := os) (X := fun w _ => laidMetH Tryz.prog Rows.serverNilRow.laid w) false (World.doorLaid Tryz.prog 100 os) #[.int .i64 0, .slice none 0 0] 8 rfl (World.shaped_of_RefB (by kernel_rfl) (by kernel_rfl)) (by kernel_rfl) (by kernel_rfl) (by kernel_rfl) (door_met os _)) ?_
  intro W base args ds gs before hval0 hW _ _ hL _
  have hval : ∀ (j : Nat) t v, Tryz.f3.params[j]? = some t → args[j]? = some v → Value.okWide Tryz.prog W .any base t v := hval0
  have hW' := hW
  obtain ⟨p, q, hA0, hV, rfl, hfz, hnd⟩ := hW
  have hA : DataW.TrodAll enc Tryz.prog W 0 (fun _ => true) true Tryz.f3.params.toList args.toList ds p := hA0
  rw [Tryz.params3] at hA hval
  obtain ⟨v0, vs0, d0, ds0, p0, q0, hargs, rfl, rfl, h0, r0⟩ := trodAll_cons hA
  obtain ⟨v1, vs1, d1, ds1, p1, q1, rfl, rfl, rfl, h1, r1⟩ := trodAll_cons r0
  obtain ⟨rfl, rfl, rfl⟩ := trodAll_nil r1
  obtain rfl : args = #[v0, v1] := by cases args; simp_all
  obtain ⟨rfl, rfl⟩ := trodVars_none hV
  have hv0 := hval 0 3 v0 rfl rfl
  have hv1 := hval 1 22 v1 rfl rfl
  obtain ⟨n, rfl⟩ : ∃ n, v0 = .int .i64 n := by
    obtain ⟨n, rfl, _⟩ := open_int Tryz.underlying3 hv0 h0
    exact ⟨n, rfl⟩
  have hone : v1.oneCell' = true := by
    have h : Cell.okWide Tryz.prog W .any base 22 v1 := by simpa only [Value.okWide, Tryz.underlying22] using hv1
    exact one_of_okWide h
  have lt0 : ∀ x ∈ p0, x.block < W.heap.size := by obtain ⟨m, hm⟩ := h0; exact DataW.trod_lt m _ _ _ hm
  have lt1 : ∀ x ∈ p1, x.block < W.heap.size := by obtain ⟨m, hm⟩ := h1; exact DataW.trod_lt m _ _ _ hm
  clear hA0 hval0
  obtain ⟨ty, hsha⟩ := sha_of_laid hL
  refine (walk3 n v1 hone W ty hsha).mono fun e W' ⟨he, bel⟩ => ?_
  subst he
  exact ⟨_, rfl, _, _, _, [], _, [], hW', trodAll_mk1 (shut_bool Tryz.underlying4 _), (trodAll_cons_mk (Below.trod laidOut (by kernel_rfl) (of_decide_eq_true (by kernel_rfl)) h0 bel lt0) (trodAll_cons_mk (Below.trod laidOut (by kernel_rfl) (of_decide_eq_true (by kernel_rfl)) h1 bel lt1) trodAll_mk0)), rfl, bel.frame _, fun h => by cases h⟩

end Go.Proofs.YtikmamcbngbipaaGreatDoor.serverNil
