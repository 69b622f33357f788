/- AesNil: the walk and the statement. -/
import Derived.Test.YtkbkobekndfapaaRows
import Derived.Test.YtkbkobekndfapaaH
import Derived.Test.YtkbkobekndfapaaO
import Derived.WalkKit
import Derived.ProofKit
import Derived.OpenShut
import Derived.ShutString
import Derived.ChangeOld
import Derived.Below
namespace Go.Proofs.Ytkbkobekndfapaa.aesNil
open Go.ChangeShapes Go.WideShapes Go.ChangeAt Go.RowKit
open Go.ChangeMaps (open_string shut_string)
open Go.Proofs.Ytkbkobekndfapaa
set_option linter.unusedVariables false

theorem own : ownKnob Try.prog.godebug = none := by kernel_rfl
theorem laidOut : laidOutB Try.prog = true := by kernel_rfl

set_option maxRecDepth 100000 in
set_option maxHeartbeats 4000000 in
theorem walk (b : List Nat) (hb : Bytes 16 b) (w : World) :
    Calls Try.prog 5 #[.agg (bA b)] w fun e w' => e = .returned (.bool true) ∧ Below w.heap.size w w' := by
  have hz : ∀ w, (zeroValue 23).run Try.prog w = .ok (.agg (bA (noughts 16))) w := fun _ => by kernel_rfl
  have hn := noughts_bytes 16
  have heq := run_eq16 (noughts 16) (noughts 16) hn.1 hn.1
  rw [decide_eq_true rfl] at heq
  go_enter Try.func5, Try.ntmps5
  go_wp2_with fail
  have L0 := Lib.hid (blk_new w (.cells (bA b) 23))
  have L1 := Lib.hid ((Mod.refl No w).alloc (.cells (bA b) 23))
  generalize w.alloc (.cells (bA b) 23) = wz at *
  refine (alive_any _).mono ?_
  rintro e w1 ⟨rfl, hm1⟩
  have J0 := Lib.hid (hm1.blk L0.out (fun x => x))
  have J1 := Lib.hid (L1.out.then hm1)
  clear L0 L1 hm1
  go_wp2_with (refine load16g rfl _ rfl w.heap.size rfl 23 b hb.1 J0.out ?_)
  refine (encrypt_nil b hb _).mono ?_
  rintro e w2 ⟨rfl, hm2⟩
  have I0 := Lib.hid (hm2.blk J0.out (fun x => x))
  have I1 := Lib.hid (J1.out.then hm2)
  clear J0 J1 hm2
  go_wp2_with (first
    | (refine load16g rfl _ rfl w.heap.size rfl 23 b hb.1 I0.out ?_))
  refine (decrypt_nil b hb _).mono ?_
  rintro e w3 ⟨rfl, hm3⟩
  go_wp2_with fail
  go_ret
  exact ⟨rfl, (I1.out.then hm3).below⟩

/-! THE ROW's STEP -/
set_option maxRecDepth 100000 in
theorem lifted (os : Os) (started : os.Started) (H : Type) (enc : TypeId × Value → H) :
    ReturnsInHanded {} Try.checked os 5 .any (Rows.aesNilSpec.pre6 enc Try.prog Try.f5 Rows.aesNilRow.domain false) (Rows.aesNilSpec.post enc Try.prog Try.f5 false true false false) := by
  refine returnsInHanded_of_change (C := Try.checked) own started (by kernel_rfl) Try.func5
    (ChangeSpec.witness6 (enc := enc) (C := Try.checked) false ⟨#[], #[.agg (bA (noughts 16))], []⟩ 8 (by kernel_rfl) (by kernel_rfl) (by kernel_rfl) (by kernel_rfl)) ?_
  intro W base args ds gs before hval0 hW hcnd _
  have hval : ∀ (j : Nat) t v, Try.f5.params[j]? = some t → args[j]? = some v → Value.okWide Try.prog W .any base t v := hval0
  have hW' := hW
  obtain ⟨p, q, hA0, hV, rfl, hfz, hnd⟩ := hW
  have hA : DataW.TrodAll enc Try.prog W 0 (fun _ => true) true Try.f5.params.toList args.toList ds p := hA0
  rw [Try.params5] at hA hval
  obtain ⟨v0, vs0, d0, ds0, p0, q0, hargs, rfl, rfl, h0, r0⟩ := trodAll_cons hA
  obtain ⟨rfl, rfl, rfl⟩ := trodAll_nil r0
  obtain rfl : args = #[v0] := by cases args; simp_all
  obtain ⟨rfl, rfl⟩ := trodVars_none hV
  have lt0 : ∀ x ∈ p0, x.block < W.heap.size := by obtain ⟨m, hm⟩ := h0; exact DataW.trod_lt m _ _ _ hm
  obtain ⟨b, rfl, hb⟩ := open_bytes Try.underlying23 Try.underlying5 (by kernel_rfl) (by kernel_rfl) (hval 0 23 v0 rfl rfl) h0
  clear hA0 hval0
  refine (walk b hb W).mono fun e W' ⟨he, bel⟩ => ?_
  subst he
  exact ⟨_, rfl, _, _, _, [], _, [], hW', trodAll_mk1 (shut_bool Try.underlying4 _), (trodAll_cons_mk (Below.trod laidOut (by kernel_rfl) (of_decide_eq_true (by kernel_rfl)) h0 bel lt0) trodAll_mk0), rfl, bel.frame _, fun h => by cases h⟩

theorem over : Rows.aesNilRow.holds Try.pinned (OpenSpec.ofChange Rows.aesNilSpec) :=
  OpenClaim.holds_of_wide 5 Try.f5 rfl rfl rfl rfl rfl rfl rfl ⟨rfl, rfl, rfl, rfl, rfl⟩ rfl rfl rfl rfl rfl (by kernel_rfl) Try.func5 (by kernel_rfl)
    (of_decide_eq_true (by kernel_rfl)) (by unfold Func.isWrapper; first | (rw [if_pos (by decide +kernel)]; kernel_rfl) | (rw [if_neg (by decide +kernel)]; exact ⟨rfl, rfl⟩))
    (fun os started H enc _ => lifted os started H enc)

/-- THE STATEMENT -/
theorem proved : Rows.AesNilSaid := over
#print axioms proved
end Go.Proofs.Ytkbkobekndfapaa.aesNil
