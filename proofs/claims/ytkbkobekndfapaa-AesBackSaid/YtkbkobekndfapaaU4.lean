/- AesBack: the walk and the statement. -/
import Derived.Test.YtkbkobekndfapaaRows
import Derived.Test.YtkbkobekndfapaaJ
import Derived.WalkKit
import Derived.ProofKit
import Derived.OpenShut
import Derived.ShutString
import Derived.ChangeOld
import Derived.Below
namespace Go.Proofs.Ytkbkobekndfapaa.aesBack
open Go.ChangeShapes Go.WideShapes Go.ChangeAt Go.RowKit
open Go.ChangeMaps (open_string shut_string)
open Go.Proofs.Ytkbkobekndfapaa
set_option linter.unusedVariables false

theorem own : ownKnob Try.prog.godebug = none := by kernel_rfl
theorem laidOut : laidOutB Try.prog = true := by kernel_rfl

set_option maxRecDepth 100000 in
set_option maxHeartbeats 4000000 in
theorem walk (key : List Nat) (long : Bool) (b : List Nat) (hk : Bytes 32 key) (hb : Bytes 16 b) (w : World) :
    Calls Try.prog 4 #[.agg (bA key), .bool long, .agg (bA b)] w fun e w' => e = .returned (.bool true) ∧ Below w.heap.size w w' := by
  have L0 := Lib.hid (show ((w.alloc (.cells (bA key) 34)).alloc (.cells (bA b) 23)).heap[w.heap.size]? = _ from blk_old (blk_new w (.cells (bA key) 34)))
  have L1 := Lib.hid (show ((w.alloc (.cells (bA key) 34)).alloc (.cells (bA b) 23)).heap[w.heap.size + 1]? = some (.cells (bA b) 23 (0, 0)) from by have := blk_new (w.alloc (.cells (bA key) 34)) (.cells (bA b) 23); simpa using this)
  have L2 := Lib.hid (((Mod.refl No w).alloc (.cells (bA key) 34)).alloc (.cells (bA b) 23))
  have hs1 := run_take34
  have hs2 := run_take34'
  cases long
  all_goals
    go_enter Try.func4, Try.ntmps4
    go_wp2_with fail
    generalize (w.alloc (.cells (bA key) 34)).alloc (.cells (bA b) 23) = wz at *
    refine (new_of _ w.heap.size key _ (by first | exact .inl rfl | exact .inr rfl) hk L0.out).mono ?_
    rintro e w1 ⟨pb, kb, c, cur, ks, m, rfl, hm, hci, hks, hm1⟩
    have J1 := Lib.hid (hm.blk L1.out (fun x => x))
    have J2 := Lib.hid (L2.out.then hm)
    have J3 := Lib.hid hci
    have e1 := dec_enc hks hm1 hb
    have e2 := enc_dec hks hm1 hb
    have g1 := enc_bytes hks hm1 hb
    have g2 := dec_bytes hks hm1 hb
    have heq := run_eq16 b b hb.1 hb.1
    rw [decide_eq_true rfl] at heq
    have c1 := Lib.hid (fun y : Later No w1 => encrypt_later hb J3.out y)
    have c2 := Lib.hid (fun y : Later No w1 => decrypt_later hb J3.out y)
    have c3 := Lib.hid (fun y : Later No w1 => encrypt_later g2 J3.out y)
    have c4 := Lib.hid (fun y : Later No w1 => decrypt_later g1 J3.out y)
    rw [e2] at c3
    rw [e1] at c4
    generalize enc ks b = x at *
    generalize dec ks b = z at *
    have c5 := Lib.hid (fun y : Later No w1 => alive_later y)
    clear L0 L1 L2 hm hci hks hm1 e1 e2 hs1 hs2
    go_wp2_with fail
    refine wp_region_laters (by kernel_rfl) (by kernel_rfl) ?_
    iterate 12 (go_big_quiet_step (exact c5.out _))
    (refine quiet_load16 rfl _ rfl (w.heap.size + 1) 0 rfl 23 (bA b) b hb.1 (fun w ⟨y, hy⟩ => by rw [hy]; exact y.ok.blk J1.out (fun x => x)) (fun j v hv => by rw [Nat.zero_add]; exact hv) (fun K hK => ?_); go_simp; refine hK _ ?_; clear hK K)
    iterate 1 (go_big_quiet_step (exact c1.out _))
    iterate 1 (go_big_quiet_step (exact c4.out _))
    (refine quiet_load16 rfl _ rfl (w.heap.size + 1) 0 rfl 23 (bA b) b hb.1 (fun w ⟨y, hy⟩ => by rw [hy]; exact y.ok.blk J1.out (fun x => x)) (fun j v hv => by rw [Nat.zero_add]; exact hv) (fun K hK => ?_); go_simp; refine hK _ ?_; clear hK K)
    iterate 5 (go_big_quiet_step (fail))
    (refine quiet_load16 rfl _ rfl (w.heap.size + 1) 0 rfl 23 (bA b) b hb.1 (fun w ⟨y, hy⟩ => by rw [hy]; exact y.ok.blk J1.out (fun x => x)) (fun j v hv => by rw [Nat.zero_add]; exact hv) (fun K hK => ?_); go_simp; refine hK _ ?_; clear hK K)
    iterate 1 (go_big_quiet_step (exact c2.out _))
    iterate 1 (go_big_quiet_step (exact c3.out _))
    (refine quiet_load16 rfl _ rfl (w.heap.size + 1) 0 rfl 23 (bA b) b hb.1 (fun w ⟨y, hy⟩ => by rw [hy]; exact y.ok.blk J1.out (fun x => x)) (fun j v hv => by rw [Nat.zero_add]; exact hv) (fun K hK => ?_); go_simp; refine hK _ ?_; clear hK K)
    repeat (go_big_quiet_step (fail))
    refine wpQuiet_nil ?_
    intro y
    go_wp2
    go_ret
    exact ⟨rfl, (J2.out.then y.ok).below⟩

/-! THE ROW's STEP -/
set_option maxRecDepth 100000 in
theorem lifted (os : Os) (started : os.Started) (H : Type) (enc : TypeId × Value → H) :
    ReturnsInHanded {} Try.checked os 4 .any (Rows.aesBackSpec.pre6 enc Try.prog Try.f4 Rows.aesBackRow.domain false) (Rows.aesBackSpec.post enc Try.prog Try.f4 false true false false) := by
  refine returnsInHanded_of_change (C := Try.checked) own started (by kernel_rfl) Try.func4
    (ChangeSpec.witness6 (enc := enc) (C := Try.checked) false ⟨#[], #[.agg (bA (noughts 32)), .bool false, .agg (bA (noughts 16))], []⟩ 8 (by kernel_rfl) (by kernel_rfl) (by kernel_rfl) (by kernel_rfl)) ?_
  intro W base args ds gs before hval0 hW hcnd _
  have hval : ∀ (j : Nat) t v, Try.f4.params[j]? = some t → args[j]? = some v → Value.okWide Try.prog W .any base t v := hval0
  have hW' := hW
  obtain ⟨p, q, hA0, hV, rfl, hfz, hnd⟩ := hW
  have hA : DataW.TrodAll enc Try.prog W 0 (fun _ => true) true Try.f4.params.toList args.toList ds p := hA0
  rw [Try.params4] at hA hval
  obtain ⟨v0, vs0, d0, ds0, p0, q0, hargs, rfl, rfl, h0, r0⟩ := trodAll_cons hA
  obtain ⟨v1, vs1, d1, ds1, p1, q1, rfl, rfl, rfl, h1, r1⟩ := trodAll_cons r0
  obtain ⟨v2, vs2, d2, ds2, p2, q2, rfl, rfl, rfl, h2, r2⟩ := trodAll_cons r1
  obtain ⟨rfl, rfl, rfl⟩ := trodAll_nil r2
  obtain rfl : args = #[v0, v1, v2] := by cases args; simp_all
  obtain ⟨rfl, rfl⟩ := trodVars_none hV
  have lt0 : ∀ x ∈ p0, x.block < W.heap.size := by obtain ⟨m, hm⟩ := h0; exact DataW.trod_lt m _ _ _ hm
  obtain ⟨a0, rfl, b0⟩ := open_bytes Try.underlying34 Try.underlying5 (by kernel_rfl) (by kernel_rfl) (hval 0 34 v0 rfl rfl) h0
  obtain ⟨a1, rfl, rfl, rfl⟩ := open_bool Try.underlying4 (hval 1 4 v1 rfl rfl) h1
  have lt2 : ∀ x ∈ p2, x.block < W.heap.size := by obtain ⟨m, hm⟩ := h2; exact DataW.trod_lt m _ _ _ hm
  obtain ⟨a2, rfl, b2⟩ := open_bytes Try.underlying23 Try.underlying5 (by kernel_rfl) (by kernel_rfl) (hval 2 23 v2 rfl rfl) h2
  clear hA0 hval0
  refine (walk a0 a1 a2 b0 b2 W).mono fun e W' ⟨he, bel⟩ => ?_
  subst he
  exact ⟨_, rfl, _, _, _, [], _, [], hW', trodAll_mk1 (shut_bool Try.underlying4 _), (trodAll_cons_mk (Below.trod laidOut (by kernel_rfl) (of_decide_eq_true (by kernel_rfl)) h0 bel lt0) (trodAll_cons_mk (shut_bool Try.underlying4 _) (trodAll_cons_mk (Below.trod laidOut (by kernel_rfl) (of_decide_eq_true (by kernel_rfl)) h2 bel lt2) trodAll_mk0))), rfl, bel.frame _, fun h => by cases h⟩

theorem over : Rows.aesBackRow.holds Try.pinned (OpenSpec.ofChange Rows.aesBackSpec) :=
  OpenClaim.holds_of_wide 4 Try.f4 rfl rfl rfl rfl rfl rfl rfl ⟨rfl, rfl, rfl, rfl, rfl⟩ rfl rfl rfl rfl rfl (by kernel_rfl) Try.func4 (by kernel_rfl)
    (of_decide_eq_true (by kernel_rfl)) (by unfold Func.isWrapper; first | (rw [if_pos (by decide +kernel)]; kernel_rfl) | (rw [if_neg (by decide +kernel)]; exact ⟨rfl, rfl⟩))
    (fun os started H enc _ => lifted os started H enc)

/-- THE STATEMENT -/
theorem proved : Rows.AesBackSaid := over
#print axioms proved
end Go.Proofs.Ytkbkobekndfapaa.aesBack
