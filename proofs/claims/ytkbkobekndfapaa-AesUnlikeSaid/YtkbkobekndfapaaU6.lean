/- AesUnlike: the walk and the statement. -/
import Derived.Test.YtkbkobekndfapaaRows
import Derived.Test.YtkbkobekndfapaaJ
import Derived.WalkKit
import Derived.ProofKit
import Derived.OpenShut
import Derived.ShutString
import Derived.ChangeOld
import Derived.Below
namespace Go.Proofs.Ytkbkobekndfapaa.aesUnlike
open Go.ChangeShapes Go.WideShapes Go.ChangeAt Go.RowKit
open Go.ChangeMaps (open_string shut_string)
open Go.Proofs.Ytkbkobekndfapaa
set_option linter.unusedVariables false

theorem own : ownKnob Try.prog.godebug = none := by kernel_rfl
theorem laidOut : laidOutB Try.prog = true := by kernel_rfl

set_option maxRecDepth 100000 in
set_option maxHeartbeats 8000000 in
theorem walk (key a b : List Nat) (hk : Bytes 32 key) (ha : Bytes 16 a) (hb : Bytes 16 b) (w : World) :
    Calls Try.prog 6 #[.agg (bA key), .agg (bA a), .agg (bA b)] w fun e w' => e = .returned (.bool true) ∧ Below w.heap.size w w' := by
  have L0 := Lib.hid (show (((w.alloc (.cells (bA key) 34)).alloc (.cells (bA a) 23)).alloc (.cells (bA b) 23)).heap[w.heap.size]? = _ from blk_old (blk_old (blk_new w (.cells (bA key) 34))))
  have L1 := Lib.hid (show (((w.alloc (.cells (bA key) 34)).alloc (.cells (bA a) 23)).alloc (.cells (bA b) 23)).heap[w.heap.size + 1]? = some (.cells (bA a) 23 (0, 0)) from blk_old (by have := blk_new (w.alloc (.cells (bA key) 34)) (.cells (bA a) 23); simpa using this))
  have L2 := Lib.hid (show (((w.alloc (.cells (bA key) 34)).alloc (.cells (bA a) 23)).alloc (.cells (bA b) 23)).heap[w.heap.size + 2]? = some (.cells (bA b) 23 (0, 0)) from by have := blk_new ((w.alloc (.cells (bA key) 34)).alloc (.cells (bA a) 23)) (.cells (bA b) 23); simpa using this)
  have L3 := Lib.hid ((((Mod.refl No w).alloc (.cells (bA key) 34)).alloc (.cells (bA a) 23)).alloc (.cells (bA b) 23))
  have hs1 := run_take34
  have hs2 := run_all34
  go_enter Try.func6, Try.ntmps6
  go_wp2_with fail
  generalize ((w.alloc (.cells (bA key) 34)).alloc (.cells (bA a) 23)).alloc (.cells (bA b) 23) = wz at *
  refine (new_of _ w.heap.size key _ (.inr rfl) hk L0.out).mono ?_
  rintro e w1 ⟨pb, kb, c, cur, ks, m, rfl, hm, hci, hks, hm1⟩
  have M0 := Lib.hid (hm.blk L0.out (fun x => x))
  have M1 := Lib.hid (hm.blk L1.out (fun x => x))
  have M2 := Lib.hid (hm.blk L2.out (fun x => x))
  have M3 := Lib.hid (L3.out.then hm)
  have M4 := Lib.hid hci
  clear L0 L1 L2 L3 hm hci hs2
  go_wp2_with fail
  refine (new_of _ w.heap.size key _ (.inl rfl) hk M0.out).mono ?_
  rintro e w2 ⟨pb2, kb2, c2, cur2, ks2, m2, rfl, hm, hci, hks2, hm2⟩
  have J1 := Lib.hid (hm.blk M1.out (fun x => x))
  have J2 := Lib.hid (hm.blk M2.out (fun x => x))
  have J3 := Lib.hid (M3.out.then hm)
  have J4 := Lib.hid (M4.out.later hm (fun x => x) (fun x => x))
  have J5 := Lib.hid hci
  clear M0 M1 M2 M3 M4 hm hci hs1
  have q0 := run_eq16 a b ha.1 hb.1
  have q1 := run_eq16 (enc ks a) (enc ks b) (enc_bytes hks hm1 ha).1 (enc_bytes hks hm1 hb).1
  have q2 := run_eq16 (enc ks2 a) (enc ks2 b) (enc_bytes hks2 hm2 ha).1 (enc_bytes hks2 hm2 hb).1
  have q3 := run_eq16 (dec ks a) (dec ks b) (dec_bytes hks hm1 ha).1 (dec_bytes hks hm1 hb).1
  rw [enc_same hks hm1 ha hb] at q1
  rw [enc_same hks2 hm2 ha hb] at q2
  rw [dec_same hks hm1 ha hb] at q3
  have a1 := Lib.hid (fun y : Later No w2 => encrypt_later ha J4.out y)
  have a2 := Lib.hid (fun y : Later No w2 => encrypt_later hb J4.out y)
  have a3 := Lib.hid (fun y : Later No w2 => encrypt_later ha J5.out y)
  have a4 := Lib.hid (fun y : Later No w2 => encrypt_later hb J5.out y)
  have a5 := Lib.hid (fun y : Later No w2 => decrypt_later ha J4.out y)
  have a6 := Lib.hid (fun y : Later No w2 => decrypt_later hb J4.out y)
  have a7 := Lib.hid (fun y : Later No w2 => alive_later y)
  generalize decide (a = b) = q at *
  generalize enc ks a = x1 at *
  generalize enc ks b = x2 at *
  generalize enc ks2 a = x3 at *
  generalize enc ks2 b = x4 at *
  generalize dec ks a = x5 at *
  generalize dec ks b = x6 at *
  clear hks hks2 hm1 hm2
  cases q
  all_goals
    go_wp2_with fail
    refine wp_region_laters (by kernel_rfl) (by kernel_rfl) ?_
    iterate 3 (go_big_quiet_step (exact a7.out _))
    (refine quiet_load16 rfl _ rfl (w.heap.size + 1) 0 rfl 23 (bA a) a ha.1 (fun w ⟨y, hy⟩ => by rw [hy]; exact y.ok.blk J1.out (fun x => x)) (fun j v hv => by rw [Nat.zero_add]; exact hv) (fun K hK => ?_); go_simp; refine hK _ ?_; clear hK K)
    iterate 2 (go_big_quiet_step (exact a1.out _))
    (refine quiet_load16 rfl _ rfl (w.heap.size + 2) 0 rfl 23 (bA b) b hb.1 (fun w ⟨y, hy⟩ => by rw [hy]; exact y.ok.blk J2.out (fun x => x)) (fun j v hv => by rw [Nat.zero_add]; exact hv) (fun K hK => ?_); go_simp; refine hK _ ?_; clear hK K)
    iterate 2 (go_big_quiet_step (exact a2.out _))
    (refine quiet_load16 rfl _ rfl (w.heap.size + 1) 0 rfl 23 (bA a) a ha.1 (fun w ⟨y, hy⟩ => by rw [hy]; exact y.ok.blk J1.out (fun x => x)) (fun j v hv => by rw [Nat.zero_add]; exact hv) (fun K hK => ?_); go_simp; refine hK _ ?_; clear hK K)
    (refine quiet_load16 rfl _ rfl (w.heap.size + 2) 0 rfl 23 (bA b) b hb.1 (fun w ⟨y, hy⟩ => by rw [hy]; exact y.ok.blk J2.out (fun x => x)) (fun j v hv => by rw [Nat.zero_add]; exact hv) (fun K hK => ?_); go_simp; refine hK _ ?_; clear hK K)
    iterate 5 (go_big_quiet_step (fail))
    (refine quiet_load16 rfl _ rfl (w.heap.size + 1) 0 rfl 23 (bA a) a ha.1 (fun w ⟨y, hy⟩ => by rw [hy]; exact y.ok.blk J1.out (fun x => x)) (fun j v hv => by rw [Nat.zero_add]; exact hv) (fun K hK => ?_); go_simp; refine hK _ ?_; clear hK K)
    iterate 2 (go_big_quiet_step (exact a3.out _))
    (refine quiet_load16 rfl _ rfl (w.heap.size + 2) 0 rfl 23 (bA b) b hb.1 (fun w ⟨y, hy⟩ => by rw [hy]; exact y.ok.blk J2.out (fun x => x)) (fun j v hv => by rw [Nat.zero_add]; exact hv) (fun K hK => ?_); go_simp; refine hK _ ?_; clear hK K)
    iterate 2 (go_big_quiet_step (exact a4.out _))
    (refine quiet_load16 rfl _ rfl (w.heap.size + 1) 0 rfl 23 (bA a) a ha.1 (fun w ⟨y, hy⟩ => by rw [hy]; exact y.ok.blk J1.out (fun x => x)) (fun j v hv => by rw [Nat.zero_add]; exact hv) (fun K hK => ?_); go_simp; refine hK _ ?_; clear hK K)
    (refine quiet_load16 rfl _ rfl (w.heap.size + 2) 0 rfl 23 (bA b) b hb.1 (fun w ⟨y, hy⟩ => by rw [hy]; exact y.ok.blk J2.out (fun x => x)) (fun j v hv => by rw [Nat.zero_add]; exact hv) (fun K hK => ?_); go_simp; refine hK _ ?_; clear hK K)
    iterate 5 (go_big_quiet_step (fail))
    (refine quiet_load16 rfl _ rfl (w.heap.size + 1) 0 rfl 23 (bA a) a ha.1 (fun w ⟨y, hy⟩ => by rw [hy]; exact y.ok.blk J1.out (fun x => x)) (fun j v hv => by rw [Nat.zero_add]; exact hv) (fun K hK => ?_); go_simp; refine hK _ ?_; clear hK K)
    iterate 2 (go_big_quiet_step (exact a5.out _))
    (refine quiet_load16 rfl _ rfl (w.heap.size + 2) 0 rfl 23 (bA b) b hb.1 (fun w ⟨y, hy⟩ => by rw [hy]; exact y.ok.blk J2.out (fun x => x)) (fun j v hv => by rw [Nat.zero_add]; exact hv) (fun K hK => ?_); go_simp; refine hK _ ?_; clear hK K)
    iterate 2 (go_big_quiet_step (exact a6.out _))
    (refine quiet_load16 rfl _ rfl (w.heap.size + 1) 0 rfl 23 (bA a) a ha.1 (fun w ⟨y, hy⟩ => by rw [hy]; exact y.ok.blk J1.out (fun x => x)) (fun j v hv => by rw [Nat.zero_add]; exact hv) (fun K hK => ?_); go_simp; refine hK _ ?_; clear hK K)
    (refine quiet_load16 rfl _ rfl (w.heap.size + 2) 0 rfl 23 (bA b) b hb.1 (fun w ⟨y, hy⟩ => by rw [hy]; exact y.ok.blk J2.out (fun x => x)) (fun j v hv => by rw [Nat.zero_add]; exact hv) (fun K hK => ?_); go_simp; refine hK _ ?_; clear hK K)
    repeat (go_big_quiet_step (fail))
    refine wpQuiet_nil ?_
    intro y
    go_wp2
    go_ret
    exact ⟨rfl, (J3.out.then y.ok).below⟩

/-! THE ROW's STEP -/
set_option maxRecDepth 100000 in
theorem lifted (os : Os) (started : os.Started) (H : Type) (enc : TypeId × Value → H) :
    ReturnsInHanded {} Try.checked os 6 .any (Rows.aesUnlikeSpec.pre6 enc Try.prog Try.f6 Rows.aesUnlikeRow.domain false) (Rows.aesUnlikeSpec.post enc Try.prog Try.f6 false true false false) := by
  refine returnsInHanded_of_change (C := Try.checked) own started (by kernel_rfl) Try.func6
    (ChangeSpec.witness6 (enc := enc) (C := Try.checked) false ⟨#[], #[.agg (bA (noughts 32)), .agg (bA (noughts 16)), .agg (bA (noughts 16))], []⟩ 8 (by kernel_rfl) (by kernel_rfl) (by kernel_rfl) (by kernel_rfl)) ?_
  intro W base args ds gs before hval0 hW hcnd _
  have hval : ∀ (j : Nat) t v, Try.f6.params[j]? = some t → args[j]? = some v → Value.okWide Try.prog W .any base t v := hval0
  have hW' := hW
  obtain ⟨p, q, hA0, hV, rfl, hfz, hnd⟩ := hW
  have hA : DataW.TrodAll enc Try.prog W 0 (fun _ => true) true Try.f6.params.toList args.toList ds p := hA0
  rw [Try.params6] at hA hval
  obtain ⟨v0, vs0, d0, ds0, p0, q0, hargs, rfl, rfl, h0, r0⟩ := trodAll_cons hA
  obtain ⟨v1, vs1, d1, ds1, p1, q1, rfl, rfl, rfl, h1, r1⟩ := trodAll_cons r0
  obtain ⟨v2, vs2, d2, ds2, p2, q2, rfl, rfl, rfl, h2, r2⟩ := trodAll_cons r1
  obtain ⟨rfl, rfl, rfl⟩ := trodAll_nil r2
  obtain rfl : args = #[v0, v1, v2] := by cases args; simp_all
  obtain ⟨rfl, rfl⟩ := trodVars_none hV
  have lt0 : ∀ x ∈ p0, x.block < W.heap.size := by obtain ⟨m, hm⟩ := h0; exact DataW.trod_lt m _ _ _ hm
  obtain ⟨a0, rfl, b0⟩ := open_bytes Try.underlying34 Try.underlying5 (by kernel_rfl) (by kernel_rfl) (hval 0 34 v0 rfl rfl) h0
  have lt1 : ∀ x ∈ p1, x.block < W.heap.size := by obtain ⟨m, hm⟩ := h1; exact DataW.trod_lt m _ _ _ hm
  obtain ⟨a1, rfl, b1⟩ := open_bytes Try.underlying23 Try.underlying5 (by kernel_rfl) (by kernel_rfl) (hval 1 23 v1 rfl rfl) h1
  have lt2 : ∀ x ∈ p2, x.block < W.heap.size := by obtain ⟨m, hm⟩ := h2; exact DataW.trod_lt m _ _ _ hm
  obtain ⟨a2, rfl, b2⟩ := open_bytes Try.underlying23 Try.underlying5 (by kernel_rfl) (by kernel_rfl) (hval 2 23 v2 rfl rfl) h2
  clear hA0 hval0
  refine (walk a0 a1 a2 b0 b1 b2 W).mono fun e W' ⟨he, bel⟩ => ?_
  subst he
  exact ⟨_, rfl, _, _, _, [], _, [], hW', trodAll_mk1 (shut_bool Try.underlying4 _), (trodAll_cons_mk (Below.trod laidOut (by kernel_rfl) (of_decide_eq_true (by kernel_rfl)) h0 bel lt0) (trodAll_cons_mk (Below.trod laidOut (by kernel_rfl) (of_decide_eq_true (by kernel_rfl)) h1 bel lt1) (trodAll_cons_mk (Below.trod laidOut (by kernel_rfl) (of_decide_eq_true (by kernel_rfl)) h2 bel lt2) trodAll_mk0))), rfl, bel.frame _, fun h => by cases h⟩

theorem over : Rows.aesUnlikeRow.holds Try.pinned (OpenSpec.ofChange Rows.aesUnlikeSpec) :=
  OpenClaim.holds_of_wide 6 Try.f6 rfl rfl rfl rfl rfl rfl rfl ⟨rfl, rfl, rfl, rfl, rfl⟩ rfl rfl rfl rfl rfl (by kernel_rfl) Try.func6 (by kernel_rfl)
    (of_decide_eq_true (by kernel_rfl)) (by unfold Func.isWrapper; first | (rw [if_pos (by decide +kernel)]; kernel_rfl) | (rw [if_neg (by decide +kernel)]; exact ⟨rfl, rfl⟩))
    (fun os started H enc _ => lifted os started H enc)

/-- THE STATEMENT -/
theorem proved : Rows.AesUnlikeSaid := over
#print axioms proved
end Go.Proofs.Ytkbkobekndfapaa.aesUnlike
