/- An argument that is an array of bytes, opened; the ciphers' answers where there is no cipher. -/
import Derived.Test.YtkbkobekndfapaaA
import Derived.OpenShut
namespace Go.Proofs.Ytkbkobekndfapaa
open Go.RowKit

theorem open_bytes {H : Type} {enc : TypeId × Value → H} {P : Program} {w : World} {base b0 : Nat} {spare : Nat → Bool} {held : Bool} {r : Reach} {t e : TypeId} {n : Nat} {v : Value} {d : DataW H} {ps : List MemPlace}
    (ht : P.underlying t = some (.array n e)) (he : P.underlying e = some (.int .u8)) (h1 : P.cellsOf e = 1) (hn : P.cellsOf t = n)
    (hval : Value.okWide P w r b0 t v) (hd : DataW.Trod enc P w base spare held t v d ps) : ∃ l, v = .agg (bA l) ∧ Bytes n l := by
  obtain ⟨cs, rfl, hcs, _⟩ : ∃ cs, v = .agg cs ∧ cs.size = P.cellsOf t ∧ Row.okWide P w r b0 t cs := by
    simpa only [Value.okWide, ht] using hval
  obtain ⟨fuel, hf⟩ := hd
  obtain ⟨xs, m, rfl, _, hlen, hxs, hat⟩ := DataW.trod_array ht hf
  have hsz : cs.size = n := by rw [hcs, hn]
  have hcell : ∀ i, i < n → ∃ x : Nat, cs[i]? = some (.int .u8 (x : Int)) ∧ x < 256 := by
    intro i hi
    have h := hat i hi
    rw [h1, List.getElem?_eq_getElem (by omega)] at h
    obtain ⟨z, hz, _, hw⟩ := DataW.trod_int he h
    simp only [Nat.mul_one, Value.cells] at hz
    have hi' : i < cs.toList.length := by simpa using (by omega : i < cs.size)
    rw [List.drop_eq_getElem_cons hi'] at hz
    simp only [List.take_succ_cons, List.take_zero, List.cons.injEq, and_true] at hz
    have hb : 0 ≤ z ∧ z < 256 := by
      simp [Lit.wf, IntKind.min, IntKind.max, IntKind.signed, IntKind.bits] at hw; omega
    refine ⟨z.toNat, ?_, by omega⟩
    rw [Array.getElem?_eq_getElem (by omega)]
    rw [Array.getElem_toList] at hz
    rw [hz, show ((z.toNat : Nat) : Int) = z from by omega]
  refine ⟨cs.toList.map (fun v => match v with | .int _ z => z.toNat | _ => 0), ?_, by simpa using hsz, ?_⟩
  · congr 1
    apply Array.ext
    · rw [bA_size]; simp
    · intro i g1 g2
      obtain ⟨x, hx, hlt⟩ := hcell i (by omega)
      rw [Array.getElem?_eq_getElem g1] at hx
      have hx' : cs[i] = .int .u8 (x : Int) := by simpa using hx
      simp [bA, hx']
  · intro x hx
    simp only [List.mem_map, Array.mem_toList_iff] at hx
    obtain ⟨v, hv, rfl⟩ := hx
    obtain ⟨i, hi, rfl⟩ := Array.mem_iff_getElem.1 hv
    obtain ⟨x, hx, hlt⟩ := hcell i (by omega)
    rw [Array.getElem?_eq_getElem hi] at hx
    have hx' : cs[i] = .int .u8 (x : Int) := by simpa using hx
    simp [hx', hlt]

section
variable {ops : Array Oper} {rest : List Oper} {o : Oper} {a : Act} {w : World} {Q : Exit → Act → World → Prop}
/-- A load of a whole block, behind a guard that lets it. -/
theorem load16g (hw : Region.wanted o (yielded ops a.tmps) = true) (x : Operand) (ho : o.op = .load 23 x) (g : Nat) (hx : a.eval x = .pointer (some ⟨g, 0, none⟩))
    (t : TypeId) (bs : List Nat) (h16 : bs.length = 16) (hg : w.heap[g]? = some (.cells (bA bs) t (0, 0)))
    (h : wpList Try.prog ops Q rest (a.put o.dst (.agg (bA bs))) w) : wpList Try.prog ops Q (o :: rest) a w :=
  wpList_step fun K hK => by
    rw [if_pos hw]
    unfold Oper.wp execOp
    simp only [ho, hx, Instr.loadAt, Instr.sureAddr, Sem.run_bind, Sem.run_pure, Result.andThen_ok, run_loadVar_at w g 0 t 23 (bA bs) (bA bs) (0, 0) _ hg Try.underlying23 rfl (by rw [bA_size, h16]; kernel_rfl) (fun j v hv => by rw [Nat.zero_add]; exact hv)]
    exact hK _ _ h
end
theorem encrypt_nil (l : List Nat) (_hl : Bytes 16 l) (w : World) : Calls Try.prog 16 #[.pointer none, .agg (bA l)] w fun e w' => e = .returned (.agg (bA (noughts 16))) ∧ Mod No w w' := by
  have hz : ∀ w, (zeroValue 23).run Try.prog w = .ok (.agg (bA (noughts 16))) w := fun _ => by kernel_rfl
  have hn := Lib.hid (noughts_bytes 16)
  go_enter Try.func16, Try.ntmps16
  generalize noughts 16 = z at *
  have hres : ((w.alloc (.cells (bA l) 23)).alloc (.cells (bA z) 23)).heap[w.heap.size + 1]? = some (.cells (bA z) 23 (0, 0)) := by have := blk_new (w.alloc (.cells (bA l) 23)) (.cells (bA z) 23); simpa using this
  have hr := Lib.hid hres
  clear hres
  go_wp2_with (refine store16 rfl _ _ rfl (w.heap.size + 1) rfl z z rfl 23 hn.out.1 hn.out.1 hr.out ?_; rw [alloc_setRow' (g := w.heap.size + 1) (w := w.alloc (.cells (bA l) 23)) (bA z) (bA z) 23 (by simp)])
  go_wp2_with fail
  refine bodyPost_ret (v := .agg (bA z)) (ret16 rfl _ _ (w.heap.size + 1) 23 z rfl hn.out.1 hr.out) rfl ⟨rfl, ((Mod.refl _ _).alloc _).alloc _⟩
theorem decrypt_nil (l : List Nat) (_hl : Bytes 16 l) (w : World) : Calls Try.prog 18 #[.pointer none, .agg (bA l)] w fun e w' => e = .returned (.agg (bA (noughts 16))) ∧ Mod No w w' := by
  have hz : ∀ w, (zeroValue 23).run Try.prog w = .ok (.agg (bA (noughts 16))) w := fun _ => by kernel_rfl
  have hn := Lib.hid (noughts_bytes 16)
  go_enter Try.func18, Try.ntmps18
  generalize noughts 16 = z at *
  have hres : ((w.alloc (.cells (bA l) 23)).alloc (.cells (bA z) 23)).heap[w.heap.size + 1]? = some (.cells (bA z) 23 (0, 0)) := by have := blk_new (w.alloc (.cells (bA l) 23)) (.cells (bA z) 23); simpa using this
  have hr := Lib.hid hres
  clear hres
  go_wp2_with (refine store16 rfl _ _ rfl (w.heap.size + 1) rfl z z rfl 23 hn.out.1 hn.out.1 hr.out ?_; rw [alloc_setRow' (g := w.heap.size + 1) (w := w.alloc (.cells (bA l) 23)) (bA z) (bA z) 23 (by simp)])
  go_wp2_with fail
  refine bodyPost_ret (v := .agg (bA z)) (ret16 rfl _ _ (w.heap.size + 1) 23 z rfl hn.out.1 hr.out) rfl ⟨rfl, ((Mod.refl _ _).alloc _).alloc _⟩
end Go.Proofs.Ytkbkobekndfapaa
