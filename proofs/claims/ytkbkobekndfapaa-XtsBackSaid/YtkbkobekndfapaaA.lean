/- Laws on whole arrays: a literal, a load out of the middle of a row. -/
import Derived.Test.YtkbkobekndfapaaR
import Derived.Test.YtkbkobekndfapaaProg
import Derived.Test.YtkbkobekndfapaaM
namespace Go.Proofs.Ytkbkobekndfapaa
open Go.RowKit
section
variable {P : Program} {ops : Array Oper} {rest : List Oper} {o : Oper} {a : Act} {w : World} {Q : Exit → Act → World → Prop}

theorem wpList_lit (hg : o.guard = none) (t : TypeId) (parts : Array (Nat × Operand)) (ho : o.op = .build t parts) (cells : Array Value)
    (hf : P.built t (parts.map fun (i, x) => (i, a.eval x)).toList = some cells)
    (h : wpList P ops Q rest (a.put o.dst (.agg cells)) w) : wpList P ops Q (o :: rest) a w :=
  wpList_build hg t parts ho (by rw [hf]; rfl) (by rw [hf]; exact h)

theorem run_loadVar_at (w : World) (g off : Nat) (t ty : TypeId) (cs bs : Array Value) (fr : Nat × Nat) (d : TypeDesc) (hg : w.heap[g]? = some (.cells cs t fr))
    (hu : P.underlying ty = some d) (hd : (match d with | .struct _ | .array _ _ => true | _ => false) = true) (hi : (P.info? ty).map (·.size) = some bs.size)
    (hb : ∀ j v, bs[j]? = some v → cs[off + j]? = some v) :
    (loadVar ty ⟨g, off, none⟩).run P w = .ok (.agg bs) w := by
  have hl : (loadCells ⟨g, off, none⟩ bs.toList.length).run P w = .ok bs.toList.toArray w :=
    run_loadCells_list (P := P) w ⟨g, off, none⟩ bs.toList (fun j v hv => by
      have hadd : (⟨g, off, none⟩ : Addr).add j = ⟨g, off + j, none⟩ := by unfold Addr.add; split <;> simp_all
      rw [hadd, cell_of_row w g (off + j) cs t fr hg]
      exact hb j v (by simpa using hv))
  cases hq : P.info? ty with
  | none => simp [hq] at hi
  | some i =>
    have hs : i.size = bs.size := by simpa [hq] using hi
    have hagg : (isAgg ty).run P w = .ok true w := by
      unfold isAgg
      rw [Sem.run_bind, run_underlying hu w]
      cases d <;> simp_all
    simp only [Array.length_toList, Array.toArray_toList] at hl
    simp [loadVar, Sem.run_bind, hagg, sizeOf, typeInfo, hq, hs, hl]

theorem wpList_load_at (hgd : o.guard = none) (ty : TypeId) (x : Operand) (ho : o.op = .load ty x)
    (g off : Nat) (hx : a.eval x = .pointer (some ⟨g, off, none⟩)) (t : TypeId) (cs bs : Array Value) (fr : Nat × Nat) (d : TypeDesc) (hg : w.heap[g]? = some (.cells cs t fr))
    (hu : P.underlying ty = some d) (hd : (match d with | .struct _ | .array _ _ => true | _ => false) = true) (hi : (P.info? ty).map (·.size) = some bs.size)
    (hb : ∀ j v, bs[j]? = some v → cs[off + j]? = some v)
    (h : wpList P ops Q rest (a.put o.dst (.agg bs)) w) : wpList P ops Q (o :: rest) a w :=
  wpList_plain hgd fun _ hK => by
    unfold Oper.wp execOp
    simp only [ho, hx, Instr.loadAt, Instr.sureAddr, Sem.run_bind, Sem.run_pure, Result.andThen_ok, run_loadVar_at w g off t ty cs bs fr d hg hu hd hi hb]
    exact hK _ _ h
end
section
variable {ops : Array Oper} {rest : List Oper} {o : Oper} {a : Act} {w : World} {Q : Exit → Act → World → Prop}
theorem load16 (hgd : o.guard = none) (x : Operand) (ho : o.op = .load 23 x) (g off : Nat) (hx : a.eval x = .pointer (some ⟨g, off, none⟩))
    (t : TypeId) (cs : Array Value) (bs : List Nat) (h16 : bs.length = 16) (hg : w.heap[g]? = some (.cells cs t (0, 0))) (hb : ∀ j v, (bA bs)[j]? = some v → cs[off + j]? = some v)
    (h : wpList Try.prog ops Q rest (a.put o.dst (.agg (bA bs))) w) : wpList Try.prog ops Q (o :: rest) a w :=
  wpList_load_at hgd 23 x ho g off hx t cs (bA bs) (0, 0) _ hg Try.underlying23 rfl (by rw [bA_size, h16]; kernel_rfl) hb h
theorem load16w (hgd : o.guard = none) (x : Operand) (ho : o.op = .load 23 x) (g : Nat) (hx : a.eval x = .pointer (some ⟨g, 0, none⟩))
    (t : TypeId) (bs : List Nat) (h16 : bs.length = 16) (hg : w.heap[g]? = some (.cells (bA bs) t (0, 0)))
    (h : wpList Try.prog ops Q rest (a.put o.dst (.agg (bA bs))) w) : wpList Try.prog ops Q (o :: rest) a w :=
  load16 hgd x ho g 0 hx t (bA bs) bs h16 hg (fun j v hv => by rw [Nat.zero_add]; exact hv) h
theorem bA_one (l : List Nat) : (bA l).all (·.oneCell') = true := by
  rw [Array.all_eq_true_iff_forall_mem]
  intro x hx
  simp [bA] at hx
  obtain ⟨a, _, rfl⟩ := hx
  rfl
theorem store16 (hgd : o.guard = none) (x y : Operand) (ho : o.op = .store 23 x y) (g : Nat) (hx : a.eval x = .pointer (some ⟨g, 0, none⟩))
    (bs old : List Nat) (hy : a.eval y = .agg (bA bs)) (t : TypeId) (h16 : bs.length = 16) (h16' : old.length = 16) (hg : w.heap[g]? = some (.cells (bA old) t (0, 0)))
    (h : wpList Try.prog ops Q rest (a.put o.dst undef) (w.setRow g (bA bs))) : wpList Try.prog ops Q (o :: rest) a w :=
  wpList_store_row hgd 23 x y ho g (bA bs) hx hy t (bA old) hg (by rw [bA_size, h16]; kernel_rfl) (by rw [bA_size, bA_size, h16, h16']) (bA_one bs) h
theorem ret16 {fn : Func} {p : Tmp} (h : fn.results = #[.cell p 23]) (tmps : Array Value) (w : World) (g : Nat) (t : TypeId) (bs : List Nat)
    (hp : tmps.getD p undef = .pointer (some ⟨g, 0, none⟩)) (h16 : bs.length = 16) (hg : w.heap[g]? = some (.cells (bA bs) t (0, 0))) :
    (results fn tmps).run Try.prog w = .ok (.agg (bA bs)) w :=
  results_cell_row h tmps w g t (bA bs) (0, 0) _ hp hg Try.underlying23 rfl (by rw [bA_size, h16]; kernel_rfl)
end
theorem exec_load16 {o : Oper} {a : Act} (x : Operand) (ho : o.op = .load 23 x) (g off : Nat) (hx : a.eval x = .pointer (some ⟨g, off, none⟩))
    (t : TypeId) (cs : Array Value) (bs : List Nat) (h16 : bs.length = 16) (w : World) (hg : w.heap[g]? = some (.cells cs t (0, 0))) (hb : ∀ j v, (bA bs)[j]? = some v → cs[off + j]? = some v) :
    (execOp a.eval o).run Try.prog w = .ok (.value (.agg (bA bs))) w := by
  unfold execOp
  simp only [ho, hx, Instr.loadAt, Instr.sureAddr, Sem.run_bind, Sem.run_pure, Result.andThen_ok, run_loadVar_at w g off t 23 cs (bA bs) (0, 0) _ hg Try.underlying23 rfl (by rw [bA_size, h16]; kernel_rfl) hb]
theorem yieldsIn_load16 {ops : Array Oper} {C : World → Prop} {o : Oper} {a : Act} (hgd : o.guard = none) (x : Operand) (ho : o.op = .load 23 x) (g off : Nat) (hx : a.eval x = .pointer (some ⟨g, off, none⟩))
    (t : TypeId) (cs : Array Value) (bs : List Nat) (h16 : bs.length = 16) (hg : ∀ w, C w → w.heap[g]? = some (.cells cs t (0, 0))) (hb : ∀ j v, (bA bs)[j]? = some v → cs[off + j]? = some v) :
    YieldsIn Try.prog ops C o (.agg (bA bs)) a :=
  .inl ⟨by simp [Region.wanted, hgd], fun w hw => by
    unfold Oper.quietAt execOp
    simp only [ho, hx, Instr.loadAt, Instr.sureAddr, Sem.run_bind, Sem.run_pure, Result.andThen_ok, run_loadVar_at w g off t 23 cs (bA bs) (0, 0) _ (hg w hw) Try.underlying23 rfl (by rw [bA_size, h16]; kernel_rfl) hb]
    exact ⟨rfl, rfl⟩⟩
theorem quiet_load16 {ops : Array Oper} {C : World → Prop} {Q : Act → Prop} {o : Oper} {rest : List Oper} {a : Act} (hgd : Region.wanted o (yielded ops a.tmps) = true) (x : Operand) (ho : o.op = .load 23 x) (g off : Nat) (hx : a.eval x = .pointer (some ⟨g, off, none⟩))
    (t : TypeId) (cs : Array Value) (bs : List Nat) (h16 : bs.length = 16) (hg : ∀ w, C w → w.heap[g]? = some (.cells cs t (0, 0))) (hb : ∀ j v, (bA bs)[j]? = some v → cs[off + j]? = some v)
    (h : ∀ K : Act → Prop, (∀ a, wpQuiet Try.prog ops C Q rest a → K a) → K (a.put o.dst (.agg (bA bs)))) : wpQuiet Try.prog ops C Q (o :: rest) a :=
  wpQuiet_step fun K hK => by
    rw [if_pos hgd]
    exact ⟨.agg (bA bs), fun w hw => by
      unfold Oper.quietAt
      rw [exec_load16 x ho g off hx t cs bs h16 w (hg w hw) hb]
      exact ⟨rfl, rfl⟩, h K hK⟩
theorem run_buildSlice_lit (a0 a1 a2 a3 a4 a5 a6 a7 a8 a9 a10 a11 a12 a13 a14 a15 : Nat) (w : World) : (Instr.buildSlice 57 1 #[(0, .agg (bA [a0, a1, a2, a3, a4, a5, a6, a7, a8, a9, a10, a11, a12, a13, a14, a15]))]).run Try.prog w = .ok (.slice (some ⟨w.heap.size, 0, none⟩) 1 1) (w.alloc (.cells (bA [a0, a1, a2, a3, a4, a5, a6, a7, a8, a9, a10, a11, a12, a13, a14, a15]) 23)) := by kernel_rfl
theorem run_buildSlice16 (bs : List Nat) (h16 : bs.length = 16) (w : World) : (Instr.buildSlice 57 1 #[(0, .agg (bA bs))]).run Try.prog w = .ok (.slice (some ⟨w.heap.size, 0, none⟩) 1 1) (w.alloc (.cells (bA bs) 23)) := by
  have : ∀ bs : List Nat, bs.length = 16 → ∃ a0 a1 a2 a3 a4 a5 a6 a7 a8 a9 a10 a11 a12 a13 a14 a15, bs = [a0, a1, a2, a3, a4, a5, a6, a7, a8, a9, a10, a11, a12, a13, a14, a15] := by
    intro bs h
    match bs, h with
    | [a0, a1, a2, a3, a4, a5, a6, a7, a8, a9, a10, a11, a12, a13, a14, a15], _ => exact ⟨a0, a1, a2, a3, a4, a5, a6, a7, a8, a9, a10, a11, a12, a13, a14, a15, rfl⟩
  obtain ⟨a0, a1, a2, a3, a4, a5, a6, a7, a8, a9, a10, a11, a12, a13, a14, a15, rfl⟩ := this bs h16
  exact run_buildSlice_lit _ _ _ _ _ _ _ _ _ _ _ _ _ _ _ _ w
theorem wpList_build16 {ops : Array Oper} {rest : List Oper} {o : Oper} {a : Act} {w : World} {Q : Exit → Act → World → Prop} (hgd : o.guard = none) (x : Operand) (ho : o.op = .buildSlice 57 1 #[(0, x)]) (bs : List Nat) (h16 : bs.length = 16) (hx : a.eval x = .agg (bA bs))
    (h : wpList Try.prog ops Q rest (a.put o.dst (.slice (some ⟨w.heap.size, 0, none⟩) 1 1)) (w.alloc (.cells (bA bs) 23))) : wpList Try.prog ops Q (o :: rest) a w :=
  wpList_plain hgd fun _ hK => by
    unfold Oper.wp execOp
    simp only [ho, List.map_toArray, List.map_cons, List.map_nil, hx, Sem.run_bind, run_buildSlice16 bs h16, Result.andThen_ok]
    exact hK _ _ h
theorem info23 : (Try.prog.info? 23).map (fun i => (i.zero, i.size, i.bytes)) = some (some (.agg (bA (noughts 16))), 16, 16) := by kernel_rfl
theorem run_index_table (l : List Nat) (h256 : l.length = 256) (i : Nat) (hi : i < 256) (w : World) :
    (Instr.index 54 (.agg (bA l)) (.int .u8 (i : Int))).run Try.prog w = .ok (.int .u8 ((l.getD i 0 : Nat) : Int)) w := by
  have hg := bA_get (l := l) (i := i) (by omega)
  have hi2 : (i : Int) < 256 := by omega
  simp [Instr.index, go_sem]
  rw [if_pos hi, hg]
  simp [List.getD]
theorem run_slice16 {c : Nat} (hc : c < 4) : ∀ (w : World) (b : Nat), (Instr.sliceAt 23 (.pointer (some ⟨b, 0, none⟩)) (some (.int .i64 (4 * (c : Int)))) (some (.int .i64 (4 * (c : Int) + 4))) none).run Try.prog w =
    .ok (.slice (some ⟨b, 4 * c, none⟩) 4 (16 - 4 * c)) w := by
  intro w b
  obtain rfl | rfl | rfl | rfl : c = 0 ∨ c = 1 ∨ c = 2 ∨ c = 3 := by omega
  · kernel_rfl
  · kernel_rfl
  · kernel_rfl
  · kernel_rfl
theorem run_index_table64 (l : List Nat) (h256 : l.length = 256) (i : Nat) (hi : i < 256) (w : World) :
    (Instr.index 54 (.agg (bA l)) (.int .i64 (i : Int))).run Try.prog w = .ok (.int .u8 ((l.getD i 0 : Nat) : Int)) w := by
  have hg := bA_get (l := l) (i := i) (by omega)
  have hi2 : (i : Int) < 256 := by omega
  simp [Instr.index, go_sem]
  rw [if_pos hi, hg]
  simp [List.getD]
theorem run_array4 (w : World) (a : Addr) (n c : Nat) (h : 4 ≤ n) : (Instr.arrayAt 53 (.slice (some a) n c)).run Try.prog w = .ok (.pointer (some a)) w := by
  simp [Instr.arrayAt, go_sem]
  omega
theorem run_array16 (w : World) (a : Addr) (n c : Nat) (h : 16 ≤ n) : (Instr.arrayAt 23 (.slice (some a) n c)).run Try.prog w = .ok (.pointer (some a)) w := by
  simp [Instr.arrayAt, go_sem]
  omega
theorem blk_setRow {w : World} {g : Nat} {old cs : Array Value} {t : TypeId} {fr : Nat × Nat} (hg : w.heap[g]? = some (.cells old t fr)) : (w.setRow g cs).heap[g]? = some (.cells cs t fr) := setRow_heap w g old cs t fr hg
theorem blk_setRow_other {w : World} {g k : Nat} {cs : Array Value} {o : Obj} (hk : w.heap[k]? = some o) (h : k ≠ g) : (w.setRow g cs).heap[k]? = some o := (setRow_other w g k cs h).trans hk
end Go.Proofs.Ytkbkobekndfapaa
