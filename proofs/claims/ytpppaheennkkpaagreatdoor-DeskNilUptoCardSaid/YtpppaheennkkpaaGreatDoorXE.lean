/- No desk: a line thrown at it comes back as an error. -/
import Derived.Test.YtpppaheennkkpaaGreatDoorXA
import Derived.Tactics2
import Derived.KernelRfl
import Derived.WalkKit
import Derived.Below
import Derived.Laws.Pointers
import Derived.Shelf.Strings.FieldsFuncGrows
import Derived.Shelf.Strings.Shaped
import Derived.Shelf.Strings.Builder1
import Derived.Test.YtpppaheennkkpaaGreatDoorProg
namespace Go.Proofs.YtpppaheennkkpaaGreatDoor
open Go.RowKit Go.Shelf

theorem space_ok (w : World) : PredGrows Tryz.prog 8 #[] (fun x => x == 32) w := by
  intro W x hx _
  show Calls Tryz.prog 8 #[encR x] W _
  unfold encR
  go_enter Tryz.func8, Tryz.ntmps8
  go_wp2_with fail
  go_ret
  refine ⟨?_, .refl _ _⟩
  show Ending.returned (.bool ((x : Int) == 32)) = .returned (.bool (x == 32))
  congr 2
  rw [Bool.eq_iff_iff]
  simp only [beq_iff_eq]
  omega

theorem must_no (w : World) : Calls Tryz.prog 9 #[.bool false, .int .i64 1] w fun e w' => e = .panicked [{ v := .iface 29 (.agg #[.int .i64 1]), recovered := false }] ∧ w' = w := by
  go_enter Tryz.func9, Tryz.ntmps9
  go_wp2_with fail
  have hp : (Instr.panic (.iface 29 (.agg #[.int .i64 1]))).run Tryz.prog w = .halt (.panic (.iface 29 (.agg #[.int .i64 1]))) w := by kernel_rfl
  rw [hp]
  exact ⟨rfl, rfl, rfl⟩

set_option maxRecDepth 100000 in
/-- The deferred closure catches it: an empty answer, its number. -/
theorem catch6 (p q : Addr) (u v : Value) (older : List PanicEntry) (B : Nat) (w : World) (hp : w.cell? p = some u) (hq : w.cell? q = some v) (zp : w.frozen? p = false) (zq : w.frozen? q = false) (hne : p.block ≠ q.block) (hB : B ≤ w.heap.size) (hBp : B ≤ p.block) (hBq : B ≤ q.block) :
    CallsD Tryz.prog 6 #[.pointer (some p), .pointer (some q)] (.panicking ({ v := .iface 29 (.agg #[.int .i64 1]), recovered := false } :: older)) w fun e u' w' =>
      (∃ v, e = .returned v) ∧ u' = .panicking ({ v := .iface 29 (.agg #[.int .i64 1]), recovered := true } :: older) ∧ w'.cell? p = some (.string ⟨#[]⟩) ∧ w'.cell? q = some (.int .i64 1) ∧ Below B w w' := by
  refine callsD_of_wpS Tryz.func6 rfl fun c₀ cs hu => ?_
  apply wpS_seq
  apply wpS_region
  simp [wpOpsS, go_sem, recoverD, hu, Tryz.ntmps6, Exit.thenS]
  apply wpS_seq
  apply wpS_region
  simp [wpOpsS, go_sem, Exit.thenS, Tryz.underlying20]
  refine wpS_cond (t := true) (by simp [Act.eval, Array.replicate]) ?_
  simp only [if_true]
  refine wpS_of_wp ?_
  have hta : ∀ w, (Instr.typeAssert (.iface 29 (.agg #[.int .i64 1])) 20 29 true).run Tryz.prog w = .ok (.tuple #[.agg #[.int .i64 1], .bool true]) w := fun w => by kernel_rfl
  simp only [Array.replicate_succ, Array.replicate_zero, List.push_toArray, List.append_toArray, List.nil_append, List.cons_append, List.setIfInBounds_toArray, List.set_cons_succ, List.set_cons_zero, List.set]
  go_wp2_with fail
  have lt : ∀ (a : Addr) (x : Value), w.cell? a = some x → a.block < w.heap.size := fun a x h => by
    rcases Nat.lt_or_ge a.block w.heap.size with k | k
    · exact k
    · simp [World.cell?, Array.getElem?_eq_none k] at h
  have b0 := (Below.refl w.heap.size w).alloc (Nat.le_refl _) (.cells #[.int .i64 1] 29)
  have c0 : (w.alloc (.cells #[.int .i64 1] 29)).cell? ⟨w.heap.size, 0, none⟩ = some (.int .i64 1) := by simp [go_sem]
  have c1 := (b0.cell (lt p u hp)).trans hp
  have c2 := (b0.cell (lt q v hq)).trans hq
  have z1 := (b0.frozen (lt p u hp)).trans zp
  have z2 := (b0.frozen (lt q v hq)).trans zq
  have b1 := (Below.refl B w).alloc hB (.cells #[.int .i64 1] 29)
  have np : w.heap.size ≠ p.block := Nat.ne_of_gt (lt p u hp)
  clear b0 lt
  generalize w.alloc (.cells #[.int .i64 1] 29) = w1 at *
  have d1 : (w1.setCell p (.string ⟨#[]⟩)).cell? ⟨w.heap.size, 0, none⟩ = some (.int .i64 1) := (World.cell?_of_block (w := w1) (Below.heap_setCell w1 p _ _ np)).trans c0
  have d2 : (w1.setCell p (.string ⟨#[]⟩)).cell? q = some v := (World.cell?_of_block (w := w1) (Below.heap_setCell w1 p _ _ (fun e => hne e.symm))).trans c2
  have d3 : (w1.setCell p (.string ⟨#[]⟩)).frozen? q = false := (World.frozen?_of_block (w := w1) (Below.heap_setCell w1 p _ _ (fun e => hne e.symm))).trans z2
  go_region
  have f1 : ((w1.setCell p (.string ⟨#[]⟩)).setCell q (.int .i64 1)).cell? p = some (.string ⟨#[]⟩) := (World.cell?_of_block (w := w1.setCell p (.string ⟨#[]⟩)) (Below.heap_setCell _ q _ _ hne)).trans (World.cell?_setCell_same _ _ _ c1)
  have f2 : ((w1.setCell p (.string ⟨#[]⟩)).setCell q (.int .i64 1)).cell? q = some (.int .i64 1) := World.cell?_setCell_same _ _ _ d2
  exact ⟨rfl, _, rfl, _, results_none Tryz.results6 _ _ _, ⟨_, rfl⟩, rfl, f1, f2, ((b1.setCell hBp _).setCell hBq _).drew⟩

set_option maxRecDepth 100000 in
theorem do_nil (FF : ∀ (s : ByteArray) (w : World), s.size ≤ 4294967296 → Calls Tryz.prog 7 #[.string s, .func (.func 8) #[] #[]] w fun e w' => ∃ A n, e = .returned (.slice (some ⟨A, 0, none⟩) n n) ∧ Below w.heap.size w w') (s : ByteArray) (hs : s.size ≤ 4294967296) (w : World) :
    Calls Tryz.prog 4 #[.pointer none, .string s] w fun e w' => e = .returned (.tuple #[.string ⟨#[]⟩, .int .i64 1]) ∧ Below w.heap.size w w' := by
  have hmf : ∀ (fn : Fn) (first cap : Array Value) (w : World), (Instr.makeFunc fn first cap).run Tryz.prog w = .ok (.func fn first cap) w := fun _ _ _ _ => rfl
  go_enter_defers Tryz.func4, Tryz.ntmps4
  go_wp2_with fail
  have b0 := (((Below.refl w.heap.size w).alloc (Nat.le_refl _) (.cells #[.string ⟨#[]⟩] 9)).alloc (by simp) (.cells #[.int .i64 0] 23))
  have hp0 : ((w.alloc (.cells #[.string ⟨#[]⟩] 9)).alloc (.cells #[.int .i64 0] 23)).cell? ⟨w.heap.size, 0, none⟩ = some (.string ⟨#[]⟩) := by simp [go_sem]
  have hq0 : ((w.alloc (.cells #[.string ⟨#[]⟩] 9)).alloc (.cells #[.int .i64 0] 23)).cell? ⟨w.heap.size + 1, 0, none⟩ = some (.int .i64 0) := by simp [go_sem]
  have zp0 : ((w.alloc (.cells #[.string ⟨#[]⟩] 9)).alloc (.cells #[.int .i64 0] 23)).frozen? ⟨w.heap.size, 0, none⟩ = false := by simp [go_sem]
  have zq0 : ((w.alloc (.cells #[.string ⟨#[]⟩] 9)).alloc (.cells #[.int .i64 0] 23)).frozen? ⟨w.heap.size + 1, 0, none⟩ = false := by simp [go_sem]
  have sz : ((w.alloc (.cells #[.string ⟨#[]⟩] 9)).alloc (.cells #[.int .i64 0] 23)).heap.size = w.heap.size + 2 := by simp
  generalize (w.alloc (.cells #[.string ⟨#[]⟩] 9)).alloc (.cells #[.int .i64 0] 23) = w0 at *
  refine (FF s w0 hs).mono ?_
  rintro e w1 ⟨A, n, rfl, b1⟩
  have hp1 := (b1.cell (p := ⟨w.heap.size, 0, none⟩) (by rw [sz]; show w.heap.size < w.heap.size + 2; omega)).trans hp0
  have hq1 := (b1.cell (p := ⟨w.heap.size + 1, 0, none⟩) (by rw [sz]; show w.heap.size + 1 < w.heap.size + 2; omega)).trans hq0
  have zp1 := (b1.frozen (p := ⟨w.heap.size, 0, none⟩) (by rw [sz]; show w.heap.size < w.heap.size + 2; omega)).trans zp0
  have zq1 := (b1.frozen (p := ⟨w.heap.size + 1, 0, none⟩) (by rw [sz]; show w.heap.size + 1 < w.heap.size + 2; omega)).trans zq0
  have b2 := b0.trans (b1.mono (by omega))
  go_wp2_with fail
  refine (must_no _).mono ?_
  rintro e w2 ⟨rfl, rfl⟩
  refine leaves_cons (f := 6) (args := #[.pointer (some ⟨w.heap.size, 0, none⟩), .pointer (some ⟨w.heap.size + 1, 0, none⟩)]) (by simp) (by simp [go_sem]) ?_
  refine (catch6 ⟨w.heap.size, 0, none⟩ ⟨w.heap.size + 1, 0, none⟩ _ _ [] w.heap.size _ hp1 hq1 zp1 zq1 (by show w.heap.size ≠ w.heap.size + 1; omega) b2.size (Nat.le_refl _) (by show w.heap.size ≤ w.heap.size + 1; omega)).mono ?_
  rintro e u' w'' ⟨⟨v, rfl⟩, rfl, f1, f2, b3⟩
  refine ⟨.tuple #[.string ⟨#[]⟩, .int .i64 1], by simp [results, Tryz.results4, go_sem, f1, f2], rfl, b2.trans b3⟩
end Go.Proofs.YtpppaheennkkpaaGreatDoor

/-
  DERIVED: THE SHELF's CONTRACTS AT THIS DUMP, IN PLAIN WORDS (tools/lay-plain.mjs out of 'YtpppaheennkkpaaGreatDoorSh.lean', which tools/lay-shelf.mjs wrote): THE SAME DECLARATIONS UNDER THE SAME NAMES: 'import', 'namespace', 'open', 'def', 'theorem' AND NOTHING ELSE: no command of the shelf's: FOR A HAND-IN. Each laying: the table of numbers ('.._ren') and one theorem, a field a fact of the dump's own or the kernel's comparison; each contract: ONE APPLICATION.
-/
namespace Go.Proofs
open Go.Shelf
def Tryz.lays229_ren : Go.Shelf.Ren := ⟨fun | 229 => 7 | n => n, fun | 9 => 9 | 40 => 33 | 31 => 31 | 152 => 54 | 3 => 3 | 0 => 0 | 4 => 4 | 21 => 21 | 154 => 56 | n => n, fun | n => n⟩
theorem Tryz.lays229 : Go.Proofs.Lays.n229 Tryz.prog Tryz.lays229_ren := {
  mixed := by kernel_rfl
  f229 := Tryz.func7.trans (congrArg some (by kernel_rfl))
  t0 := Tryz.underlying0
  a0 := Tryz.isAgg0
  z0 := Tryz.sizeOf0
  v0 := Tryz.zeroValue0
  t3 := Tryz.underlying3
  a3 := Tryz.isAgg3
  z3 := Tryz.sizeOf3
  v3 := Tryz.zeroValue3
  t4 := Tryz.underlying4
  a4 := Tryz.isAgg4
  z4 := Tryz.sizeOf4
  v4 := Tryz.zeroValue4
  t9 := Tryz.underlying9
  a9 := Tryz.isAgg9
  z9 := Tryz.sizeOf9
  v9 := Tryz.zeroValue9
  t21 := Tryz.underlying21
  a21 := Tryz.isAgg21
  z21 := Tryz.sizeOf21
  v21 := Tryz.zeroValue21
  t31 := Tryz.underlying31
  a31 := Tryz.isAgg31
  z31 := Tryz.sizeOf31
  v31 := Tryz.zeroValue31
  t40 := Tryz.underlying33
  a40 := Tryz.isAgg33
  z40 := Tryz.sizeOf33
  v40 := Tryz.zeroValue33
  t152 := Tryz.underlying54
  a152 := Tryz.isAgg54
  z152 := Tryz.sizeOf54
  v152 := Tryz.zeroValue54
  t154 := Tryz.underlying56
  a154 := Tryz.isAgg56
  z154 := Tryz.sizeOf56
  v154 := Tryz.zeroValue56 }
def Tryz.lays143_ren : Go.Shelf.Ren := ⟨fun | 143 => 278 | 219 => 309 | 217 => 125 | 225 => 164 | 224 => 163 | 267 => 327 | 266 => 193 | 314 => 328 | n => n, fun | 9 => 9 | 3 => 3 | 4 => 4 | 5 => 5 | 46 => 185 | 146 => 253 | 51 => 252 | n => n, fun | 1 => 0 | n => n⟩
theorem Tryz.lays143 : Go.Proofs.Lays.n143 Tryz.prog Tryz.lays143_ren := {
  mixed := by kernel_rfl
  f143 := Tryz.func278.trans (congrArg some (by kernel_rfl))
  f217 := Tryz.func125.trans (congrArg some (by kernel_rfl))
  f219 := Tryz.func309.trans (congrArg some (by kernel_rfl))
  f224 := Tryz.func163.trans (congrArg some (by kernel_rfl))
  f225 := Tryz.func164.trans (congrArg some (by kernel_rfl))
  f266 := Tryz.func193.trans (congrArg some (by kernel_rfl))
  f267 := Tryz.func327.trans (congrArg some (by kernel_rfl))
  f314 := Tryz.func328.trans (congrArg some (by kernel_rfl))
  t3 := Tryz.underlying3
  a3 := Tryz.isAgg3
  z3 := Tryz.sizeOf3
  v3 := Tryz.zeroValue3
  t4 := Tryz.underlying4
  a4 := Tryz.isAgg4
  z4 := Tryz.sizeOf4
  v4 := Tryz.zeroValue4
  t5 := Tryz.underlying5
  a5 := Tryz.isAgg5
  z5 := Tryz.sizeOf5
  v5 := Tryz.zeroValue5
  t9 := Tryz.underlying9
  a9 := Tryz.isAgg9
  z9 := Tryz.sizeOf9
  v9 := Tryz.zeroValue9
  t46 := Tryz.underlying185
  a46 := Tryz.isAgg185
  z46 := Tryz.sizeOf185
  v46 := Tryz.zeroValue185
  t51 := Tryz.underlying252
  a51 := Tryz.isAgg252
  z51 := Tryz.sizeOf252
  v51 := Tryz.zeroValue252
  t146 := Tryz.underlying253
  a146 := Tryz.isAgg253
  z146 := Tryz.sizeOf253
  v146 := Tryz.zeroValue253
  g1 := by kernel_rfl }
def Tryz.lays169_ren : Go.Shelf.Ren := ⟨fun | 169 => 34 | n => n, fun | 70 => 79 | 9 => 9 | 0 => 0 | 72 => 81 | 37 => 70 | 127 => 148 | 3 => 3 | 5 => 5 | n => n, fun | n => n⟩
theorem Tryz.lays169 : Go.Proofs.Lays.n169 Tryz.prog Tryz.lays169_ren := {
  mixed := by kernel_rfl
  f169 := Tryz.func34.trans (congrArg some (by kernel_rfl))
  t0 := Tryz.underlying0
  a0 := Tryz.isAgg0
  z0 := Tryz.sizeOf0
  v0 := Tryz.zeroValue0
  t3 := Tryz.underlying3
  a3 := Tryz.isAgg3
  z3 := Tryz.sizeOf3
  v3 := Tryz.zeroValue3
  t9 := Tryz.underlying9
  a9 := Tryz.isAgg9
  z9 := Tryz.sizeOf9
  v9 := Tryz.zeroValue9
  t37 := Tryz.underlying70
  a37 := Tryz.isAgg70
  z37 := Tryz.sizeOf70
  v37 := Tryz.zeroValue70
  t70 := Tryz.underlying79
  a70 := Tryz.isAgg79
  z70 := Tryz.sizeOf79
  v70 := Tryz.zeroValue79
  t72 := Tryz.underlying81
  a72 := Tryz.isAgg81
  z72 := Tryz.sizeOf81
  v72 := Tryz.zeroValue81
  t127 := Tryz.underlying148
  a127 := Tryz.isAgg148
  z127 := Tryz.sizeOf148
  v127 := Tryz.zeroValue148 }
end Go.Proofs

/- DeskNil, but for its live question. -/
namespace Go.Proofs.YtpppaheennkkpaaGreatDoor
open Go.RowKit Go.Shelf

theorem fields_ok (s : ByteArray) (w : World) (hs : s.size ≤ 4294967296) : Calls Tryz.prog 7 #[.string s, .func (.func 8) #[] #[]] w fun e w' => ∃ A n, e = .returned (.slice (some ⟨A, 0, none⟩) n n) ∧ Below w.heap.size w w' := by
  refine (show Calls Tryz.prog 7 #[.string s, .func (.func 8) #[] #[]] w _ from Any.strings_FieldsFunc_grows Tryz.lays229 8 #[] (enters_of Tryz.func8 (by kernel_rfl) rfl) (fun x => x == 32) s w hs (space_ok w) (by kernel_rfl) (by kernel_rfl)).mono ?_
  rintro e w' ⟨A, rfl, _, _, hb⟩
  exact ⟨A, _, rfl, hb⟩

theorem walk3 (s : ByteArray) (hs : s.size ≤ 4294967296) (w : World) (alive : ∀ w1, Below w.heap.size w w1 → Calls Tryz.prog 5 #[] w1 fun e w' => e = .returned (.bool true) ∧ Below w1.heap.size w1 w') :
    Calls Tryz.prog 3 #[.string s] w fun e w' => e = .returned (.bool true) ∧ Below w.heap.size w w' := by
  go_enter Tryz.func3, Tryz.ntmps3
  go_wp2_with fail
  refine (do_nil fields_ok s hs w).mono ?_
  rintro e w1 ⟨rfl, b1⟩
  go_wp2_with fail
  refine (alive w1 b1).mono ?_
  rintro e w2 ⟨rfl, b2⟩
  go_wp2_with fail
  go_ret
  exact ⟨rfl, b1.trans (b2.mono b1.size)⟩
end Go.Proofs.YtpppaheennkkpaaGreatDoor
