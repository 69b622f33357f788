/- Bytes as figures: the builder of a text, walked at this program (turned from the shelf's contracts, which cannot be laid here). -/
import Derived.Test.YtpppaheennkkpaaGreatDoorXE
import Derived.Shelf.Strings.Builder1
import Derived.Test.YtpppaheennkkpaaGreatDoorXA
import Derived.Laws.CopyRow
import Derived.Lib.SlBuf
import Derived.Lib.MakeNoZero
namespace Go.Proofs.YtpppaheennkkpaaGreatDoor
open Go.RowKit Go.Shelf

theorem size81 : (Tryz.prog.info? 81).map (·.size) = some 2 := by kernel_rfl
theorem lies81 : liesAt Tryz.prog Tryz.prog.depth 81 (2 / Tryz.prog.cellsOf 81) 0 81 1 = true := by kernel_rfl
theorem infoByte : (Tryz.prog.info? 5).map (fun i => (i.zero, i.size, i.bytes)) = some (some (.int .u8 0), 1, 1) := by kernel_rfl

set_option maxRecDepth 100000 in
theorem check_used (b : Nat) (w : World) (h0 : w.cell? ⟨b, 0, none⟩ = some (.pointer (some ⟨b, 0, none⟩))) :
    Calls Tryz.prog 130 #[.pointer (some ⟨b, 0, none⟩)] w fun e w' => e = .returned (.tuple #[]) ∧ w' = w := by
  obtain ⟨j, hj, _⟩ := Option.map_eq_some_iff.1 size81
  go_enter Tryz.func130, Tryz.ntmps130
  go_wp2_with fail
  rw [Lib.run_neq_ptr_same w _ Tryz.underlying79 hj]
  go_wp2_with fail
  go_end0
  exact ⟨rfl, rfl⟩

set_option maxHeartbeats 1000000 in
set_option maxRecDepth 100000 in
theorem check_fresh (b : Nat) (w : World) (h0 : w.cell? ⟨b, 0, none⟩ = some (.pointer none)) (hsh : w.shape? b = some (81, 2)) (hfz : w.frozen? ⟨b, 0, none⟩ = false) :
    Calls Tryz.prog 130 #[.pointer (some ⟨b, 0, none⟩)] w fun e w' => e = .returned (.tuple #[]) ∧ w' = w.setCell ⟨b, 0, none⟩ (.pointer (some ⟨b, 0, none⟩)) := by
  obtain ⟨j, hj, hjs⟩ := Option.map_eq_some_iff.1 size81
  go_enter Tryz.func130, Tryz.ntmps130
  go_wp2_with fail
  rw [Lib.run_to_unsafe w ⟨b, 0, none⟩ Tryz.underlying79 Tryz.underlying309 hj (by rw [hjs]; decide) hsh (Nat.zero_lt_succ 1)]
  simp only [Result.andThen]
  rw [Oper.upon_value]
  go_wp2_with fail
  rw [run_callFunc_extern Tryz.func195 (by kernel_rfl) (by kernel_rfl) (by kernel_rfl) (e := Extern.AbiNoEscape.same) (by kernel_rfl)]
  rw [Lib.run_noEscape]
  simp only [Result.andThen]
  rw [Oper.upon_value]
  go_wp2_with fail
  rw [Lib.run_from_unsafe w ⟨b, 0, none⟩ Tryz.underlying309 Tryz.underlying79 hj hsh lies81]
  simp only [Result.andThen]
  rw [Oper.upon_value]
  go_wp2_with fail
  go_end0
  exact ⟨rfl, rfl⟩

theorem check_ok (B b : Nat) (bs : List Value) (w : World) (h : Lib.IsBuilder 81 5 B b bs w) :
    Calls Tryz.prog 130 #[.pointer (some ⟨b, 0, none⟩)] w fun e w' => e = .returned (.tuple #[]) ∧ (Lib.BuilderAt 81 5 B b (.pointer (some ⟨b, 0, none⟩)) bs w' ∧ Below B w w') := by
  rcases h with h | h
  · refine (check_fresh b w h.cell0 h.shape h.frozen0).mono ?_
    rintro e w' ⟨rfl, rfl⟩
    exact ⟨rfl, h.used _, (Below.refl B w).setCell (p := ⟨b, 0, none⟩) h.1 _⟩
  · refine (check_used b w h.cell0).mono ?_
    rintro e w' ⟨rfl, rfl⟩
    exact ⟨rfl, h, Below.refl B _⟩

set_option maxHeartbeats 2000000 in
set_option maxRecDepth 100000 in
theorem byte_ok (B b : Nat) (bs : List Value) (c : Int) (w : World) (h : Lib.IsBuilder 81 5 B b bs w) (hlen : bs.length + 1 ≤ 140737488355328) (hBw : B ≤ w.heap.size) :
    Calls Tryz.prog 97 #[.pointer (some ⟨b, 0, none⟩), .int .u8 c] w fun e w' => e = .returned .nilIface ∧ (Lib.BuilderAt 81 5 B b (.pointer (some ⟨b, 0, none⟩)) (bs ++ [.int .u8 c]) w' ∧ Below B w w') := by
  obtain ⟨i0, hi, hz0, hz1, hz2⟩ := info_parts infoByte
  have e130 : ∀ args w, (callFunc 130 args).run Tryz.prog w = .ok (.enter 130 args) w := enters_of Tryz.func130 (by kernel_rfl) rfl
  go_enter Tryz.func97, Tryz.ntmps97
  go_wp2_with (go_at_call 130; refine (check_ok B b bs _ h).mono ?_)
  rintro e w1 ⟨rfl, h1, hb1⟩
  obtain ⟨hB, v, hbk, hown, hne⟩ := h1
  have c0 : w1.cell? ⟨b, 0, none⟩ = some (.pointer (some ⟨b, 0, none⟩)) := by rw [Lib.cell_of_heap hbk]; rfl
  have c1 : w1.cell? ⟨b, 1, none⟩ = some v := by rw [Lib.cell_of_heap hbk]; rfl
  go_wp2_with (at_builtin; refine wpList_append_own _ rfl _ _ 70 rfl B 5 i0 (.int .u8 0) 1 1 Tryz.underlying70 hi hz0 hz1 hz2 rfl (by decide) _ _ _ rfl (hown.alloc _) ⟨w1.heap.size, 0, none⟩ 1 1 [.int .u8 c] rfl rfl ?c1 ?c2 ?c3 ?c4 ?c5 ?_)
  case c1 =>
    intro j u hj
    match j, hj with
    | 0, hj => simp at hj; subst hj; simp [Addr.add]
  case c2 => intro u hu; simp at hu; subst hu; rfl
  case c3 => unfold maxLen; omega
  case c4 => omega
  case c5 => have := hb1.size; simp; omega
  intro v' w2 hown' hgrow _
  have hlt : b < w1.heap.size := by
    rcases Nat.lt_or_ge b w1.heap.size with h' | h'
    · exact h'
    · simp [Array.getElem?_eq_none h'] at hbk
  have hb2 : w2.heap[b]? = some (.cells #[.pointer (some ⟨b, 0, none⟩), v] 81 (0, 0)) := by
    rw [hgrow.block b (by simp; omega) (fun e => hne e.symm), Lib.alloc_old w1 _ b hlt]
    exact hbk
  have d0 : w2.cell? ⟨b, 0, none⟩ = some (.pointer (some ⟨b, 0, none⟩)) := by rw [Lib.cell_of_heap hb2]; rfl
  have d1 : w2.cell? ⟨b, 1, none⟩ = some v := by rw [Lib.cell_of_heap hb2]; rfl
  have f1 : w2.frozen? ⟨b, 1, none⟩ = false := Lib.frozen_of_heap hb2 1
  obtain ⟨g, cap, rfl⟩ : ∃ g cap, v' = .slice (some ⟨g, 0, none⟩) (bs.length + 1) cap := by
    rcases hown'.2 with ⟨_, h0⟩ | ⟨g, cap, cur, hv, _⟩
    · omega
    · exact ⟨g, cap, hv⟩
  go_wp2_with fail
  go_ret
  refine ⟨rfl, ?_, ?_⟩
  · exact Lib.BuilderAt.put (T := 81) (e := 5) hB hb2 (bs' := bs ++ [.int .u8 c]) (by simpa using hown') (by decide)
  · exact ((hb1.alloc (by have := hb1.size; omega) _).grown hgrow (by have := hb1.size; simp; omega) (fun k hk => (hown.lt k hk).1)).setCell (p := ⟨b, 1, none⟩) hB _
end Go.Proofs.YtpppaheennkkpaaGreatDoor

/- A text of figures, and bytes said again and again. -/
namespace Go.Proofs.YtpppaheennkkpaaGreatDoor
open Go.RowKit Go.Shelf

theorem extra169 : Builder.Extra Tryz.prog Tryz.lays169_ren := { sizeBuilder := by kernel_rfl, liesBuilder := by kernel_rfl, t5 := Tryz.underlying5, a5 := Tryz.isAgg5, z5 := Tryz.sizeOf5, v5 := Tryz.zeroValue5, infoByte := by kernel_rfl, cellsByte := by kernel_rfl, sizeByte := by kernel_rfl, neB5 := by decide }

def fig (n : Nat) : Nat := match Nat.blt n 10 with
  | true => 48 + n
  | false => 87 + n
def hexOf : List UInt8 → List UInt8
  | [] => []
  | b :: l => UInt8.ofNat (fig (b.toNat / 16)) :: UInt8.ofNat (fig (b.toNat % 16)) :: hexOf l

theorem fig_at (m : Nat) (h : m < (⟨#[48, 49, 50, 51, 52, 53, 54, 55, 56, 57, 97, 98, 99, 100, 101, 102]⟩ : ByteArray).size) : ((⟨#[48, 49, 50, 51, 52, 53, 54, 55, 56, 57, 97, 98, 99, 100, 101, 102]⟩ : ByteArray)[m].toNat : Int) = ((UInt8.ofNat (fig m)).toNat : Int) := by
  have h : m < 16 := h
  match m, h with
  | 0, _ | 1, _ | 2, _ | 3, _ | 4, _ | 5, _ | 6, _ | 7, _ | 8, _ | 9, _ | 10, _ | 11, _ | 12, _ | 13, _ | 14, _ | 15, _ => rfl
  | _ + 16, h => exact absurd h (by omega)
theorem hexOf_length : ∀ l : List UInt8, (hexOf l).length = 2 * l.length
  | [] => rfl
  | _ :: l => by simp only [hexOf, List.length_cons, hexOf_length l]; omega
theorem hexOf_append : ∀ l m : List UInt8, hexOf (l ++ m) = hexOf l ++ hexOf m
  | [], _ => rfl
  | b :: l, m => by simp only [List.cons_append, hexOf, hexOf_append l m]
theorem hexOf_take {bs : List UInt8} {k : Nat} {x : UInt8} (h : bs[k]? = some x) : hexOf (bs.take (k + 1)) = hexOf (bs.take k) ++ [UInt8.ofNat (fig (x.toNat / 16)), UInt8.ofNat (fig (x.toNat % 16))] := by
  rw [List.take_add_one, h, hexOf_append]; rfl

set_option maxHeartbeats 2000000 in
set_option maxRecDepth 100000 in
theorem text_ok (bs : List UInt8) (b off cap : Nat) (w : World) (hc : ∀ i (x : UInt8), bs[i]? = some x → w.cell? ⟨b, off + i, none⟩ = some (.int .u8 (x.toNat : Int))) (hn : bs.length ≤ 100000) (h0 : 0 < bs.length) :
    Calls Tryz.prog 53 #[.slice (some ⟨b, off, none⟩) bs.length cap] w fun e w' => e = .returned (.string ⟨(hexOf bs).toArray⟩) ∧ Below w.heap.size w w' := by
  have e97 : ∀ args w, (callFunc 97 args).run Tryz.prog w = .ok (.enter 97 args) w := enters_of Tryz.func97 (by kernel_rfl) rfl
  obtain ⟨n, hlen⟩ : ∃ n, bs.length = n := ⟨_, rfl⟩
  rw [hlen] at hn h0 ⊢
  go_enter Tryz.func53, Tryz.ntmps53
  go_wp2_with fail
  go_loopw [8] (fun i wr => ∃ k, k ≤ n ∧ i = .int .i64 (k : Int) ∧ Lib.IsBuilder 81 5 w.heap.size w.heap.size (Lib.byteCells (hexOf (bs.take k))) wr ∧ Below w.heap.size w wr) (fun i _ => n - (intOf i).toNat)
  case atStart =>
    refine ⟨0, Nat.zero_le _, rfl, .inl ⟨Nat.le_refl _, .slice none 0 0, World.alloc_heap_new w _, ⟨rfl, .inl ⟨rfl, rfl⟩⟩, by simp [Value.ownBlock]⟩, (Below.refl _ w).alloc (Nat.le_refl _) _⟩
  case round =>
    obtain ⟨k, hk, rfl, hB, hb⟩ := hrel
    by_cases hkn : k < n
    · obtain ⟨x, hx⟩ : ∃ x, bs[k]? = some x := ⟨bs[k]'(by omega), List.getElem?_eq_getElem _⟩
      have hcell := hc k x hx
      have hblt : b < w.heap.size := by
        rcases Nat.lt_or_ge b w.heap.size with h' | h'
        · exact h'
        · simp [World.cell?, Array.getElem?_eq_none h'] at hcell
      have hcell2 := (hb.cell (p := ⟨b, off + k, none⟩) hblt).trans hcell
      have hx1 : x.toNat / 16 < 16 := by have := x.toNat_lt; omega
      have hx2 : x.toNat % 16 < 16 := by omega
      have hcl : (Lib.byteCells (hexOf (bs.take k))).length = 2 * k := by rw [Lib.byteCells_length, hexOf_length, List.length_take]; omega
      have hcl2 : ∀ c : Value, (Lib.byteCells (hexOf (bs.take k)) ++ [c]).length = 2 * k + 1 := fun c => by rw [List.length_append, hcl]; rfl
      go_wp2_with fail
      refine (byte_ok w.heap.size w.heap.size _ _ wr hB (by omega) hb.size).mono ?_
      rintro e w1 ⟨rfl, hB1, hb1⟩
      rw [fig_at] at hB1
      go_wp2_with fail
      refine (byte_ok w.heap.size w.heap.size _ _ w1 (.inr hB1) (by rw [hcl2]; omega) (Nat.le_trans hb.size hb1.size)).mono ?_
      rintro e w2 ⟨rfl, hB2, hb2⟩
      rw [fig_at] at hB2
      go_wp2_with fail
      have e : Lib.byteCells (hexOf (bs.take (k + 1))) = Lib.byteCells (hexOf (bs.take k)) ++ [.int .u8 ((UInt8.ofNat (fig (x.toNat / 16))).toNat : Int)] ++ [.int .u8 ((UInt8.ofNat (fig (x.toNat % 16))).toNat : Int)] := by
        rw [hexOf_take hx]; simp [Lib.byteCells]
      refine ⟨⟨k + 1, by omega, by simp, .inr ?_, (hb.trans hb1).trans hb2⟩, by simp [intOf]; omega⟩
      rw [e]
      exact hB2
    · obtain rfl : k = n := by omega
      go_wp2_with fail
      rw [← hlen, List.take_length] at hB
      refine (show Calls Tryz.prog 34 #[.pointer (some ⟨w.heap.size, 0, none⟩)] wr _ from Any.Builder_String Tryz.lays169 extra169 w.heap.size w.heap.size (hexOf bs) wr hB (by
        intro e
        have := hexOf_length bs
        rw [e] at this
        simp at this; omega)).mono ?_
      rintro e w1 ⟨rfl, hb1⟩
      go_wp2_with fail
      go_ret
      exact ⟨rfl, hb.trans hb1⟩
end Go.Proofs.YtpppaheennkkpaaGreatDoor

/- One byte said sixty-four times. -/
namespace Go.Proofs.YtpppaheennkkpaaGreatDoor
open Go.RowKit Go.Shelf

set_option maxHeartbeats 2000000 in
set_option maxRecDepth 100000 in
theorem mul_ok (w : World) : Calls Tryz.prog 87 #[.int .u64 1, .int .u64 64] w fun e w' => e = .returned (.tuple #[.int .u64 0, .int .u64 64]) ∧ w' = w := by
  go_enter Tryz.func87, Tryz.ntmps87
  go_wp2
  go_ret2
  refine ⟨?_, rfl⟩
  kernel_rfl

theorem setRow_at {W : World} {A : Nat} {cur cur' : Array Value} {t : TypeId} (h : W.heap[A]? = some (.cells cur t (0, 0))) : (W.setRow A cur').heap[A]? = some (.cells cur' t (0, 0)) := by
  simp [World.setRow, Array.getElem?_modify, h]
theorem setRow_below {B A : Nat} {w W : World} {cur' : Array Value} (hB : B ≤ A) (hb : Below B w W) : Below B w (W.setRow A cur') :=
  ⟨hb.os, hb.tape, hb.output, by have := hb.size; simpa [World.setRow] using this, fun k hk => by
    have : (W.setRow A cur').heap[k]? = W.heap[k]? := by simp [World.setRow, Array.getElem?_modify, show ¬ A = k by omega]
    rw [this]; exact hb.block k hk⟩
theorem spread {cur : Array Value} {c : Int} {m q : Nat} (hm : ∀ j, j < m → cur[j]? = some (Value.int .u8 c)) (h : m + q ≤ cur.size) :
    ∀ j, j < m + q → (cur.toList.take m ++ List.replicate q (Value.int .u8 c) ++ cur.toList.drop (m + q)).toArray[j]? = some (Value.int .u8 c) := fun j hj => by
  have hl : (cur.toList.take m).length = m := by simp; omega
  rw [List.getElem?_toArray, List.getElem?_append_left (by simp; omega)]
  by_cases h1 : j < m
  · rw [List.getElem?_append_left (by omega), List.getElem?_take_of_lt h1]
    have := hm j h1
    simpa using this
  · rw [List.getElem?_append_right (by omega), List.getElem?_replicate, if_pos (by omega)]

set_option maxHeartbeats 2000000 in
set_option maxRecDepth 100000 in
theorem repeat_ok (c : Int) (b off cap : Nat) (w : World) (h : w.cell? ⟨b, off, none⟩ = some (.int .u8 c)) :
    Calls Tryz.prog 48 #[.slice (some ⟨b, off, none⟩) 1 cap, .int .i64 64] w fun e w' => ∃ A cur, e = .returned (.slice (some ⟨A, 0, none⟩) 64 64) ∧ w.heap.size ≤ A ∧ w'.heap[A]? = some (.cells cur 5 (0, 0)) ∧ 64 ≤ cur.size ∧ (∀ i, i < 64 → cur[i]? = some (.int .u8 c)) ∧ Below w.heap.size w w' := by
  go_enter Tryz.func48, Tryz.ntmps48
  have e87 : ∀ args w, (callFunc 87 args).run Tryz.prog w = .ok (.enter 87 args) w := enters_of Tryz.func87 (by kernel_rfl) rfl
  go_wp2_with (go_at_call 87; refine (mul_ok _).mono ?_; rintro e w1 ⟨rfl, rfl⟩)
  obtain ⟨cs, hmk, hcs, _⟩ := Lib.run_makeNoZero (P := Tryz.prog) (w := w1) #[3] 70 5 Tryz.underlying70 64 (by decide)
  have hmk : (Extern.BytealgMakeNoZero.makeNoZero #[3] #[70] #[.int .i64 64]).run Tryz.prog w1 = _ := hmk
  rw [run_callFunc_extern Tryz.func88 (by kernel_rfl) (by kernel_rfl) (by kernel_rfl) (e := Extern.BytealgMakeNoZero.makeNoZero #[3] #[70]) (by kernel_rfl), hmk]
  simp only [Result.andThen]
  rw [Oper.upon_value]
  have bA : Below w1.heap.size w1 (w1.drew.drew.alloc (.cells cs 5)) := ((Below.refl _ w1).drew.drew).alloc (Nat.le_refl _) _
  have hA : (w1.drew.drew.alloc (.cells cs 5)).heap[w1.heap.size]? = some (.cells cs 5 (0, 0)) := World.alloc_heap_new w1.drew.drew _
  have hblt : b < w1.heap.size := by
    rcases Nat.lt_or_ge b w1.heap.size with h' | h'
    · exact h'
    · simp [World.cell?, Array.getElem?_eq_none h'] at h
  have hc2 := (bA.cell (p := ⟨b, off, none⟩) hblt).trans h
  obtain ⟨A, hAe⟩ : ∃ A, w1.heap.size = A := ⟨_, rfl⟩
  generalize hw2 : w1.drew.drew.alloc (.cells cs 5) = w2 at *
  have hsz : (64 : Int) ≤ cs.size := by exact_mod_cast hcs
  rw [hAe] at hA bA hblt
  have cp1 : (Builtin.copy_ #[70, 70] 3 #[.slice (some ⟨A, 0, none⟩) 64 64, .slice (some ⟨b, off, none⟩) 1 cap]).run Tryz.prog w2 = .ok (goInt 1) (w2.setRow A (Value.int .u8 c :: cs.toList.tail).toArray) := by
    have := run_copy_row (P := Tryz.prog) w2 70 70 3 5 A 0 64 64 ⟨b, off, none⟩ 1 cap cs 5 [.int .u8 c] Tryz.underlying70 (by kernel_rfl) hA rfl (fun j v hj => by
      match j, hj with
      | 0, hj =>
        simp at hj; subst hj
        simpa [Addr.add] using hc2) (by simp; omega) (fun v hv => by simp at hv; subst hv; rfl)
    simpa using this
  go_wp2
  have h3 := setRow_at (cur' := (Value.int .u8 c :: cs.toList.tail).toArray) hA
  have b3 := setRow_below (cur' := (Value.int .u8 c :: cs.toList.tail).toArray) (Nat.le_refl A) bA
  have s3 : 64 ≤ (Value.int .u8 c :: cs.toList.tail).toArray.size := by simp; omega
  have k3 : ∀ j, j < 1 → (Value.int .u8 c :: cs.toList.tail).toArray[j]? = some (Value.int .u8 c) := fun j hj => by
    obtain rfl : j = 0 := by omega
    simp
  generalize (Value.int .u8 c :: cs.toList.tail).toArray = cur0 at *
  generalize w2.setRow A cur0 = w3 at *
  clear cp1 hc2 hA bA hsz hcs hmk hw2
  go_loopw [10] (fun i wr => ∃ m cur, 1 ≤ m ∧ m ≤ 64 ∧ i = .int .i64 ((m : Nat) : Int) ∧ wr.heap[A]? = some (.cells cur 5 (0, 0)) ∧ 64 ≤ cur.size ∧ (∀ j, j < m → cur[j]? = some (Value.int .u8 c)) ∧ Below A w1 wr) (fun i _ => 64 - (intOf i).toNat)
  case atStart => exact ⟨1, cur0, Nat.le_refl _, by omega, rfl, h3, s3, k3, b3⟩
  case round =>
    obtain ⟨m, cur, m1, m2, rfl, g1, g2, g3, g4⟩ := hrel
    by_cases hm : m < 64
    · obtain ⟨q, hq⟩ : ∃ q, min m (64 - m) = q := ⟨_, rfl⟩
      have cp2 : ∀ W : World, W.heap = wr.heap → (Builtin.copy_ #[70, 70] 3 #[.slice (some ⟨A, m, none⟩) (64 - m) (64 - m), .slice (some ⟨A, 0, none⟩) m 64]).run Tryz.prog W = .ok (goInt (List.replicate q (Value.int .u8 c)).length) (W.setRow A (cur.toList.take m ++ List.replicate q (Value.int .u8 c) ++ cur.toList.drop (m + (List.replicate q (Value.int .u8 c)).length)).toArray) := fun W hW =>
        run_copy_row (P := Tryz.prog) W 70 70 3 5 A m (64 - m) (64 - m) ⟨A, 0, none⟩ m 64 cur 5 (List.replicate q (Value.int .u8 c)) Tryz.underlying70 (by kernel_rfl) (by rw [hW]; exact g1) (by rw [List.length_replicate]; exact hq.symm) (fun j v hj => by
          rw [List.getElem?_replicate] at hj
          split at hj
          · cases hj
            have := g3 j (by omega)
            have e : (⟨A, 0, none⟩ : Addr).add j = ⟨A, j, none⟩ := by cases j <;> simp [Addr.add]
            rw [e]
            simp [World.cell?, hW, g1, this]
          · cases hj) (by rw [List.length_replicate]; omega) (fun v hv => by rw [List.eq_of_mem_replicate hv]; rfl)
      have sp := spread (c := c) (q := q) g3 (by omega)
      simp only [List.length_replicate] at cp2
      have sz2 : 64 ≤ (cur.toList.take m ++ List.replicate q (Value.int .u8 c) ++ cur.toList.drop (m + q)).toArray.size := by simp; omega
      generalize (cur.toList.take m ++ List.replicate q (Value.int .u8 c) ++ cur.toList.drop (m + q)).toArray = cur2 at *
      have cpA := cp2 wr rfl
      have cpB := cp2 wr.drew rfl
      clear cp2
      have mm : (m : Int) ≤ 64 := by omega
      have mn : ¬ (64 : Int) < m := by omega
      have emin : min (m : Int) 64 = m := by omega
      go_wp2
      go_region
      go_roundw
      case rel =>
        iterate 17 apply Exists.intro
        apply And.intro ?_ rfl
        have hs2 : 64 ≤ cur2.size := sz2
        exact ⟨m + q, cur2, by omega, by omega, by simp, setRow_at (W := wr.drew) g1, hs2, sp, setRow_below (Nat.le_refl A) g4.drew⟩
      case measure =>
        simp [intOf]
        omega
    · obtain rfl : m = 64 := by omega
      go_wp2
      go_ret
      exact ⟨A, cur, rfl, Nat.le_of_eq hAe, g1, g2, g3, by rw [hAe]; exact g4⟩
end Go.Proofs.YtpppaheennkkpaaGreatDoor
