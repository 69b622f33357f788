/- What the library's functions come to, where the live question calls them. -/
import Derived.Test.YtpppaheennkkpaaGreatDoorXE
import Derived.Test.YtpppaheennkkpaaGreatDoorFB
import Derived.Test.YtpppaheennkkpaaGreatDoorFF
import Derived.Test.YtpppaheennkkpaaGreatDoorGG
namespace Go.Proofs.YtpppaheennkkpaaGreatDoor
open Go.RowKit Go.Shelf

/-- The four lines, their words. -/
def told : List (List UInt8 × List (List UInt8)) := [([115, 116, 97, 99, 107, 32, 100, 101, 118, 105, 99, 101, 32, 97, 32, 52, 59, 32, 106, 111, 117, 114, 110, 97, 108, 32, 106, 32, 50, 53, 54, 59, 32, 101, 120, 112, 111, 114, 116, 32, 97, 59], [[115, 116, 97, 99, 107], [100, 101, 118, 105, 99, 101], [97], [52, 59], [106, 111, 117, 114, 110, 97, 108], [106], [50, 53, 54, 59], [101, 120, 112, 111, 114, 116], [97, 59]]),
  ([109, 97, 107, 101], [[109, 97, 107, 101]]),
  ([119, 114, 105, 116, 101, 32, 49, 32, 49, 32, 48, 102], [[119, 114, 105, 116, 101], [49], [49], [48, 102]]),
  ([114, 101, 97, 100, 32, 49, 32, 49], [[114, 101, 97, 100], [49], [49]])]
def wordsOf (l : List UInt8) : List (List UInt8 × List (List UInt8)) → Option (List (List UInt8))
  | [] => none
  | x :: r => match Ev.preA l x.1 && Ev.preA x.1 l with
    | true => some x.2
    | false => wordsOf l r
theorem preA_both : ∀ {a b : List UInt8}, Ev.preA a b = true → Ev.preA b a = true → a = b
  | [], [], _, _ => rfl
  | [], _ :: _, _, h => by simp [Ev.preA] at h
  | _ :: _, [], h, _ => by simp [Ev.preA] at h
  | a :: x, b :: y, h, k => by
    unfold Ev.preA at h k
    split at h
    · rename_i e
      have := UInt8.toNat_inj.1 (Nat.eq_of_beq_eq_true e)
      subst this
      rw [e] at k
      rw [preA_both h k]
    · cases h
theorem wordsOf_mem {l : List UInt8} {fs : List (List UInt8)} : ∀ {r : List (List UInt8 × List (List UInt8))}, wordsOf l r = some fs → (l, fs) ∈ r
  | [], h => by cases h
  | x :: r, h => by
    unfold wordsOf at h
    split at h
    · rename_i e
      rw [Bool.and_eq_true] at e
      cases h
      rw [preA_both e.1 e.2]
      exact List.mem_cons_self ..
    · exact List.mem_cons_of_mem _ (wordsOf_mem h)
def wordsB (x : List UInt8 × List (List UInt8)) : Bool := decide (Lib.goFieldsP (fun x => x == 32) ⟨x.1.toArray⟩ = x.2.map fun f => ⟨f.toArray⟩)
theorem wordsB_spec (x : List UInt8 × List (List UInt8)) (h : wordsB x = true) : Lib.goFieldsP (fun x => x == 32) ⟨x.1.toArray⟩ = x.2.map fun f => ⟨f.toArray⟩ := by
  unfold wordsB at h
  exact of_decide_eq_true h
theorem told_ok : told.all wordsB = true := by kernel_rfl
theorem words_ok {l : List UInt8} {fs : List (List UInt8)} (h : wordsOf l told = some fs) : Lib.goFieldsP (fun x => x == 32) ⟨l.toArray⟩ = fs.map fun f => ⟨f.toArray⟩ :=
  wordsB_spec (l, fs) (List.all_eq_true.1 told_ok _ (wordsOf_mem h))
end Go.Proofs.YtpppaheennkkpaaGreatDoor

/- The library's functions as they are known ahead of the run. -/
namespace Go.Proofs.YtpppaheennkkpaaGreatDoor
open Go.RowKit Go.Shelf

section
variable {σ : Nat → Value} {G : Nat → Option Nat} {H : Ev.Heap}

def rowOf (fs : List (List UInt8)) : List Ev.AV := fs.map Ev.AV.str
noncomputable def blkOf (fs : List (List UInt8)) : Ev.ABlk := .cells (Ev.T.lay (Ev.dep fs.length) (.leaf default) 0 (rowOf fs)) fs.length 9

theorem row_conc (ρ : Ev.Place) : ∀ fs : List (List UInt8), Ev.concs σ ρ (rowOf fs) = some (fs.map fun f => Value.string ⟨f.toArray⟩)
  | [] => rfl
  | f :: fs => by
    show Ev.concs σ ρ (Ev.AV.str f :: rowOf fs) = _
    rw [Ev.concs, row_conc ρ fs]; rfl

theorem kFields {l : List UInt8} {fs : List (List UInt8)} (h : wordsOf l told = some fs) (hl : l.length ≤ 4294967296) (hn : H.next < 65536) (h0 : 0 < fs.length) :
    Ev.CallOK σ Tryz.prog G 7 [.str l, .fn (.func 8) [] []] H (.slice H.next 0 fs.length fs.length) (H.add (blkOf fs)) := by
  refine .inl ⟨⟨_, Tryz.func7, rfl, by kernel_rfl⟩, fun ρ w argv hr hG ha => ?_⟩
  simp only [Ev.concs, Ev.conc, Option.some.injEq] at ha
  subst ha
  refine (show Calls Tryz.prog 7 #[.string ⟨l.toArray⟩, .func (.func 8) #[] #[]] w _ from Any.strings_FieldsFunc_grows Tryz.lays229 8 #[] (enters_of Tryz.func8 (by kernel_rfl) rfl) (fun x => x == 32) ⟨l.toArray⟩ w (by simpa [ByteArray.size] using hl) (space_ok w) (by kernel_rfl) (by kernel_rfl)).mono ?_
  rintro e w' ⟨A, rfl, hA, hown, hb⟩
  rw [words_ok h] at hown ⊢
  simp only [List.length_map, List.map_map] at hown ⊢
  obtain ⟨_, hnil | ⟨g, cap, cur, hv, _, hg, _, _, hsize, hcells⟩⟩ := hown
  · exact absurd hnil.1 (by intro e; cases e)
  · injection hv with e1 e2 e3
    injection e1 with e1
    injection e1 with e1 _ _
    subst e1; subst e3
    have hlt : A < w'.heap.size := (Array.getElem?_eq_some_iff.1 hg).1
    have hrow := row_conc (σ := σ) (ρ.with H.next ⟨A, 0, fs.length⟩) fs
    have hk : Ev.BR σ (ρ.with H.next ⟨A, 0, fs.length⟩) ⟨A, 0, fs.length⟩ w'.heap[A]? (blkOf fs) := by
      refine ⟨cur, (0, 0), hg, .inl rfl, by simp [hsize], Nat.le_refl _, fun i hi => ?_⟩
      have hrl : (rowOf fs).length = fs.length := by simp [rowOf]
      have h3 := Ev.T.get_lay_in (d := Ev.dep fs.length) (rowOf fs) (.leaf default) 0 i (by have := Ev.lt_dep fs.length; omega) (Nat.zero_le _) (by omega)
      rw [Nat.sub_zero] at h3
      obtain ⟨v, h4, h5⟩ := Ev.concs_get hrow h3
      refine ⟨v, ?_, h5⟩
      have h6 : (cur.toList.take (fs.length * 1))[i]? = some v := by
        rw [hcells]
        rw [← h4]
        rfl
      rw [List.getElem?_take_of_lt (by omega)] at h6
      simpa using h6
    obtain ⟨g1, g2⟩ := Ev.grown_row hr hn hb (p := ⟨A, 0, fs.length⟩) hA hlt hk
    exact ⟨_, _, rfl, by simp [Ev.conc, Ev.Place.with_self], g1, g2⟩

theorem kIndex (hG01 : G 0 = some 1) (h0 : ∃ m, σ 0 = .int .i64 m) {s t : List UInt8} (hl : H.load 1 0 = some (.sym 0)) (hs : s.length < 4294967281) :
    Ev.CallOK σ Tryz.prog G 278 [.str s, .str t] H (.int .i64 (Ev.placeI (Ev.placeA t s 0))) H := by
  refine .inl ⟨⟨_, Tryz.func278, rfl, by kernel_rfl⟩, fun ρ w argv hr hG ha => ?_⟩
  simp only [Ev.concs, Ev.conc, Option.some.injEq] at ha
  subst ha
  obtain ⟨n, hp⟩ := hG 0 1 hG01
  obtain ⟨v, hv, hv2⟩ := Ev.load_cell hr hp hl
  obtain ⟨m, hm⟩ := h0
  simp only [Ev.conc, hm, Option.some.injEq] at hv2
  subst hv2
  refine (show Calls Tryz.prog 278 #[.string ⟨s.toArray⟩, .string ⟨t.toArray⟩] w _ from Any.strings_Index Tryz.lays143 ⟨s.toArray⟩ ⟨t.toArray⟩ m w (by simpa [ByteArray.size] using hs) hv).mono ?_
  rintro e w' ⟨rfl, rfl⟩
  refine ⟨ρ, _, rfl, ?_, hr, .refl⟩
  rw [← Ev.place_run]
  rfl

theorem kByte {s : List UInt8} {c : Nat} (hc : c < 256) : Ev.CallOK σ Tryz.prog G 193 [.str s, .int .u8 (.ofNat c)] H (.int .i64 (Ev.placeI (Ev.bytA c s 0))) H := by
  refine .inr fun ρ w argv hr hG ha => ?_
  simp only [Ev.concs, Ev.conc, Option.some.injEq] at ha
  subst ha
  refine ⟨ρ, .int .i64 (firstIdx ⟨s.toArray⟩ c.toUInt8), w, ?_, ?_, hr, .refl⟩
  · rw [run_callFunc_extern Tryz.func193 (by kernel_rfl) (by kernel_rfl) (by kernel_rfl) (e := Extern.BytealgIndexByte.indexByte) (by kernel_rfl)]
    show ((Extern.BytealgIndexByte.indexByte #[.string ⟨s.toArray⟩, .int .u8 (c : Int)]).run Tryz.prog w).andThen _ = _
    rw [run_indexByte_string]
    rfl
  · have e : c.toUInt8.toNat = c := by simp [Nat.toUInt8, hc]
    rw [Ev.byte_run, e]
    rfl
end
end Go.Proofs.YtpppaheennkkpaaGreatDoor
