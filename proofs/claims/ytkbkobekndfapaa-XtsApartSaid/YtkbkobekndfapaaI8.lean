/- The document's Same; New and Keys refuse every other length. -/
import Derived.Test.YtkbkobekndfapaaA
import Derived.Test.YtkbkobekndfapaaW
import Derived.Laws.BytesArg
import Derived.Laws.StructEq
import Derived.Shelf.Bytes.SlSmallAll
namespace Go.Proofs.Ytkbkobekndfapaa
open Go.RowKit

/-- A slice of bytes: what its elements are. -/
structure BytesAt (w : World) (a : Option Addr) (len cap : Nat) (l : List Nat) : Prop where
  size : l.length = len
  ok : ∀ x ∈ l, x < 256
  cell : len = 0 ∨ ∃ b off, a = some ⟨b, off, none⟩ ∧ ∀ j, j < len → w.cell? ⟨b, off + j, none⟩ = some (.int .u8 ((l.getD j 0 : Nat) : Int))
def strN (l : List Nat) : ByteArray := strOfNums (l.map fun (n : Nat) => (n : Int))
theorem strN_nil : strN [] = ByteArray.empty := rfl
theorem strN_eq {l m : List Nat} (hl : ∀ x ∈ l, x < 256) (hm : ∀ x ∈ m, x < 256) : ((strN l).toList == (strN m).toList) = decide (l = m) := by
  rw [← beq_toListBytes]
  show ((strN l).data == (strN m).data) = decide (l = m)
  rw [Bool.eq_iff_iff]
  simp only [beq_iff_eq, decide_eq_true_iff]
  constructor
  · intro h
    have h2 : (strN l).data.toList = (strN m).data.toList := by rw [h]
    unfold strN at h2
    rw [strOfNums_data, strOfNums_data, List.map_map, List.map_map] at h2
    have hlen : l.length = m.length := by simpa using congrArg List.length h2
    apply List.ext_getElem hlen
    intro i h3 h4
    have h5 := congrArg (fun z => z[i]?) h2
    simp only [List.getElem?_map, List.getElem?_eq_getElem h3, List.getElem?_eq_getElem h4, Option.map_some, Option.some.injEq, Function.comp] at h5
    have h6 := congrArg UInt8.toNat h5
    have a1 := hl _ (List.getElem_mem h3)
    have a2 := hm _ (List.getElem_mem h4)
    simp only [Int.toNat_natCast, UInt8.toNat_ofNat'] at h6
    omega
  · rintro rfl; rfl
theorem BytesAt.str {w : World} {a : Option Addr} {len cap : Nat} {l : List Nat} (h : BytesAt w a len cap l) : (convert 22 9 (.slice a len cap)).run Try.prog w = .ok (.string (strN l)) w := by
  rcases h.cell with h0 | ⟨b, off, rfl, hc⟩
  · have hl : l = [] := List.length_eq_zero_iff.1 (by rw [h.size, h0])
    subst h0 hl
    rw [run_convert_bytes_zero w 22 5 Try.underlying22 Try.underlying5 a cap 9 Try.underlying9, strN_nil]
  · exact run_convert_bytes_arg w 22 5 Try.underlying22 Try.underlying5 b off len cap (l.map fun (n : Nat) => (n : Int)) (by simp [h.size]) (fun i hi => by
      rw [hc i hi]
      have : i < l.length := by rw [h.size]; exact hi
      simp [List.getD, this]) 9 Try.underlying9

theorem same_any (a a' : Option Addr) (n n' c c' : Nat) (l m : List Nat) (w : World) (h : BytesAt w a n c l) (h' : BytesAt w a' n' c' m) :
    Calls Try.prog 14 #[.slice a n c, .slice a' n' c'] w fun e w' => e = .returned (.bool (decide (l = m))) ∧ w = w' := by
  have e1 := h.str
  have e2 := h'.str
  have e3 := strN_eq h.ok h'.ok
  clear h h'
  generalize strN l = s at *
  generalize strN m = t at *
  go_enter Try.func14, Try.ntmps14
  go_wp2
  go_ret
  exact ⟨rfl, rfl⟩

theorem new_wrong (a : Option Addr) (n c : Nat) (w : World) (h1 : n ≠ 16) (h2 : n ≠ 32) :
    Calls Try.prog 12 #[.slice a n c] w fun e w' => e = .returned (.tuple #[.pointer none, .int .i64 41]) ∧ w = w' := by
  have e1 : decide ((n : Int) = 16) = false := by simp; omega
  have e2 : decide ((n : Int) = 32) = false := by simp; omega
  have e3 : ((n : Int) == 16) = false := by simp; omega
  have e4 : ((n : Int) == 32) = false := by simp; omega
  have e5 : ((n : Int) != 16) = true := by simp; omega
  have e6 : ((n : Int) != 32) = true := by simp; omega
  go_enter Try.func12, Try.ntmps12
  go_wp2
  refine bodyPost_ret (v := .tuple #[.pointer none, .int .i64 41]) (by simp [results, Try.results12, go_sem]) rfl ⟨rfl, rfl⟩
theorem keys_wrong (a : Option Addr) (n c : Nat) (w : World) (h1 : n ≠ 16) (h2 : n ≠ 32) :
    Calls Try.prog 13 #[.slice a n c] w fun e w' => e = .returned (.slice none 0 0) ∧ w = w' := by
  have e1 : decide ((n : Int) = 16) = false := by simp; omega
  have e2 : decide ((n : Int) = 32) = false := by simp; omega
  have e3 : ((n : Int) == 16) = false := by simp; omega
  have e4 : ((n : Int) == 32) = false := by simp; omega
  have e5 : ((n : Int) != 16) = true := by simp; omega
  have e6 : ((n : Int) != 32) = true := by simp; omega
  go_enter Try.func13, Try.ntmps13
  go_wp2
  go_ret
  exact ⟨rfl, rfl⟩
end Go.Proofs.Ytkbkobekndfapaa
