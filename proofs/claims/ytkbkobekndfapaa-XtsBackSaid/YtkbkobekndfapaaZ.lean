/- What an owned row looks like: its block; a row of round keys. -/
import Derived.Test.YtkbkobekndfapaaY
import Derived.Test.YtkbkobekndfapaaV
namespace Go.Proofs.Ytkbkobekndfapaa
open Go.RowKit

theorem World.ownsRow.form {w : World} {base g n cap : Nat} {l : List Nat} (h : w.ownsRow base 5 1 (.slice (some ⟨g, 0, none⟩) n cap) n (bL l)) :
    ∃ cur, w.heap[g]? = some (.cells cur 5 (0, 0)) ∧ ∀ j, j < n → cur[j]? = some (.int .u8 ((l.getD j 0 : Nat) : Int)) := by
  have hn : l.length = n := by have := h.1; rw [bL_len] at this; omega
  rcases h.2 with ⟨h1, _⟩ | ⟨g', cap', cur, hv, _, hg, _, _, _, htake⟩
  · cases h1
  · have : g = g' := by injection hv with h1; injection h1 with h1; injection h1
    subst this
    refine ⟨cur, hg, fun j hj => ?_⟩
    have h1 : (bL l)[j]? = some (bv (l.getD j 0)) := by simp [bL, List.getD, hn, hj]
    rw [← htake, List.getElem?_take, if_pos (by omega)] at h1
    simpa [bv] using h1
theorem own_mod2 {w w' : World} {base x : Nat} {e : TypeId} {size n : Nat} {v : Value} {xs : List Value} (h : w.ownsRow base e size v n xs) (hm : Mod (Just x) w w') (hx : x < base) : w'.ownsRow base e size v n xs := by
  refine ⟨h.1, ?_⟩
  rcases h.2 with hn | ⟨g, cap, cur, hv, hb, hg, r⟩
  · exact .inl hn
  · exact .inr ⟨g, cap, cur, hv, hb, hm.blk hg (not_just (by omega)), r⟩
theorem keys_form {w : World} {base NK : Nat} {kv : Value} {flat : List Nat} (h : w.ownsRow base 23 16 kv (NK + 1) (bL flat)) :
    ∃ kb c cu, kv = .slice (some ⟨kb, 0, none⟩) (NK + 1) c ∧ base ≤ kb ∧ w.heap[kb]? = some (.cells cu 23 (0, 0)) ∧
      (∀ i j, i < (keysOf flat (NK + 1)).length → j < 16 → cu[16 * i + j]? = some (.int .u8 ((((keysOf flat (NK + 1)).getD i []).getD j 0 : Nat) : Int))) ∧ NK + 1 ≤ c ∧ c ≤ maxLen := by
  have hn : flat.length = (NK + 1) * 16 := by have := h.1; rw [bL_len] at this; exact this
  rcases h.2 with ⟨_, h0⟩ | ⟨g, cap, cu, hv, hb, hg, hle, hmx, _, htake⟩
  · omega
  · refine ⟨g, cap, cu, hv, hb, hg, fun i j hi hj => ?_, hle, hmx⟩
    rw [keysOf_len] at hi
    rw [keysOf_get _ _ _ hi, flatKey_get _ _ _ hj]
    have h1 : (bL flat)[16 * i + j]? = some (bv (flat.getD (16 * i + j) 0)) := by
      have : 16 * i + j < flat.length := by omega
      simp [bL, List.getD, this]
    rw [← htake, List.getElem?_take, if_pos (by omega)] at h1
    simpa [bv] using h1
end Go.Proofs.Ytkbkobekndfapaa
