/- New and the document's Keys at any right key; an append of any bytes to a row of one's own. -/
import Derived.Test.YtkbkobekndfapaaI4
import Derived.Test.YtkbkobekndfapaaI3
import Derived.Test.YtkbkobekndfapaaI6
import Derived.Test.YtkbkobekndfapaaI7
import Derived.Test.YtkbkobekndfapaaI8
import Derived.Test.YtkbkobekndfapaaJ
import Derived.Laws.AppendOwnNone
namespace Go.Proofs.Ytkbkobekndfapaa
open Go.RowKit

theorem BytesAt.later {w w' : World} {a : Option Addr} {len cap : Nat} {l : List Nat} (h : BytesAt w a len cap l) (hm : Mod No w w') : BytesAt w' a len cap l :=
  ⟨h.size, h.ok, by
    rcases h.cell with h0 | ⟨b, off, rfl, hc⟩
    · exact .inl h0
    · exact .inr ⟨b, off, rfl, fun j hj => by
        rw [World.cell?_of_block (w := w) (hm.block _ (World.block_lt_of_cell? _ _ (hc j hj)) (fun x => x)), hc j hj]⟩⟩
theorem BytesAt.add {w : World} {b off len cap : Nat} {l : List Nat} (h : BytesAt w (some ⟨b, off, none⟩) len cap l) : ∀ j, j < len → w.cell? ((⟨b, off, none⟩ : Addr).add j) = some (.int .u8 ((l.getD j 0 : Nat) : Int)) := by
  intro j hj
  rcases h.cell with h0 | ⟨b', off', e, hc⟩
  · omega
  · have e' : (⟨b, off, none⟩ : Addr) = ⟨b', off', none⟩ := by injection e
    rw [e', show (⟨b', off', none⟩ : Addr).add j = ⟨b', off' + j, none⟩ from by unfold Addr.add; split <;> simp_all]
    exact hc j hj
def mOf (n : Nat) : Nat := if n = 16 then 11 else 15
def flatOf (key : List Nat) : List Nat := if key.length = 16 then expand 4 key else expand 8 key
theorem mOf_in (n : Nat) : 2 ≤ mOf n ∧ mOf n ≤ 15 := by unfold mOf; split <;> omega
theorem flatOf_ok {key : List Nat} (hk : ∀ x ∈ key, x < 256) (h : key.length = 16 ∨ key.length = 32) : Bytes (16 * mOf key.length) (flatOf key) := by
  unfold flatOf mOf
  rcases h with h | h
  · rw [if_pos h, if_pos h]; exact expand_bytes (N := 4) ⟨h, hk⟩
  · rw [if_neg (by omega), if_neg (by omega)]; exact expand_bytes (N := 8) ⟨h, hk⟩
theorem new_ok (n b off cap : Nat) (hn : n = 16 ∨ n = 32) (key : List Nat) (w : World) (hk : BytesAt w (some ⟨b, off, none⟩) n cap key) (hle : n ≤ cap) (hmax : cap ≤ maxLen) :
    Calls Try.prog 12 #[.slice (some ⟨b, off, none⟩) n cap] w fun e w' => ∃ pb kb c cur, e = .returned (.tuple #[.pointer (some ⟨pb, 0, none⟩), .int .i64 0]) ∧ Mod No w w' ∧
      w.heap.size ≤ pb ∧ w.heap.size ≤ kb ∧ CipherAt w' pb kb c cur (keysOf (flatOf key) (mOf n)) := by
  have hs := hk.size
  unfold flatOf mOf
  rcases hn with rfl | rfl
  · rw [if_pos hs, if_pos rfl]
    exact new_4 ⟨b, off, none⟩ cap key w ⟨hs, hk.ok⟩ hle hmax hk.add
  · rw [if_neg (by omega), if_neg (by omega)]
    exact new_8 ⟨b, off, none⟩ cap key w ⟨hs, hk.ok⟩ hle hmax hk.add
theorem keys_ok (n cap : Nat) (a : Option Addr) (hn : n = 16 ∨ n = 32) (key : List Nat) (w : World) (hk : BytesAt w a n cap key) :
    Calls Try.prog 13 #[.slice a n cap] w fun e w' => ∃ g c cur, e = .returned (.slice (some ⟨g, 0, none⟩) (16 * mOf n) c) ∧ Mod No w w' ∧ w.heap.size ≤ g ∧ FlatAt w' g cur (flatOf key) := by
  have hs := hk.size
  obtain ⟨b, off, rfl, _⟩ : ∃ b off, a = some ⟨b, off, none⟩ ∧ True := by
    rcases hk.cell with h0 | ⟨b, off, h, _⟩
    · omega
    · exact ⟨b, off, h, trivial⟩
  unfold flatOf mOf
  rcases hn with rfl | rfl
  · rw [if_pos hs, if_pos rfl]
    exact keys_4 ⟨b, off, none⟩ cap key w ⟨hs, hk.ok⟩ hk.add
  · rw [if_neg (by omega), if_neg (by omega)]
    exact keys_8 ⟨b, off, none⟩ cap key w ⟨hs, hk.ok⟩ hk.add
def InBlk (v : Value) : Nat → Prop := fun k => v.ownBlock = some k
theorem append_bytes {ops : Array Oper} {rest : List Oper} {o : Oper} {act : Act} {w : World} {Q : Exit → Act → World → Prop} (hgd : o.guard = none) (s x : Operand)
    (ho : o.op = .call { callee := .builtin .append, args := #[s, x], argTypes := #[22, 22] })
    (base : Nat) (v : Value) (n : Nat) (xs : List Value) (hs : act.eval s = v) (hown : w.ownsRow base 5 1 v n xs) (a : Option Addr) (len cap : Nat) (key : List Nat)
    (hx : act.eval x = .slice a len cap) (hk : BytesAt w a len cap key) (hnil : a = none → len = 0 ∧ cap = 0)
    (hb : n + len ≤ 140737488355328) (hbase : base ≤ w.heap.size)
    (h : ∀ v' w', w'.ownsRow base 5 1 v' (n + len) (xs ++ bL key) → Mod (InBlk v) w w' → wpList Try.prog ops Q rest (act.put o.dst v') w') : wpList Try.prog ops Q (o :: rest) act w := by
  obtain ⟨i5, hi5, hz5, hs5, hb5⟩ := info_parts info5
  cases a with
  | none =>
    obtain ⟨rfl, rfl⟩ := hnil rfl
    have hkn : key = [] := List.length_eq_zero_iff.1 hk.size
    subst hkn
    refine wpList_append_own_none hgd s x 22 ho base 5 i5 1 Try.underlying22 hi5 v n xs hs hown hx (h v w ?_ (Mod.refl _ _))
    simpa [bL] using hown
  | some ad =>
    refine wpList_append_own _ hgd s x 22 ho base 5 i5 (.int .u8 0) 1 1 Try.underlying22 hi5 hz5 hs5 hb5 rfl (by omega) v n xs hs hown ad len cap (bL key) hx (by rw [bL_len, hk.size]; omega) ?_ (bL_one key) (by unfold maxLen; omega) (by omega) hbase ?_
    · intro j u hu
      have hj : j < len := by
        have := (List.getElem?_eq_some_iff.1 hu).1
        rw [bL_len, hk.size] at this; exact this
      rcases hk.cell with h0 | ⟨b', off', e, hc⟩
      · omega
      · have e' : ad = ⟨b', off', none⟩ := by injection e
        rw [e', show (⟨b', off', none⟩ : Addr).add j = ⟨b', off' + j, none⟩ from by unfold Addr.add; split <;> simp_all, hc j hj, ← hu]
        simp [bL, bv, List.getD, hj, hk.size]
    · intro v' w' ho' hg _
      exact h v' w' ho' ⟨hg.os, hg.tape, hg.output, hg.size, fun k hk hn => hg.block k hk (fun e => hn e.symm)⟩
theorem refenc_later {w0 : World} {g cc m n : Nat} {cur : Array Value} {flat s : List Nat} (hs : Bytes 16 s) (hf : FlatAt w0 g cur flat) (hfl : flat.length = n) (hn : n = 16 * m) (hm : 2 ≤ m) (hm2 : m ≤ 15) (x : Later No w0) :
    Calls Try.prog 17 #[.slice (some ⟨g, 0, none⟩) n cc, .agg (bA s)] x.to fun e w' => e = .returned (.agg (bA (enc (keysOf flat m) s))) ∧ ∃ y : Later No w0, w' = y.to :=
  (refenc_any g cc m n cur flat s x.to hs (hf.later x.ok (fun x => x)) hfl hn hm hm2).mono fun _ _ ⟨he, hm⟩ => ⟨he, ⟨_, x.ok.then hm⟩, rfl⟩
theorem refdec_later {w0 : World} {g cc m n : Nat} {cur : Array Value} {flat s : List Nat} (hs : Bytes 16 s) (hf : FlatAt w0 g cur flat) (hfl : flat.length = n) (hn : n = 16 * m) (hm : 2 ≤ m) (hm2 : m ≤ 15) (x : Later No w0) :
    Calls Try.prog 19 #[.slice (some ⟨g, 0, none⟩) n cc, .agg (bA s)] x.to fun e w' => e = .returned (.agg (bA (dec (keysOf flat m) s))) ∧ ∃ y : Later No w0, w' = y.to :=
  (refdec_any g cc m n cur flat s x.to hs (hf.later x.ok (fun x => x)) hfl hn hm hm2).mono fun _ _ ⟨he, hm⟩ => ⟨he, ⟨_, x.ok.then hm⟩, rfl⟩
end Go.Proofs.Ytkbkobekndfapaa
