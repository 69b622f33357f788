/- The compiled run: operations that turn nothing. -/
import Derived.Test.YtikmamcbngbipaaGreatDoorGB
namespace Go.Proofs.YtikmamcbngbipaaGreatDoor
namespace Ev

section
variable {P : Program} {G : Nat → Option Nat} {sz : Nat} {t : T AV} {ht : HT} {nx : Nat} {K : AV → Bool} {N : ABlk → (Nat → AV) → Bool}

/-- What an operation came to, and what was made of it. -/
def VOK (P : Program) (G : Nat → Option Nat) (sz : Nat) (t : T AV) (ht : HT) (nx : Nat) (K : AV → Bool) (N : ABlk → (Nat → AV) → Bool) (o : Oper) : Prop :=
  (∃ v, fop P ⟨t, sz, G⟩ o ⟨ht, nx⟩ = some (.val v) ∧ K v = true) ∨ (∃ k n v, fop P ⟨t, sz, G⟩ o ⟨ht, nx⟩ = some (.new k n v) ∧ N k v = true)

theorem hOldV_ok {o : Oper} (h : hOldV P G sz o t ht nx K N = true) : VOK P G sz t ht nx K N o := by
  obtain ⟨r, h1, h2⟩ := onO_ok h
  cases r with
  | val v =>
    have h2 : fV v K = true := h2
    rw [fV_eq] at h2
    exact .inl ⟨v, h1, h2⟩
  | new k n v => exact .inr ⟨k, n, v, h1, h2⟩

theorem hBin_ok (hs : sz ≤ 512) {op : BinOp} {ty : TypeId} {lit : Bool} {x y : Operand} (h : hBin P G op ty lit (srcOf sz x) (srcOf sz y) t K = true) :
    ∃ a b r, ev ⟨t, sz, G⟩ x = some a ∧ ev ⟨t, sz, G⟩ y = some b ∧ abin P op ty lit a b = some r ∧ K r = true := by
  obtain ⟨v, h1, h⟩ := srcK_ok hs h
  obtain ⟨w, h2, h⟩ := srcK_ok hs h
  have slow : (onO (abin P op ty lit v w) fun v => fV v K) = true → ∃ a b r, ev ⟨t, sz, G⟩ x = some a ∧ ev ⟨t, sz, G⟩ y = some b ∧ abin P op ty lit a b = some r ∧ K r = true := fun h => by
    obtain ⟨r, h3, h4⟩ := onO_ok h
    rw [fV_eq] at h4
    exact ⟨v, w, r, h1, h2, h3, h4⟩
  rcases onInt_ok h with ⟨k, a, rfl, h⟩ | h
  · rcases onInt_ok h with ⟨k', b, rfl, h⟩ | h
    · obtain ⟨hc, h⟩ := fB_ok h
      obtain ⟨r, h3, h4⟩ := onO_ok h
      rw [fV0_eq] at h4
      exact ⟨_, _, r, h1, h2, by simp only [abin, hc, h3], h4⟩
    · exact slow h
  · exact slow h

theorem cvK_ok (hs : sz ≤ 512) {o : Oper} (h : cvK P G sz (cvOf P sz o) t ht nx K N = true) : VOK P G sz t ht nx K N o := by
  have val : ∀ v, fop P ⟨t, sz, G⟩ o ⟨ht, nx⟩ = some (.val v) → K v = true → VOK P G sz t ht nx K N o := fun v h1 h2 => .inl ⟨v, h1, h2⟩
  unfold cvOf at h
  split at h
  · -- move
    rename_i x hop
    obtain ⟨v, h1, h2⟩ := srcK_ok hs h
    exact val v (by unfold fop; rw [hop]; simp only [h1]) h2
  · -- assign
    rename_i x hop
    obtain ⟨v, h1, h2⟩ := srcK_ok hs h
    exact val v (by unfold fop; rw [hop]; simp only [h1]) h2
  · -- pick
    rename_i c a b hop
    obtain ⟨v, h1, h2⟩ := srcK_ok hs h
    cases v with
    | bool x =>
      cases x with
      | true =>
        obtain ⟨w, h3, h4⟩ := srcK_ok hs (show srcK G (srcOf sz a) t K = true from h2)
        exact val w (by unfold fop; rw [hop]; simp only [h1, h3]) h4
      | false =>
        obtain ⟨w, h3, h4⟩ := srcK_ok hs (show srcK G (srcOf sz b) t K = true from h2)
        exact val w (by unfold fop; rw [hop]; simp only [h1, h3]) h4
    | _ => exact nomatch (show false = true from h2)
  · -- load
    rename_i ty a hop
    split at h
    · rename_i hagg
      obtain ⟨v, h1, h2⟩ := srcK_ok hs h
      obtain ⟨id, off, rfl, h2⟩ := onPtr_ok h2
      obtain ⟨c, n, e, h3, h2⟩ := onCells_ok (nx := nx) h2
      obtain ⟨h4, h2⟩ := fB_ok h2
      rw [T.getN_eq] at h2
      exact val (c.get off) (by unfold fop; rw [hop]; simp only [h1, loadA, hagg, Heap.load, h3, h4]) h2
    · rename_i s hagg hsz
      obtain ⟨v, h1, h2⟩ := srcK_ok hs h
      obtain ⟨id, off, rfl, h2⟩ := onPtr_ok h2
      obtain ⟨c, m, e, h3, h2⟩ := onCells_ok (nx := nx) h2
      obtain ⟨h4, h2⟩ := fB_ok h2
      rw [T.listK_eq] at h2
      have h4 : Nat.ble (off + s) m = true := h4
      exact val (.agg (c.list off s)) (by unfold fop; rw [hop]; simp only [h1, loadA, hagg, hsz, Heap.loads, h3, h4]) h2
    · exact hOldV_ok h
  · -- the address of a field
    rename_i ty x i hop
    split at h
    · rename_i fields hu
      split at h
      · rename_i g hg
        split at h
        · rename_i n hsz
          obtain ⟨v, h1, h2⟩ := srcK_ok hs h
          obtain ⟨id, off, rfl, h2⟩ := onPtr_ok h2
          exact val (.ptr id (off + g.offset)) (by unfold fop; rw [hop]; simp only [hu, h1, hg, hsz]) h2
        · exact hOldV_ok h
      · exact hOldV_ok h
    · exact hOldV_ok h
  · -- the address of an element
    rename_i ty x ix hop
    split at h
    · rename_i n e hu
      split at h
      · rename_i s hsz
        obtain ⟨v, h1, h2⟩ := srcK_ok hs h
        obtain ⟨w, h3, h2⟩ := srcK_ok hs h2
        obtain ⟨id, off, rfl, h2⟩ := onPtr_ok h2
        rcases onInt_ok h2 with ⟨k, j, rfl, h2⟩ | h2
        · obtain ⟨j, rfl, h2⟩ := onNat_ok h2
          obtain ⟨h4, h2⟩ := fB_ok h2
          exact val (.ptr id (off + j * s)) (by unfold fop; rw [hop]; simp only [hu, h1, h3, hsz, h4]) h2
        · cases h2
      · exact hOldV_ok h
    · rename_i e hu
      split at h
      · rename_i s hsz
        obtain ⟨v, h1, h2⟩ := srcK_ok hs h
        obtain ⟨w, h3, h2⟩ := srcK_ok hs h2
        rcases onInt_ok h2 with ⟨k, j, rfl, h2⟩ | h2
        · obtain ⟨j, rfl, h2⟩ := onNat_ok h2
          cases v with
          | slice id off len cap =>
            obtain ⟨h4, h2⟩ := fB_ok h2
            exact val (.ptr id (off + j * s)) (by unfold fop; rw [hop]; simp only [hu, h1, h3, hsz, sliceOf, h4]) h2
          | osl id off0 off len k2 =>
            obtain ⟨h4, h2⟩ := fB_ok h2
            exact val (.ptr id (off + j * s)) (by unfold fop; rw [hop]; simp only [hu, h1, h3, hsz, sliceOf, h4]) h2
          | _ => exact nomatch (show false = true from h2)
        · cases h2
      · exact hOldV_ok h
    · exact hOldV_ok h
  · -- nilCheck
    rename_i x hop
    obtain ⟨v, h1, h2⟩ := srcK_ok hs h
    cases v with
    | ptr id off => exact val (.ptr id off) (by unfold fop; rw [hop]; simp only [h1]) h2
    | iface ty v => exact val (.iface ty v) (by unfold fop; rw [hop]; simp only [h1]) h2
    | fn f a b =>
      cases f with
      | func g => exact val (.fn (.func g) a b) (by unfold fop; rw [hop]; simp only [h1]) h2
      | _ => exact nomatch (show false = true from h2)
    | _ => exact nomatch (show false = true from h2)
  · -- two operands
    rename_i op ty x y yt hop
    obtain ⟨a, b, r, h1, h2, h3, h4⟩ := hBin_ok hs h
    exact val r (by unfold fop; rw [hop]; simp only [h1, h2, h3]) h4
  · -- a part of a tuple
    rename_i x i hop
    obtain ⟨v, h1, h2⟩ := srcK_ok hs h
    cases v with
    | tup l =>
      obtain ⟨r, h3, h4⟩ := onO_ok (show onO l[i]? K = true from h2)
      exact val r (by unfold fop; rw [hop]; simp only [h1, h3]) h4
    | _ => exact nomatch (show false = true from h2)
  · -- len
    rename_i args argTypes hop
    split at h
    · rename_i x ty ts hx hty
      split at h
      · rename_i e hu
        obtain ⟨v, h1, h2⟩ := srcK_ok hs h
        cases v with
        | nils => exact val (.int .i64 (.ofNat 0)) (by unfold fop; rw [hop]; simp only [hx, hty, h1, lenA, hu]; rfl) h2
        | slice id off len cap => exact val (.int .i64 (.ofNat len)) (by unfold fop; rw [hop]; simp only [hx, hty, h1, lenA, hu]) h2
        | osl id off0 off len k => exact val (.int .i64 (.ofNat len)) (by unfold fop; rw [hop]; simp only [hx, hty, h1, lenA, hu]) h2
        | _ => exact nomatch (show false = true from h2)
      · exact hOldV_ok h
    · exact hOldV_ok h
  · exact hOldV_ok h
end
end Ev
end Go.Proofs.YtikmamcbngbipaaGreatDoor
