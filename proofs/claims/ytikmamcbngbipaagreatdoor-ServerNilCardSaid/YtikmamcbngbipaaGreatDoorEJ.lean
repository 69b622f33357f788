/- Maps, keys; texts made bytes, bytes made texts. -/
import Derived.Test.YtikmamcbngbipaaGreatDoorEI
import Derived.MapKept
namespace Go.Proofs.YtikmamcbngbipaaGreatDoor
namespace Ev

section
variable {σ : Nat → Value} {ρ : Place} {P : Program} {H : Heap} {w : World}

/-- A value in a new block. -/
def Makes (σ : Nat → Value) (ρ : Place) (P : Program) (w : World) (s : Sem Value) (k : ABlk) (g : Nat → AV) : Prop :=
  ∃ v' w' x N, s.run P w = .ok v' w' ∧ w'.heap = w.heap.push x ∧ (w'.os = w.os ∧ w'.output = w.output ∧ w'.tape = w.tape) ∧
    ∀ id, ρ id = none → BR σ (ρ.with id ⟨w.heap.size, 0, N⟩) ⟨w.heap.size, 0, N⟩ (some x) k ∧ conc σ (ρ.with id ⟨w.heap.size, 0, N⟩) (g id) = some v'

theorem bytesOf_conc (s : List UInt8) : concs σ ρ (bytesOf s) = some (s.map fun b => .int .u8 b.toNat) := by
  refine concs_of (by simp [bytesOf]) (fun i a ha => ?_)
  simp only [bytesOf, List.getElem?_map, Option.map_eq_some_iff] at ha
  obtain ⟨b, hb, rfl⟩ := ha
  exact ⟨.int .u8 b.toNat, by simp [hb], rfl⟩

theorem modify_push (h : Array Obj) (x : Obj) (f : Obj → Obj) : (h.push x).modify h.size f = h.push (f x) := by
  apply Array.ext_getElem?
  intro i
  rw [Array.getElem?_modify, Array.getElem?_push, Array.getElem?_push]
  by_cases hi : i = h.size
  · subst hi; simp
  · rw [if_neg (fun e => hi e.symm), if_neg hi, if_neg hi]

theorem freeze_new (w : World) (c : Array Value) (e : TypeId) (n : Nat) : ((w.drew.alloc (.cells c e)).freeze ⟨w.heap.size, n, none⟩ 1).heap = w.heap.push (.cells c e (n, n + 1)) := by
  have h : ∀ f : Obj → Obj, f (.cells c e) = .cells c e (n, n + 1) → (w.heap.push (.cells c e)).modify w.heap.size f = w.heap.push (.cells c e (n, n + 1)) := fun f hf => by
    rw [modify_push, hf]
  have e1 : (w.drew.alloc (.cells c e)).heap = w.heap.push (.cells c e) := rfl
  unfold World.freeze
  rw [if_neg (by omega)]
  simp only [e1]
  rw [h]
  simp

theorem strOf_spec : ∀ {l : List AV} {s : List UInt8} {vs : List Value}, strOf l = some s → concs σ ρ l = some vs →
    ∃ ns : List Int, vs = ns.map (Value.int .u8) ∧ s = ns.map fun n => UInt8.ofNat n.toNat
  | [], s, vs, h, hc => by
    simp only [strOf, Option.some.injEq] at h
    simp only [concs, Option.some.injEq] at hc
    subst h; subst hc
    exact ⟨[], rfl, rfl⟩
  | a :: l, s, vs, h, hc => by
    simp only [concs] at hc
    split at hc
    · rename_i x y hx hy
      cases hc
      unfold strOf at h
      split at h
      · cases ‹_ :: _ = []›
      · rename_i n l' heq
        cases heq
        split at h
        · rename_i s' hs'
          cases h
          obtain ⟨ns, e1, e2⟩ := strOf_spec hs' hy
          simp only [conc, Option.some.injEq] at hx
          subst hx
          exact ⟨n :: ns, by simp [e1], by simp [e2]⟩
        · cases h
      · cases h
    · cases hc
theorem foldl_push (ns : List Int) : ∀ (s : ByteArray), ns.foldl (fun r n => r.push (UInt8.ofNat n.toNat)) s = ⟨s.data ++ (ns.map fun n => UInt8.ofNat n.toNat).toArray⟩ := by
  induction ns with
  | nil => intro s; simp
  | cons n ns ih =>
    intro s
    rw [List.foldl_cons, ih]
    congr 1
    simp [ByteArray.push]

theorem sliceOf_conc {x : AV} {v : Value} {b : Option (Nat × Nat)} {n : Nat} (h : sliceOf x = some (b, n)) (hx : conc σ ρ x = some v) :
    (b = none ∧ n = 0 ∧ v = .slice none 0 0) ∨ (∃ id off p a cap, b = some (id, off) ∧ ρ id = some p ∧ v = .slice (some a) n cap ∧ (0 < n → a = ⟨p.b, p.o + off, none⟩)) := by
  unfold sliceOf at h
  split at h
  · cases h
    simp only [conc, Option.some.injEq] at hx
    exact .inl ⟨rfl, rfl, hx.symm⟩
  · rename_i id off len cap
    cases h
    obtain ⟨p, hp, rfl⟩ := conc_slice hx
    exact .inr ⟨id, off, p, _, cap, rfl, hp, rfl, fun _ => rfl⟩
  · rename_i id off0 off len k
    cases h
    obtain ⟨p, hp, hk, hl, hd, rfl⟩ := conc_osl hx
    refine .inr ⟨id, off, p, _, _, rfl, hp, rfl, fun h0 => ?_⟩
    have : 1 * k ≤ n * k := Nat.mul_le_mul_right _ h0
    rw [if_neg (by omega)]
  · cases h

def OOK (σ : Nat → Value) (ρ : Place) (P : Program) (w : World) (s : Sem Value) : Out → Prop
  | .val v => Says σ ρ P w s v
  | .new k _ g => Makes σ ρ P w s k g

theorem convA_run (hr : HR σ ρ H w.heap) {src dst : TypeId} {x : AV} {x' : Value} {r : Out} (h : convA P src dst x H = some r) (hx : conc σ ρ x = some x') :
    OOK σ ρ P w (Go.convert src dst x') r := by
  unfold convA at h
  split at h
  · rename_i k0 k k1 n hs hd
    cases h
    simp only [conc, Option.some.injEq] at hx
    subst hx
    exact ⟨.int k (k.wrap n), by simp [Go.convert, run_und hs, run_und hd, Conv.intToInt], by simp [conc, fwrap_eq]⟩
  · rename_i s hs hd
    cases h
    simp only [conc, Option.some.injEq] at hx
    subst hx
    exact ⟨_, by simp [Go.convert, run_und hs, run_und hd], rfl⟩
  · rename_i e hs hd
    split at h
    · rename_i n he hsl
      cases h
      rcases sliceOf_conc hsl hx with ⟨_, _, rfl⟩ | ⟨id, off, p, a, cap, e1, _⟩
      · exact ⟨.string ⟨#[]⟩, by rw [run_convert_bytes_string w src dst e none 0 0 hs he hd]; rfl, rfl⟩
      · cases e1
    · rename_i id off len he hsl
      rcases sliceOf_conc hsl hx with ⟨e1, _⟩ | ⟨id', off', p, a, cap, e1, hp, rfl, ha⟩
      · cases e1
      · cases e1
        split at h
        · cases h
          refine ⟨.string ⟨#[]⟩, ?_, rfl⟩
          rw [run_convert_bytes_string w src dst e _ 0 cap hs he hd]
          simp [Conv.bytesToString, loadCells, loadCellsFrom]
          rfl
        · rename_i hne
          split at h
          · rename_i l hl
            split at h
            · rename_i s hs'
              cases h
              have ha := ha (Nat.pos_of_ne_zero (by assumption))
              subst ha
              obtain ⟨vs, c1, c2, c3⟩ := loads_run (P := P) hr hp hl
              obtain ⟨ns, rfl, rfl⟩ := strOf_spec hs' c1
              refine ⟨.string ⟨(ns.map fun n => UInt8.ofNat n.toNat).toArray⟩, ?_, rfl⟩
              rw [run_convert_bytes_string w src dst e _ _ cap hs he hd, run_bytesToString w _ _ cap ns c3, foldl_push]
              simp
            · cases h
          · cases h
    · cases h
  · rename_i e s hs hd
    split at h
    · rename_i he
      cases h
      simp only [conc, Option.some.injEq] at hx
      subst hx
      have hsz : (⟨s.toArray⟩ : ByteArray).size = s.length := by simp [ByteArray.size]
      generalize hcap : (Question.appendCap s.length 0 e).cut (w.tape w.drawn (.appendCap s.length 0 e)) = cap
      have hle : s.length ≤ cap := by rw [← hcap]; simp [Question.cut]
      obtain ⟨c, hc⟩ : ∃ c : Array Value, c = (s.map fun b => Value.int .u8 (b.toNat : Int)).toArray ++ Array.replicate (cap - s.length) (Value.int .u8 0) := ⟨_, rfl⟩
      have hcs : c.size = cap := by rw [hc]; simp; omega
      have hd0 : (⟨s.toArray⟩ : ByteArray).data.map (fun b => Value.int .u8 (b.toNat : Int)) = (s.map fun b => Value.int .u8 (b.toNat : Int)).toArray := by simp
      refine ⟨.slice (some ⟨w.heap.size, 0, none⟩) s.length cap, ((w.drew.alloc (.cells c e)).freeze ⟨w.heap.size, cap, none⟩ 1), .cells c e (cap, cap + 1), cap, ?_, ?_, ⟨rfl, rfl, rfl⟩, fun id hid => ⟨?_, ?_⟩⟩
      · simp only [Go.convert, Sem.run_bind, run_und hs, run_und hd, Result.andThen_ok, run_und he, Conv.stringToBytes, run_choose, hsz, hcap, Question.forced, Bool.false_eq_true, if_false, newRow, run_newObj, Sem.run_pure, markStringish, run_shape, World.shape?, hd0]
        rw [← hc]
        simp [hcs]
        rfl
      · exact freeze_new w c e cap
      · refine ⟨c, (cap, cap + 1), rfl, .inr (by simp [hcs]), by simp [hcs], hle, fun i hi => ?_⟩
        have hb := bytesOf_conc (σ := σ) (ρ := ρ.with id ⟨w.heap.size, 0, cap⟩) s
        have hlen : (bytesOf s).length = s.length := by simp [bytesOf]
        have := T.get_lay_in (d := dep s.length) (bytesOf s) (.leaf (AV.int .u8 0)) 0 i (by have := lt_dep s.length; omega) (by omega) (by omega)
        obtain ⟨v, e1, e2⟩ := concs_get hb this
        refine ⟨v, ?_, e2⟩
        rw [hc]
        simp only [Nat.zero_add, Nat.sub_zero] at e1 ⊢
        rw [Array.getElem?_append_left (by simpa using hi)]
        simpa using e1
      · simp [conc, Place.with_self, hle, Nat.mod_one]
    · cases h
  · cases h
end
end Ev
end Go.Proofs.YtikmamcbngbipaaGreatDoor
