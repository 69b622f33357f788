/- The text of figures as it is known ahead of the run. -/
import Derived.Test.YtpppaheennkkpaaGreatDoorXG
import Derived.Test.YtpppaheennkkpaaGreatDoorXI
import Derived.Test.YtpppaheennkkpaaGreatDoorXA
namespace Go.Proofs.YtpppaheennkkpaaGreatDoor
open Go.RowKit Go.Shelf

section
variable {σ : Nat → Value} {G : Nat → Option Nat} {H : Ev.Heap}

def bytesIn : List Ev.AV → Option (List UInt8)
  | [] => some []
  | .int .u8 (.ofNat m) :: l => match Nat.blt m 256, bytesIn l with
    | true, some s => some (UInt8.ofNat m :: s)
    | _, _ => none
  | _ => none
theorem bytesIn_conc (ρ : Ev.Place) : ∀ {l : List Ev.AV} {s : List UInt8}, bytesIn l = some s → Ev.concs σ ρ l = some (s.map fun b => Value.int .u8 (b.toNat : Int)) := by
  intro l
  induction l with
  | nil => intro s h; cases h; rfl
  | cons a l ih =>
    intro s h
    unfold bytesIn at h
    split at h
    · rename_i e; cases e
    · rename_i m l' e
      cases e
      split at h
      · rename_i s' hm hs
        cases h
        have hm : m < 256 := by simpa using hm
        rw [Ev.concs, ih hs]
        have e : (UInt8.ofNat m).toNat = m := by simp [hm]
        simp [Ev.conc, e]
      · cases h
    · cases h

theorem kText {x : Ev.AV} {id off : Nat} {n : Nat} {l : List Ev.AV} {bs : List UInt8} (hx : Ev.sliceOf x = some (some (id, off), n)) (hl : H.loads id off n = some l) (hb : bytesIn l = some bs) (h0 : 0 < n) (hn : n ≤ 100000) :
    Ev.CallOK σ Tryz.prog G 53 [x] H (.str (hexOf bs)) H := by
  refine .inl ⟨⟨_, Tryz.func53, rfl, by kernel_rfl⟩, fun ρ w argv hr hG ha => ?_⟩
  simp only [Ev.concs] at ha
  cases hv : Ev.conc σ ρ x with
  | none => rw [hv] at ha; cases ha
  | some v =>
    rw [hv] at ha
    cases ha
    rcases Ev.sliceOf_conc hx hv with ⟨e, _⟩ | ⟨id', off', p, a, cap, e1, hp, rfl, hrest⟩
    · cases e
    · cases e1
      obtain rfl := hrest h0
      obtain ⟨vs, h1, h2, h3⟩ := Ev.loads_cells hr hp hl
      rw [bytesIn_conc ρ hb] at h2
      cases h2
      have hlen : bs.length = n := by
        have := Ev.concs_length (bytesIn_conc (σ := σ) ρ hb)
        simp at this; omega
      subst hlen
      refine (text_ok bs p.b (p.o + off) cap w (fun i y hy => h3 i _ (by simp [hy])) hn h0).mono ?_
      rintro e w' ⟨rfl, hbel⟩
      exact ⟨ρ, _, rfl, rfl, hr.below hbel, Ev.Step.below hbel⟩

theorem kRepeat {x : Ev.AV} {id off : Nat} {c : Int} (hx : Ev.sliceOf x = some (some (id, off), 1)) (hl : H.load id off = some (.int .u8 c)) (hn : H.next < 65536) :
    Ev.CallOK σ Tryz.prog G 48 [x, .int .i64 (.ofNat 64)] H (.slice H.next 0 64 64) (H.add (.cells (.leaf (.int .u8 c)) 64 5)) := by
  refine .inl ⟨⟨_, Tryz.func48, rfl, by kernel_rfl⟩, fun ρ w argv hr hG ha => ?_⟩
  simp only [Ev.concs] at ha
  cases hv : Ev.conc σ ρ x with
  | none => rw [hv] at ha; cases ha
  | some v =>
    rw [hv] at ha
    cases ha
    rcases Ev.sliceOf_conc hx hv with ⟨e, _⟩ | ⟨id', off', p, a, cap, e1, hp, rfl, hrest⟩
    · cases e
    · cases e1
      obtain rfl := hrest (by omega)
      obtain ⟨v, h1, h2⟩ := Ev.load_cell hr hp hl
      simp only [Ev.conc, Option.some.injEq] at h2
      subst h2
      refine (show Calls Tryz.prog 48 #[.slice (some ⟨p.b, p.o + off, none⟩) 1 cap, .int .i64 64] w _ from repeat_ok c p.b (p.o + off) cap w h1).mono ?_
      rintro e w' ⟨A, cur, rfl, hA, hg, hsz, hcells, hbel⟩
      have hlt : A < w'.heap.size := (Array.getElem?_eq_some_iff.1 hg).1
      have hk : Ev.BR σ (ρ.with H.next ⟨A, 0, cur.size⟩) ⟨A, 0, cur.size⟩ w'.heap[A]? (.cells (.leaf (.int .u8 c)) 64 5) :=
        ⟨cur, (0, 0), hg, .inl rfl, by simp, hsz, fun i hi => ⟨.int .u8 c, by simpa using hcells i hi, rfl⟩⟩
      obtain ⟨g1, g2⟩ := Ev.grown_row hr hn hbel (p := ⟨A, 0, cur.size⟩) hA hlt hk
      exact ⟨_, _, rfl, by simp [Ev.conc, Ev.Place.with_self], g1, g2⟩
end
end Go.Proofs.YtpppaheennkkpaaGreatDoor

/- All that is known ahead of the run of law 24's live question. -/
namespace Go.Proofs.YtpppaheennkkpaaGreatDoor
open Go.RowKit Go.Shelf

noncomputable section
abbrev Known := List Ev.AV → Option (Ev.Heap → Option (Ev.AV × Ev.Heap))
def k7 : Known := fun args => match args with
  | [.str l, .fn (.func q) [] []] => match Nat.beq q 8, wordsOf l told with
    | true, some fs => some fun H => match Nat.ble l.length 4294967296 && Nat.blt H.next 65536 && Nat.blt 0 fs.length with
      | true => some (.slice H.next 0 fs.length fs.length, H.add (blkOf fs))
      | false => none
    | _, _ => none
  | _ => none
def k278 : Known := fun args => match args with
  | [.str s, .str t] => some fun H => match H.load 1 0, Nat.blt s.length 4294967281 with
    | some (.sym i), true => match Nat.beq i 0 with
      | true => some (.int .i64 (Ev.placeI (Ev.placeA t s 0)), H)
      | false => none
    | _, _ => none
  | _ => none
def k193 : Known := fun args => match args with
  | [.str s, .int .u8 (.ofNat c)] => match Nat.blt c 256 with
    | true => some fun H => some (.int .i64 (Ev.placeI (Ev.bytA c s 0)), H)
    | false => none
  | _ => none
def k53 : Known := fun args => match args with
  | [x] => some fun H => match Ev.sliceOf x with
    | some (some (id, off), n) => match Nat.blt 0 n && Nat.ble n 100000, H.loads id off n with
      | true, some l => match bytesIn l with
        | some bs => some (.str (hexOf bs), H)
        | none => none
      | _, _ => none
    | _ => none
  | _ => none
def k48 : Known := fun args => match args with
  | [x, .int .i64 (.ofNat m)] => some fun H => match Ev.sliceOf x with
    | some (some (id, off), n) => match Nat.beq m 64 && Nat.beq n 1 && Nat.blt H.next 65536, H.load id off with
      | true, some (.int .u8 c) => some (.slice H.next 0 64 64, H.add (.cells (.leaf (.int .u8 c)) 64 5))
      | _, _ => none
    | _ => none
  | _ => none
def kD : Ev.Kn := fun g args => match Nat.beq g 7 with
  | true => k7 args
  | false => match Nat.beq g 278 with
    | true => k278 args
    | false => match Nat.beq g 193 with
      | true => k193 args
      | false => match Nat.beq g 53 with
        | true => k53 args
        | false => match Nat.beq g 48 with
          | true => k48 args
          | false => none
end

section
variable {σ : Nat → Value} {G : Nat → Option Nat} {args : List Ev.AV} {s : Ev.Heap → Option (Ev.AV × Ev.Heap)} {H H' : Ev.Heap} {r : Ev.AV}

theorem k7_ok (h : k7 args = some s) (h2 : s H = some (r, H')) : Ev.CallOK σ Tryz.prog G 7 args H r H' := by
  unfold k7 at h
  split at h
  · rename_i l q
    split at h
    · rename_i fs hq hw
      cases h
      dsimp only at h2
      split at h2
      · rename_i hc
        cases h2
        have hq := Nat.eq_of_beq_eq_true hq
        subst hq
        rw [Bool.and_eq_true, Bool.and_eq_true] at hc
        exact kFields hw (by simpa using hc.1.1) (by simpa using hc.1.2) (by simpa using hc.2)
      · cases h2
    · cases h
  · cases h
theorem k278_ok (hG01 : G 0 = some 1) (h0 : ∃ m, σ 0 = .int .i64 m) (h : k278 args = some s) (h2 : s H = some (r, H')) : Ev.CallOK σ Tryz.prog G 278 args H r H' := by
  unfold k278 at h
  split at h
  · rename_i s' t
    cases h
    dsimp only at h2
    split at h2
    · rename_i i hl hs
      split at h2
      · rename_i hi
        cases h2
        have hi := Nat.eq_of_beq_eq_true hi
        subst hi
        exact kIndex hG01 h0 hl (by simpa using hs)
      · cases h2
    · cases h2
  · cases h
theorem k193_ok (h : k193 args = some s) (h2 : s H = some (r, H')) : Ev.CallOK σ Tryz.prog G 193 args H r H' := by
  unfold k193 at h
  split at h
  · rename_i s' c
    split at h
    · rename_i hc
      cases h
      cases h2
      exact kByte (by simpa using hc)
    · cases h
  · cases h
theorem k53_ok (h : k53 args = some s) (h2 : s H = some (r, H')) : Ev.CallOK σ Tryz.prog G 53 args H r H' := by
  unfold k53 at h
  split at h
  · rename_i x
    cases h
    dsimp only at h2
    split at h2
    · rename_i id off n hx
      split at h2
      · rename_i l hc hl
        split at h2
        · rename_i bs hb
          cases h2
          rw [Bool.and_eq_true] at hc
          exact kText hx hl hb (by simpa using hc.1) (by simpa using hc.2)
        · cases h2
      · cases h2
    · cases h2
  · cases h
theorem k48_ok (h : k48 args = some s) (h2 : s H = some (r, H')) : Ev.CallOK σ Tryz.prog G 48 args H r H' := by
  unfold k48 at h
  split at h
  · rename_i x m
    cases h
    dsimp only at h2
    split at h2
    · rename_i id off n hx
      split at h2
      · rename_i c hc hl
        cases h2
        rw [Bool.and_eq_true, Bool.and_eq_true] at hc
        have hm := Nat.eq_of_beq_eq_true hc.1.1
        have hn := Nat.eq_of_beq_eq_true hc.1.2
        subst hm; subst hn
        exact kRepeat hx hl (by simpa using hc.2)
      · cases h2
    · cases h2
  · cases h
theorem kD_ok (hG01 : G 0 = some 1) (h0 : ∃ m, σ 0 = .int .i64 m) {g : Nat} (h : kD g args = some s) (h2 : s H = some (r, H')) : Ev.CallOK σ Tryz.prog G g args H r H' := by
  unfold kD at h
  split at h
  · rename_i e; have e := Nat.eq_of_beq_eq_true e; subst e; exact k7_ok h h2
  · split at h
    · rename_i e; have e := Nat.eq_of_beq_eq_true e; subst e; exact k278_ok hG01 h0 h h2
    · split at h
      · rename_i e; have e := Nat.eq_of_beq_eq_true e; subst e; exact k193_ok h h2
      · split at h
        · rename_i e; have e := Nat.eq_of_beq_eq_true e; subst e; exact k53_ok h h2
        · split at h
          · rename_i e; have e := Nat.eq_of_beq_eq_true e; subst e; exact k48_ok h h2
          · cases h
end
end Go.Proofs.YtpppaheennkkpaaGreatDoor
