/- A range over slices.Chunk at a slice of one piece. -/
import Derived.Test.YtikmamcbngbipaaGreatDoorFB
import Derived.RangeFuncSeq
import Derived.Below
namespace Go.Proofs.YtikmamcbngbipaaGreatDoor
namespace Ev
open Go.RowKit

/-- slices.Chunk's closure, called at a slice of one piece: it yields once. -/
def OneRound (P : Program) (gf : Nat) : Prop := ∀ (n l bs os bn on b off len cap : Nat) (W : World), W.cell? ⟨bs, os, none⟩ = some (.slice (some ⟨b, off, none⟩) len cap) → W.cell? ⟨bn, on, none⟩ = some (.int .i64 100) → 1 ≤ len → len ≤ 100 → len ≤ cap → 1 ≤ n →
  ∀ R : World → Prop, (YieldAt Fence.wide (n - 1) P l #[.slice (some ⟨b, off, none⟩) len len] W.drew fun e W' => e = .returned (.bool true) ∧ R W' ∧ W'.cell? ⟨bs, os, none⟩ = some (.slice (some ⟨b, off, none⟩) len cap) ∧ W'.cell? ⟨bn, on, none⟩ = some (.int .i64 100)) →
  CallsIn Fence.wide n P gf #[.func (.yield l) #[] #[], .pointer (some ⟨bs, os, none⟩), .pointer (some ⟨bn, on, none⟩)] W fun e W' => (∃ v, e = .returned v) ∧ R W'

/-- The whole slice, as it is yielded. -/
def wholeA : AV → Option AV
  | .slice id off len cap => match Nat.ble 1 len && Nat.ble len 100 && Nat.ble len cap with
    | true => some (.slice id off len len)
    | false => none
  | .osl id _ off len _ => match Nat.ble 1 len && Nat.ble len 100 with
    | true => some (.slice id off len len)
    | false => none
  | _ => none
noncomputable def chunkA (P : Program) (gf fuel : Nat) (L0 : Lore) (call : CallF) (c : Code) (s : St) : Option (Ex × St) := match c with
  | .rangeFunc g ps assign body => match ps.toList, ev s.f g, plainC assign && plainC body with
    | [p], some (.fn (.func g') [] [.ptr i 0, .ptr j 0]), true => match Nat.beq g' gf, s.H.load i 0, s.H.load j 0 with
      | true, some sv, some nv => match wholeA sv, abeq nv (.int .i64 100) with
        | some xv, true => match s.f.put (some p) xv with
          | some f1 => match codeA P L0 call fuel assign ⟨f1, s.H, []⟩ with
            | some (.norm, s1) => match codeA P L0 call fuel body s1 with
              | some (.norm, s2) => match s2.H.load i 0, s2.H.load j 0 with
                | some a, some b => match abeq a sv && abeq b nv with
                  | true => some (.norm, ⟨s.f, s2.H, .coll :: s.ds⟩)
                  | false => none
                | _, _ => none
              | _ => none
            | _ => none
          | none => none
        | _, _ => none
      | _, _, _ => none
    | _, _, _ => none
  | _ => none

section
variable {σ : Nat → Value} {ρ ρ' : Place} {P : Program} {G : Nat → Option Nat} {H H' : Heap} {w w' : World} {call : CallF}

theorem HR.alloc (hr : HR σ ρ H w.heap) (o : Obj) : HR σ ρ H (w.alloc o).heap := by
  refine ⟨hr.small, hr.out, hr.fresh, fun i p hp => by have := hr.bound i p hp; simp; omega, fun i k hi hk => ?_, hr.inj⟩
  obtain ⟨p, h1, h2⟩ := hr.live i k hi hk
  exact ⟨p, h1, by rw [Below.heap_alloc _ _ _ (hr.bound i p h1)]; exact h2⟩
theorem Step.alloc {ρ0 : Place} {H0 : Heap} {w0 : World} (h : Step ρ0 H0 w0 ρ H w) (o : Obj) : Step ρ0 H0 w0 ρ H (w.alloc o) :=
  ⟨h.ext, by have := h.size; simp; omega, fun c hc hn => (Below.heap_alloc _ _ _ (by have := h.size; omega)).trans (h.keep c hc hn), h.back, h.rest, h.more, h.same, h.dead, fun i k p c ty f hi hk hp hb => by
    obtain ⟨c1, h1⟩ := h.cells i k p c ty f hi hk hp hb
    exact ⟨c1, (Below.heap_alloc _ _ _ (Array.getElem?_eq_some_iff.1 h1).1).trans h1⟩⟩
/-- A block that is none of the run's stays so, and stands. -/
theorem Step.off {D : Nat} (h : Step ρ H w ρ' H' w') (hD : D < w.heap.size) (hn : ∀ i k p, i < H.next → H.get i = some k → ρ i = some p → p.b ≠ D) :
    w'.heap[D]? = w.heap[D]? ∧ ∀ i k p, i < H'.next → H'.get i = some k → ρ' i = some p → p.b ≠ D :=
  ⟨h.keep D hD hn, fun i k p hi hk hp e => by
    obtain ⟨j, l', q, g1, g2, g3, g4⟩ := h.back i k p hi hk hp (by omega)
    exact hn j l' q g1 g2 g3 (g4.trans e)⟩

theorem wholeA_conc {sv xv : AV} {v : Value} (h : wholeA sv = some xv) (hv : conc σ ρ sv = some v) : ∃ b off len cap, v = .slice (some ⟨b, off, none⟩) len cap ∧ 1 ≤ len ∧ len ≤ 100 ∧ len ≤ cap ∧ conc σ ρ xv = some (.slice (some ⟨b, off, none⟩) len len) := by
  unfold wholeA at h
  split at h
  · rename_i id off len cap
    split at h
    · rename_i hc
      cases h
      rw [Bool.and_eq_true, Bool.and_eq_true] at hc
      have h1 := Nat.le_of_ble_eq_true hc.1.1
      have h2 := Nat.le_of_ble_eq_true hc.1.2
      have h3 := Nat.le_of_ble_eq_true hc.2
      simp only [conc] at hv ⊢
      cases hp : ρ id with
      | none => rw [hp] at hv; cases hv
      | some p =>
        rw [hp] at hv
        cases hv
        exact ⟨_, _, _, _, rfl, h1, h2, h3, rfl⟩
    · cases h
  · rename_i id off0 off len k
    split at h
    · rename_i hc
      cases h
      rw [Bool.and_eq_true] at hc
      have h1 := Nat.le_of_ble_eq_true hc.1
      have h2 := Nat.le_of_ble_eq_true hc.2
      simp only [conc] at hv ⊢
      cases hp : ρ id with
      | none => rw [hp] at hv; cases hv
      | some p =>
        rw [hp] at hv
        simp only at hv ⊢
        split at hv
        · rename_i hk
          cases hv
          obtain ⟨k1, k2, k3⟩ := hk
          have hlk : 1 ≤ len * k := Nat.mul_pos h1 k1
          have hne : off ≠ p.n := by omega
          refine ⟨_, _, _, _, rfl, h1, h2, ?_, by rw [if_neg hne]⟩
          rw [Nat.le_div_iff_mul_le k1]
          omega
        · cases hv
    · cases h
  · cases h

theorem chunkA_ok (hm : P.follows .mixedOrders = true) (hs : ∀ i, (σ i).oneCell' = true) (hcall : CallsOK σ P G call) {gf fuel : Nat} (hone : OneRound P gf) (hent : Enters P gf) {L0 : Lore} {c : Code} {s : St} {e : Ex} {s' : St} (h : chunkA P gf fuel L0 call c s = some (e, s')) : CodeOK σ P G c s e s' := by
  unfold chunkA at h
  split at h
  case h_2 => cases h
  rename_i g ps assign body
  split at h
  case h_2 => cases h
  rename_i p g' i j hps hev hplain
  split at h
  case h_2 => cases h
  rename_i sv nv hgf hsv hnv
  split at h
  case h_2 => cases h
  rename_i xv hwh hnb
  split at h
  case h_2 => cases h
  rename_i f1 hput
  split at h
  case h_2 => cases h
  rename_i s1 hass
  split at h
  case h_2 => cases h
  rename_i s2 hbody
  split at h
  case h_2 => cases h
  rename_i a2 b2 ha2 hb2
  split at h
  case h_2 => cases h
  rename_i hsame
  cases h
  have hgf := Nat.eq_of_beq_eq_true hgf
  subst hgf
  have hnb := abeq_eq _ _ hnb
  subst hnb
  rw [Bool.and_eq_true] at hsame hplain
  have e1 := abeq_eq _ _ hsame.1
  have e2 := abeq_eq _ _ hsame.2
  subst e1; subst e2
  have hps : ps = #[p] := by rw [← Array.toArray_toList (xs := ps), hps]
  subst hps
  intro B ρ a w Q hB hG hr hf hd hQ
  -- the value ranged over
  obtain ⟨x, y, hx, hy, he⟩ := conc_fn (ev_conc hf hev)
  cases hx
  have hy' := hy
  simp only [concs] at hy
  cases hci : conc σ ρ (.ptr i 0) with
  | none => rw [hci] at hy; simp at hy
  | some vi =>
  cases hcj : conc σ ρ (.ptr j 0) with
  | none => rw [hci, hcj] at hy; simp at hy
  | some vj =>
  rw [hci, hcj] at hy
  simp only [Option.some.injEq] at hy
  subst hy
  obtain ⟨pi, hpi, rfl⟩ := conc_ptr hci
  obtain ⟨pj, hpj, rfl⟩ := conc_ptr hcj
  -- its boxes
  obtain ⟨sval, hs1, hs2⟩ := load_cell hr hpi hsv
  obtain ⟨nval, hn1, hn2⟩ := load_cell hr hpj hnv
  obtain ⟨b, off, len, cap, rfl, l1, l2, l3, hxc⟩ := wholeA_conc hwh hs2
  simp only [conc, Option.some.injEq] at hn2
  subst hn2
  refine (wpIn_wide (n := 2)).1 (wpIn_rangeFunc ?_)
  intro fn _
  obtain ⟨rec, hrec⟩ : ∃ rec : LoopState → Option Code → Loop, rec = fun st pe => { state := st, pending := pe, fn, tmps := a.tmps, params := #[p], assign, body, defers := w.heap.size } := ⟨_, rfl⟩
  obtain ⟨W1, hW1⟩ : ∃ W1, (w.alloc (.deferred (some []))).alloc (.loop (rec .ready none)) = W1 := ⟨_, rfl⟩
  have hz1 : W1.heap.size = w.heap.size + 2 := by rw [← hW1]; simp
  have hL1 : W1.heap[w.heap.size + 1]? = some (.loop (rec .ready none)) := by
    rw [← hW1]; have := World.alloc_heap_new (w.alloc (.deferred (some []))) (.loop (rec .ready none)); rwa [World.size_alloc] at this
  have hK1 : W1.heap[w.heap.size]? = some (.deferred (some [])) := by
    rw [← hW1]; exact (Below.heap_alloc _ _ _ (by simp)).trans (World.alloc_heap_new w _)
  have hr1 : HR σ ρ s.H W1.heap := by rw [← hW1]; exact (hr.alloc _).alloc _
  have st1 : Step ρ s.H w ρ s.H W1 := by rw [← hW1]; exact (Step.refl.alloc _).alloc _
  have off0 : ∀ D, w.heap.size ≤ D → ∀ i k p, i < s.H.next → s.H.get i = some k → ρ i = some p → p.b ≠ D := fun D hD i k p _ _ hp e => by have := hr.bound i p hp; omega
  have hcs1 := (load_cell hr1 hpi hsv)
  have hcn1 := (load_cell hr1 hpj hnv)
  obtain ⟨sv1, hcs1, hcs2⟩ := hcs1
  rw [hs2] at hcs2; cases hcs2
  obtain ⟨nv1, hcn1, hcn2⟩ := hcn1
  simp only [conc, Option.some.injEq] at hcn2
  subst hcn2
  refine ⟨w.heap.size + 1, [{ target := .collected w.heap.size, args := #[] }], W1, { target := .fn (.func g') #[.pointer (some ⟨pi.b, pi.o + 0, none⟩), .pointer (some ⟨pj.b, pj.o + 0, none⟩)], args := #[.func (.yield (w.heap.size + 1)) #[] #[]] }, W1, g',
    #[.func (.yield (w.heap.size + 1)) #[] #[], .pointer (some ⟨pi.b, pi.o + 0, none⟩), .pointer (some ⟨pj.b, pj.o + 0, none⟩)], W1, ?_, ?_, fun _ _ => trivial, ?_, fun _ => by omega, ?_⟩
  · rw [← hW1, hrec]; exact run_enterLoop_outer _ _ _ _ _
  · simp [resolve, he, Deferred.ofValue]
    rfl
  · exact callFunc_run hent _ _
  -- what stands behind the round
  refine (hone 1 (w.heap.size + 1) _ _ _ _ b off len cap W1 hcs1 hcn1 l1 l2 l3 (Nat.le_refl _) (fun W' => ∃ ρ', HR σ ρ' s2.H W'.heap ∧ Step ρ s.H w ρ' s2.H W' ∧ W'.heap[w.heap.size + 1]? = some (.loop (rec .ready none)) ∧ W'.heap[w.heap.size]? = some (.deferred (some [])) ∧
    (∀ D, w.heap.size ≤ D → D < w.heap.size + 2 → ∀ i k p, i < s2.H.next → s2.H.get i = some k → ρ' i = some p → p.b ≠ D)) ?_).mono ?_
  · -- the round
    have hl1 : W1.drew.heap[w.heap.size + 1]? = some (.loop (rec .ready none)) := hL1
    have hy := run_yield (P := P) (w := W1.drew) (args := #[.slice (some ⟨b, off, none⟩) len len]) hl1 (by rw [hrec]; rfl)
    rw [hrec] at hy
    refine ⟨fn, _, assign, body, hy, roundIn_of_wpIn trivial ?_⟩
    have htm : (#[p].zip #[(.slice (some ⟨b, off, none⟩) len len : Value)]).foldl (fun (tmps : Array Value) (x : Tmp × Value) => tmps.setIfInBounds x.1 x.2) a.tmps = a.tmps.setIfInBounds p (.slice (some ⟨b, off, none⟩) len len) := by simp
    have hf1 : FR σ ρ f1 (a.tmps.setIfInBounds p (.slice (some ⟨b, off, none⟩) len len)) := FR.put (a := { a with defers := [] }) hf hput hxc
    have hdrew : HR σ ρ s.H W1.drew.heap := hr1
    refine codeA_okIn (l := w.heap.size + 1) (n := 1 - 1) hm hs hcall assign hplain.1 _ _ _ hass ρ _ _ _ (fun ⟨_, _, h⟩ => h) ((put_same hput).2.1.trans hG) hdrew (htm ▸ hf1) (fun ρ1 a1 w1 h1 h2 h3 h4 h5 h6 => ?_)
    have h2' : Step ρ s.H W1 ρ1 s1.H w1 := ⟨h2.ext, h2.size, h2.keep, h2.back, h2.rest, h2.more, h2.same, h2.dead, h2.cells⟩
    have z1 := h2'.size
    obtain ⟨o1, o2⟩ := h2'.off (D := w.heap.size + 1) (by omega) (off0 _ (by omega))
    obtain ⟨o3, o4⟩ := h2'.off (D := w.heap.size) (by omega) (off0 _ (Nat.le_refl _))
    rw [hL1] at o1
    rw [hK1] at o3
    have stA := (st1.trans h2').putObj (D := w.heap.size + 1) (o := .loop { rec .ready none with state := .busy }) (by omega)
    refine ⟨_, run_beginRound o1 (by rw [hrec]), ?_⟩
    refine codeA_okIn (l := w.heap.size + 1) (n := 1 - 1) hm hs hcall body hplain.2 _ _ _ hbody ρ1 a1 _ _ (fun ⟨_, _, h⟩ => h) h5 (h1.putObj o2) h3 (fun ρ2 a2 w3 k1 k2 k3 k4 k5 k6 => ?_)
    have z2 := k2.size
    rw [World.putObj_size] at z2
    obtain ⟨p1, p2⟩ := k2.off (D := w.heap.size + 1) (by rw [World.putObj_size]; omega) o2
    obtain ⟨p3, p4⟩ := k2.off (D := w.heap.size) (by rw [World.putObj_size]; omega) o4
    rw [World.putObj_heap_same (by omega)] at p1
    rw [World.putObj_heap_other (by omega), o3] at p3
    have stB := (stA.trans k2).putObj (D := w.heap.size + 1) (o := .loop (rec .ready none)) (by omega)
    have hrB : HR σ ρ2 s2.H (w3.putObj (w.heap.size + 1) (.loop (rec .ready none))).heap := k1.putObj p2
    have hend := run_endRound (P := P) none p1
    rw [hrec] at hend
    refine ⟨_, _, hend, rfl, ⟨ρ2, by rw [hrec] at hrB; exact hrB, by rw [hrec] at stB; exact stB, ?_, ?_, fun D hD1 hD2 => ?_⟩, ?_, ?_⟩
    · rw [hrec]; exact World.putObj_heap_same (by omega)
    · exact (World.putObj_heap_other (by omega)).trans p3
    · by_cases hD : D = w.heap.size
      · rw [hD]; exact p4
      · have : D = w.heap.size + 1 := by omega
        rw [this]; exact p2
    · obtain ⟨x, q1, q2⟩ := load_cell hrB (stB.ext _ _ hpi) ha2
      rw [conc_mono stB.ext _ _ hs2] at q2
      cases q2
      rw [hrec] at q1; exact q1
    · obtain ⟨x, q1, q2⟩ := load_cell hrB (stB.ext _ _ hpj) hb2
      simp only [conc, Option.some.injEq] at q2
      subst q2
      rw [hrec] at q1; exact q1
  · -- behind it
    rintro e W2 ⟨⟨v, rfl⟩, ρ2, g1, g2, g3, g4, g5⟩
    refine ⟨none, _, by have := run_endLoop (P := P) g3 (by rw [hrec]; simp); rw [hrec] at this; exact this, ?_⟩
    have h5 := g5 (w.heap.size + 1) (by omega) (by omega)
    have h6 := g5 w.heap.size (Nat.le_refl _) (by omega)
    have hsz := (Array.getElem?_eq_some_iff.1 g3).1
    refine hQ ρ2 _ _ (g1.putObj h5) (g2.putObj (by omega)) (hf.mono g2.ext) ?_ hG
    rw [World.putObj_size]
    refine ⟨w.heap.size, rfl, hB, by omega, (World.putObj_heap_other (by omega)).trans g4, h6, ?_⟩
    exact ((hd.step g2 (Nat.le_refl _)).put (by omega))
end
end Ev
end Go.Proofs.YtikmamcbngbipaaGreatDoor
