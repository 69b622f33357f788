/- A range over slices.Backward at one thing: one round, left in whatever way. -/
import Derived.Test.YtpppaheennkkpaaGreatDoorFB
import Derived.Laws.Externs
import Derived.Lib.Index
namespace Go.Proofs.YtpppaheennkkpaaGreatDoor
namespace Ev
open Go.RowKit

/-- The closure, called at a slice of one thing: it yields once. -/
def OneBack (P : Program) (gb k : Nat) : Prop := ∀ (n l bs os b off cap : Nat) (cs : List Value) (t : Bool) (W : World), W.cell? ⟨bs, os, none⟩ = some (.slice (some ⟨b, off, none⟩) 1 cap) →
  cs.length = k → (∀ i v, cs[i]? = some v → W.cell? ⟨b, off + i, none⟩ = some v) → 1 ≤ n →
  ∀ R : World → Prop, (∀ W', W'.heap = W.heap → (W'.os = W.os ∧ W'.output = W.output ∧ W'.tape = W.tape) → YieldAt Fence.wide (n - 1) P l #[.int .i64 0, .agg cs.toArray] W' fun e W'' => e = .returned (.bool t) ∧ R W'') →
  CallsIn Fence.wide n P gb #[.func (.yield l) #[] #[], .pointer (some ⟨bs, os, none⟩)] W fun e W' => (∃ v, e = .returned v) ∧ R W'

def oneA : AV → Option (Nat × Nat)
  | .slice id off 1 _ => some (id, off)
  | .osl id _ off 1 _ => some (id, off)
  | _ => none
noncomputable def backOneA (P : Program) (gb k fuel : Nat) (L0 : Lore) (call : CallF) (c : Code) (s : St) : Option (Ex × St) := match c with
  | .rangeFunc g ps assign body => match ps.toList, ev s.f g, plainC assign && plainC body with
    | [p, q], some (.fn (.func g') [] [.ptr i 0]), true => match Nat.beq g' gb, s.H.load i 0 with
      | true, some sv => match oneA sv with
        | some (id, off) => match s.H.loads id off k, s.f.put (some p) (.int .i64 (.ofNat 0)) with
          | some xl, some f0 => match f0.put (some q) (.agg xl) with
            | some f1 => match codeA P L0 call fuel assign ⟨f1, s.H, []⟩ with
              | some (.norm, s1) => match codeA P L0 call fuel body s1 with
                | some (e, s2) => some (e, ⟨s.f, s2.H, .coll :: s.ds⟩)
                | none => none
              | _ => none
            | none => none
          | _, _ => none
        | none => none
      | _, _ => none
    | _, _, _ => none
  | _ => none

section
variable {σ : Nat → Value} {ρ ρ' : Place} {P : Program} {G : Nat → Option Nat} {H H' : Heap} {w w' : World} {call : CallF}

theorem oneA_conc {v : AV} {x : Value} {id off : Nat} (h : oneA v = some (id, off)) (hx : conc σ ρ v = some x) : ∃ p cap, ρ id = some p ∧ x = .slice (some ⟨p.b, p.o + off, none⟩) 1 cap := by
  unfold oneA at h
  split at h
  · cases h
    obtain ⟨p, hp, rfl⟩ := conc_slice hx; exact ⟨p, _, hp, rfl⟩
  · rename_i k
    cases h
    obtain ⟨p, hp, hk, hle, _, rfl⟩ := conc_osl hx
    refine ⟨p, (p.n - off) / k, hp, ?_⟩
    rw [if_neg (by omega)]
  · cases h
theorem Step.as {ρ0 : Place} {H0 : Heap} {w0 w1 w2 : World} (h : Step ρ0 H0 w0 ρ H w1) (hh : w2.heap = w1.heap) (hr : w2.os = w1.os ∧ w2.output = w1.output ∧ w2.tape = w1.tape) : Step ρ0 H0 w0 ρ H w2 :=
  ⟨h.ext, by rw [hh]; exact h.size, fun c hc hn => by rw [hh]; exact h.keep c hc hn, h.back, ⟨hr.1.trans h.rest.1, hr.2.1.trans h.rest.2.1, hr.2.2.trans h.rest.2.2⟩, h.more, h.same, h.dead, fun i k p c ty f a b d e => by rw [hh]; exact h.cells i k p c ty f a b d e⟩

/-- What a round leaves behind it to be done. -/
def Ex.jump : Ex → Option Code
  | .norm => none
  | .exit id => some (.exit id)
  | .ret => some .ret

theorem backOneA_ok (hm : P.follows .mixedOrders = true) (hs : ∀ i, (σ i).oneCell' = true) (hcall : CallsOK σ P G call) {gb k fuel : Nat} (hone : OneBack P gb k) (hent : Enters P gb) {L0 : Lore} {c : Code} {s : St} {e : Ex} {s' : St} (h : backOneA P gb k fuel L0 call c s = some (e, s')) : CodeOK σ P G c s e s' := by
  unfold backOneA at h
  split at h
  case h_2 => cases h
  rename_i g ps assign body
  split at h
  case h_2 => cases h
  rename_i p q g' i hps hev hplain
  split at h
  case h_2 => cases h
  rename_i sv hgf hsv
  split at h
  case h_2 => cases h
  rename_i id off h1a
  split at h
  case h_2 => cases h
  rename_i xl f0 hxl hput0
  split at h
  case h_2 => cases h
  rename_i f1 hput
  split at h
  case h_2 => cases h
  rename_i s1 hass
  split at h
  case h_2 => cases h
  rename_i e2 s2 hbody
  cases h
  have hgf := Nat.eq_of_beq_eq_true hgf
  subst hgf
  rw [Bool.and_eq_true] at hplain
  have hps : ps = #[p, q] := by rw [← Array.toArray_toList (xs := ps), hps]
  subst hps
  intro B ρ a w Q hB hG hr hf hd hQ
  obtain ⟨x, y, hx, hy, he⟩ := conc_fn (ev_conc hf hev)
  cases hx
  simp only [concs] at hy
  cases hci : conc σ ρ (.ptr i 0) with
  | none => rw [hci] at hy; simp at hy
  | some vi =>
  rw [hci] at hy
  simp only [Option.some.injEq] at hy
  subst hy
  obtain ⟨pi, hpi, rfl⟩ := conc_ptr hci
  refine (wpIn_wide (n := 2)).1 (wpIn_rangeFunc ?_)
  intro fn _
  obtain ⟨rec, hrec⟩ : ∃ rec : LoopState → Option Code → Loop, rec = fun st pe => { state := st, pending := pe, fn, tmps := a.tmps, params := #[p, q], assign, body, defers := w.heap.size } := ⟨_, rfl⟩
  obtain ⟨W1, hW1⟩ : ∃ W1, (w.alloc (.deferred (some []))).alloc (.loop (rec .ready none)) = W1 := ⟨_, rfl⟩
  have hz1 : W1.heap.size = w.heap.size + 2 := by rw [← hW1]; simp
  have hL1 : W1.heap[w.heap.size + 1]? = some (.loop (rec .ready none)) := by
    rw [← hW1]; have := World.alloc_heap_new (w.alloc (.deferred (some []))) (.loop (rec .ready none)); rwa [World.size_alloc] at this
  have hK1 : W1.heap[w.heap.size]? = some (.deferred (some [])) := by
    rw [← hW1]; exact (Below.heap_alloc _ _ _ (by simp)).trans (World.alloc_heap_new w _)
  have hr1 : HR σ ρ s.H W1.heap := by rw [← hW1]; exact (hr.alloc _).alloc _
  have st1 : Step ρ s.H w ρ s.H W1 := by rw [← hW1]; exact (Step.refl.alloc _).alloc _
  have off0 : ∀ D, w.heap.size ≤ D → ∀ i k p, i < s.H.next → s.H.get i = some k → ρ i = some p → p.b ≠ D := fun D hD i k p _ _ hp e => by have := hr.bound i p hp; omega
  obtain ⟨sval, hc1, hc2⟩ := load_cell hr1 hpi hsv
  obtain ⟨pe, cap, hpe, rfl⟩ := oneA_conc h1a hc2
  obtain ⟨cs, hcl, hcs, hcells⟩ := loads_cells hr1 hpe hxl
  have hxc : conc σ ρ (.agg xl) = some (.agg cs.toArray) := by simp [conc, hcs]
  refine ⟨w.heap.size + 1, [{ target := .collected w.heap.size, args := #[] }], W1, { target := .fn (.func g') #[.pointer (some ⟨pi.b, pi.o + 0, none⟩)], args := #[.func (.yield (w.heap.size + 1)) #[] #[]] }, W1, g',
    #[.func (.yield (w.heap.size + 1)) #[] #[], .pointer (some ⟨pi.b, pi.o + 0, none⟩)], W1, ?_, ?_, fun _ _ => trivial, ?_, fun _ => by omega, ?_⟩
  · rw [← hW1, hrec]; exact run_enterLoop_outer _ _ _ _ _
  · simp [resolve, he, Deferred.ofValue]
    rfl
  · exact callFunc_run hent _ _
  -- what stands behind the round
  refine (hone 1 (w.heap.size + 1) _ _ _ _ cap cs e.jump.isNone W1 hc1 ((concs_length hcs).trans hcl) hcells (Nat.le_refl _) (fun W' => ∃ ρ' st, HR σ ρ' s2.H W'.heap ∧ Step ρ s.H w ρ' s2.H W' ∧ W'.heap[w.heap.size + 1]? = some (.loop (rec st e.jump)) ∧ st ≠ .busy ∧ W'.heap[w.heap.size]? = some (.deferred (some [])) ∧
    (∀ D, w.heap.size ≤ D → D < w.heap.size + 2 → ∀ i k p, i < s2.H.next → s2.H.get i = some k → ρ' i = some p → p.b ≠ D)) ?_).mono ?_
  · -- the round
    intro W0 hW0 hR0
    have hl1 : W0.heap[w.heap.size + 1]? = some (.loop (rec .ready none)) := by rw [hW0]; exact hL1
    have hy := run_yield (P := P) (w := W0) (args := #[.int .i64 0, (.agg cs.toArray : Value)]) hl1 (by rw [hrec]; rfl)
    rw [hrec] at hy
    refine ⟨fn, _, assign, body, hy, roundIn_of_wpIn trivial ?_⟩
    have htm : (#[p, q].zip #[(.int .i64 0 : Value), (.agg cs.toArray : Value)]).foldl (fun (tmps : Array Value) (x : Tmp × Value) => tmps.setIfInBounds x.1 x.2) a.tmps = (a.tmps.setIfInBounds p (.int .i64 0)).setIfInBounds q (.agg cs.toArray : Value) := by simp
    have hf0 : FR σ ρ f0 (a.tmps.setIfInBounds p (.int .i64 0)) := FR.put (a := { a with defers := [] }) hf hput0 rfl
    have hf1 : FR σ ρ f1 ((a.tmps.setIfInBounds p (.int .i64 0)).setIfInBounds q (.agg cs.toArray : Value)) := FR.put (a := { tmps := a.tmps.setIfInBounds p (.int .i64 0), defers := [] }) hf0 hput hxc
    have hr0 : HR σ ρ s.H W0.heap := hW0 ▸ hr1
    have st0 : Step ρ s.H w ρ s.H W0 := st1.as hW0 hR0
    have hz0 : W0.heap.size = w.heap.size + 2 := by rw [hW0]; exact hz1
    have hK0 : W0.heap[w.heap.size]? = some (.deferred (some [])) := by rw [hW0]; exact hK1
    refine codeA_okIn (l := w.heap.size + 1) (n := 1 - 1) hm hs hcall assign hplain.1 _ _ _ hass ρ _ _ _ (fun ⟨_, _, h⟩ => h) ((put_same hput).2.1.trans ((put_same hput0).2.1.trans hG)) hr0 (htm ▸ hf1) (fun ρ1 a1 w1 h1 h2 h3 h4 h5 h6 => ?_)
    have z1 := h2.size
    obtain ⟨o1, o2⟩ := h2.off (D := w.heap.size + 1) (by omega) (off0 _ (by omega))
    obtain ⟨o3, o4⟩ := h2.off (D := w.heap.size) (by omega) (off0 _ (Nat.le_refl _))
    rw [hl1] at o1
    rw [hK0] at o3
    have stA := (st0.trans h2).putObj (D := w.heap.size + 1) (o := .loop { rec .ready none with state := .busy }) (by omega)
    refine ⟨_, run_beginRound o1 (by rw [hrec]), ?_⟩
    refine codeA_okIn (l := w.heap.size + 1) (n := 1 - 1) hm hs hcall body hplain.2 _ _ _ hbody ρ1 a1 _ _ (fun ⟨_, _, h⟩ => h) h5 (h1.putObj o2) h3 (fun ρ2 a2 w3 k1 k2 k3 k4 k5 k6 => ?_)
    have z2 := k2.size
    rw [World.putObj_size] at z2
    obtain ⟨p1, p2⟩ := k2.off (D := w.heap.size + 1) (by rw [World.putObj_size]; omega) o2
    obtain ⟨p3, p4⟩ := k2.off (D := w.heap.size) (by rw [World.putObj_size]; omega) o4
    rw [World.putObj_heap_same (by omega)] at p1
    rw [World.putObj_heap_other (by omega), o3] at p3
    have fin : ∃ v W', (Instr.endRound (w.heap.size + 1) e.jump).run P w3 = .ok v W' ∧ (Ending.returned v = .returned (.bool e.jump.isNone) ∧ ∃ ρ' st, HR σ ρ' s2.H W'.heap ∧ Step ρ s.H w ρ' s2.H W' ∧ W'.heap[w.heap.size + 1]? = some (.loop (rec st e.jump)) ∧ st ≠ .busy ∧ W'.heap[w.heap.size]? = some (.deferred (some [])) ∧
        (∀ D, w.heap.size ≤ D → D < w.heap.size + 2 → ∀ i k p, i < s2.H.next → s2.H.get i = some k → ρ' i = some p → p.b ≠ D)) := by
      have hend := run_endRound (P := P) e.jump p1
      rw [hrec] at hend
      refine ⟨_, _, hend, rfl, ρ2, if e.jump.isNone then .ready else .done, k1.putObj p2, (stA.trans k2).putObj (by omega), ?_, ?_, (World.putObj_heap_other (by omega)).trans p3, fun D hD1 hD2 => ?_⟩
      · rw [hrec]; exact World.putObj_heap_same (by omega)
      · cases e <;> simp [Ex.jump]
      · by_cases hD : D = w.heap.size
        · rw [hD]; exact p4
        · have : D = w.heap.size + 1 := by omega
          rw [this]; exact p2
    cases e <;> exact fin
  · -- behind it
    rintro ee W2 ⟨⟨v, rfl⟩, ρ2, st, g1, g2, g3, gb, g4, g5⟩
    refine ⟨e.jump, _, by have := run_endLoop (P := P) g3 (by rw [hrec]; exact gb); rw [hrec] at this; exact this, ?_⟩
    have h5 := g5 (w.heap.size + 1) (by omega) (by omega)
    have h6 := g5 w.heap.size (Nat.le_refl _) (by omega)
    have hsz := (Array.getElem?_eq_some_iff.1 g3).1
    have fin := hQ ρ2 { a with defers := { target := .collected w.heap.size, args := #[] } :: a.defers } _ (g1.putObj (o := .loop { rec st e.jump with state := .exhausted }) h5) (g2.putObj (by omega)) (hf.mono g2.ext) (by
      rw [World.putObj_size]
      refine ⟨w.heap.size, rfl, hB, by omega, (World.putObj_heap_other (by omega)).trans g4, h6, ?_⟩
      exact ((hd.step g2 (Nat.le_refl _)).put (by omega))) hG
    rw [hrec] at fin
    cases e with
    | norm => exact fin
    | exit id => exact wpIn_exit fin
    | ret => exact wpIn_ret fin

/-- All kinds of range. -/
noncomputable def rangesA (P : Program) (gf gb k fuel : Nat) (L0 : Lore) (call : CallF) (c : Code) (s : St) : Option (Ex × St) := match backA gb c s with
  | some r => some r
  | none => match backOneA P gb k fuel L0 call c s with
    | some r => some r
    | none => chunkA P gf fuel L0 call c s
theorem rangesA_ok (hm : P.follows .mixedOrders = true) (hs : ∀ i, (σ i).oneCell' = true) (hcall : CallsOK σ P G call) {gf gb k fuel : Nat} (hone : OneRound P gf) (hent : Enters P gf) (hno : NoRound P gb) (hob : OneBack P gb k) (hentb : Enters P gb) {L0 : Lore} {c : Code} {s : St} {e : Ex} {s' : St} (h : rangesA P gf gb k fuel L0 call c s = some (e, s')) : CodeOK σ P G c s e s' := by
  unfold rangesA at h
  split at h
  · rename_i r hr
    cases h
    exact backA_ok hno hentb hr
  · split at h
    · rename_i r hr
      cases h
      exact backOneA_ok hm hs hcall hob hentb hr
    · exact chunkA_ok hm hs hcall hone hent h
theorem backOneA_none {gf gb k fuel : Nat} {L0 : Lore} {c : Code} {s : St} {r : Ex × St} (h : chunkA P gf fuel L0 call c s = some r) : backOneA P gb k fuel L0 call c s = none := by
  unfold chunkA at h
  split at h
  case h_2 => cases h
  rename_i g ps assign body
  split at h
  case h_2 => cases h
  rename_i p g' i j hps hev hpl
  unfold backOneA
  simp only [hps]
theorem backA_none' {gb k fuel : Nat} {L0 : Lore} {c : Code} {s : St} {r : Ex × St} (h : backOneA P gb k fuel L0 call c s = some r) : backA gb c s = none := by
  unfold backOneA at h
  split at h
  case h_2 => cases h
  rename_i g ps assign body
  split at h
  case h_2 => cases h
  rename_i p q g' i hps hev hpl
  split at h
  case h_2 => cases h
  rename_i sv hg hsv
  split at h
  case h_2 => cases h
  rename_i id off h1
  have he : emptyA sv = false := by
    unfold oneA at h1
    split at h1
    · rfl
    · rfl
    · cases h1
  unfold backA
  simp only [hev, hg, hsv, he]
end
end Ev
end Go.Proofs.YtpppaheennkkpaaGreatDoor

/- Plain searches in texts, as the kernel runs them. -/
namespace Go.Proofs.YtpppaheennkkpaaGreatDoor
namespace Ev

def preA : List UInt8 → List UInt8 → Bool
  | [], _ => true
  | a :: x, b :: y => match Nat.beq a.toNat b.toNat with
    | true => preA x y
    | false => false
  | _ :: _, [] => false
theorem preA_eq : ∀ x y : List UInt8, preA x y = x.isPrefixOf y
  | [], y => by simp [preA]
  | a :: x, b :: y => by
    unfold preA
    cases h : Nat.beq a.toNat b.toNat with
    | true =>
      have := UInt8.toNat_inj.1 (Nat.eq_of_beq_eq_true h)
      subst this
      simp [preA_eq x y]
    | false =>
      have h2 : ¬ a = b := fun e => by subst e; simp at h
      have : (a == b) = false := by simp [h2]
      simp [List.isPrefixOf, this]
  | _ :: _, [] => by simp [preA]
def placeA (t : List UInt8) : List UInt8 → Nat → Option Nat
  | [], k => match t with
    | [] => some k
    | _ :: _ => none
  | b :: l, k => match preA t (b :: l) with
    | true => some k
    | false => placeA t l (k + 1)
def placeI (o : Option Nat) : Int := match o with
  | some i => .ofNat i
  | none => .negSucc 0
theorem placeA_ge (t : List UInt8) : ∀ (s : List UInt8) (k i : Nat), placeA t s k = some i → k ≤ i
  | [], k, i, h => by
    unfold placeA at h
    split at h
    · cases h; exact Nat.le_refl _
    · cases h
  | b :: l, k, i, h => by
    unfold placeA at h
    split at h
    · cases h; exact Nat.le_refl _
    · have := placeA_ge t l (k + 1) i h; omega
theorem placeA_eq (t : List UInt8) : ∀ (s : List UInt8) (k : Nat), (match placeA t s k with
    | some i => ((i - k : Nat) : Int)
    | none => -1) = Lib.index s t
  | [], k => by
    unfold placeA Lib.index
    cases t with
    | nil => simp
    | cons a t => rfl
  | b :: l, k => by
    unfold placeA Lib.index
    rw [preA_eq]
    cases h : t.isPrefixOf (b :: l) with
    | true => simp
    | false =>
      have ih := placeA_eq t l (k + 1)
      simp only [Bool.false_eq_true, if_false]
      rw [← ih]
      cases e : placeA t l (k + 1) with
      | none => simp
      | some i =>
        have := placeA_ge t l (k + 1) i e
        have hne : (((i - (k + 1) : Nat) : Int) == -1) = false := by
          rw [beq_eq_false_iff_ne]; omega
        simp only [hne, Bool.false_eq_true, if_false]
        omega
theorem place_run (s t : List UInt8) : Lib.index s t = placeI (placeA t s 0) := by
  rw [← placeA_eq t s 0]
  unfold placeI
  cases placeA t s 0 <;> rfl

def bytA (c : Nat) : List UInt8 → Nat → Option Nat
  | [], _ => none
  | b :: l, k => match Nat.beq b.toNat c with
    | true => some k
    | false => bytA c l (k + 1)
theorem bytA_find (c : UInt8) : ∀ (s : List UInt8) (k : Nat), bytA c.toNat s k = ((List.range s.length).find? fun i : Nat => s[i]! == c).map (· + k)
  | [], k => by simp [bytA]
  | b :: l, k => by
    unfold bytA
    rw [List.length_cons, List.range_succ_eq_map, List.find?_cons]
    cases h : Nat.beq b.toNat c.toNat with
    | true =>
      have := UInt8.toNat_inj.1 (Nat.eq_of_beq_eq_true h)
      subst this
      simp
    | false =>
      have h2 : ¬ b = c := fun e => by subst e; simp at h
      have : ((b :: l)[0]! == c) = false := by simp [h2]
      rw [this, bytA_find c l (k + 1), List.find?_map]
      simp only [Function.comp_def, Option.map_map]
      have e : (fun i : Nat => (b :: l)[i.succ]! == c) = fun i : Nat => l[i]! == c := by funext i; simp
      rw [e]
      cases (List.range l.length).find? fun i : Nat => l[i]! == c with
      | none => rfl
      | some i => simp; omega
theorem byte_run (s : List UInt8) (c : UInt8) : firstIdx ⟨s.toArray⟩ c = placeI (bytA c.toNat s 0) := by
  rw [bytA_find c s 0]
  unfold firstIdx placeI
  have e : (⟨s.toArray⟩ : ByteArray).size = s.length := by simp [ByteArray.size]
  rw [e]
  have e2 : (fun i : Nat => (⟨s.toArray⟩ : ByteArray)[i]! == c) = fun i : Nat => s[i]! == c := by
    funext i
    have : (⟨s.toArray⟩ : ByteArray)[i]! = s[i]! := by
      rcases Nat.lt_or_ge i s.length with h | h
      · rw [getElem!_pos (⟨s.toArray⟩ : ByteArray) i (by rw [e]; exact h), getElem!_pos s i h]; rfl
      · rw [getElem!_neg (⟨s.toArray⟩ : ByteArray) i (by rw [e]; omega), getElem!_neg s i (by omega)]
    rw [this]
  rw [e2]
  cases (List.range s.length).find? fun i : Nat => s[i]! == c <;> rfl
end Ev
end Go.Proofs.YtpppaheennkkpaaGreatDoor
