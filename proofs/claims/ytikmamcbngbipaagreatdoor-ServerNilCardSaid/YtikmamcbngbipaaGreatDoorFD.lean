/- A range over slices.Backward where there is nothing: no round. -/
import Derived.Test.YtikmamcbngbipaaGreatDoorFC
namespace Go.Proofs.YtikmamcbngbipaaGreatDoor
namespace Ev
open Go.RowKit

/-- The closure, called at an empty slice: it yields never. -/
def NoRound (P : Program) (gb : Nat) : Prop := ∀ (n l bs os cap : Nat) (x : Option Addr) (W : World), W.cell? ⟨bs, os, none⟩ = some (.slice x 0 cap) →
  CallsIn Fence.wide n P gb #[.func (.yield l) #[] #[], .pointer (some ⟨bs, os, none⟩)] W fun e W' => (∃ v, e = .returned v) ∧ W' = W

def emptyA : AV → Bool
  | .nils => true
  | .slice _ _ 0 _ => true
  | .osl _ _ _ 0 _ => true
  | _ => false
noncomputable def backA (gb : Nat) (c : Code) (s : St) : Option (Ex × St) := match c with
  | .rangeFunc g _ _ _ => match ev s.f g with
    | some (.fn (.func g') [] [.ptr i 0]) => match Nat.beq g' gb, s.H.load i 0 with
      | true, some v => match emptyA v with
        | true => some (.norm, ⟨s.f, s.H, .coll :: s.ds⟩)
        | false => none
      | _, _ => none
    | _ => none
  | _ => none

section
variable {σ : Nat → Value} {ρ ρ' : Place} {P : Program} {G : Nat → Option Nat} {H H' : Heap} {w w' : World} {call : CallF}

theorem emptyA_conc {v : AV} {x : Value} (h : emptyA v = true) (hx : conc σ ρ v = some x) : ∃ a cap, x = .slice a 0 cap := by
  unfold emptyA at h
  split at h
  · simp only [conc, Option.some.injEq] at hx; exact ⟨_, _, hx.symm⟩
  · obtain ⟨p, _, rfl⟩ := conc_slice hx; exact ⟨_, _, rfl⟩
  · obtain ⟨p, _, _, _, _, rfl⟩ := conc_osl hx; exact ⟨_, _, rfl⟩
  · cases h

theorem backA_ok {gb : Nat} (hno : NoRound P gb) (hent : Enters P gb) {c : Code} {s : St} {e : Ex} {s' : St} (h : backA gb c s = some (e, s')) : CodeOK σ P G c s e s' := by
  unfold backA at h
  split at h
  case h_2 => cases h
  rename_i g ps assign body
  split at h
  case h_2 => cases h
  rename_i g' i hev
  split at h
  case h_2 => cases h
  rename_i v hgb hv
  split at h
  case h_2 => cases h
  rename_i hemp
  cases h
  have hgb := Nat.eq_of_beq_eq_true hgb
  subst hgb
  intro B ρ a w Q hB hG hr hf hd hQ
  obtain ⟨x, y, hx, hy, he⟩ := conc_fn (ev_conc hf hev)
  cases hx
  simp only [concs] at hy
  cases hci : conc σ ρ (.ptr i 0) with
  | none => rw [hci] at hy; simp at hy
  | some vi =>
  rw [hci] at hy
  simp only [Option.some.injEq] at hy
  subst hy
  obtain ⟨pi, hpi, rfl⟩ := conc_ptr hci
  refine (wpIn_wide (n := 2)).1 (wpIn_rangeFunc ?_)
  intro fn _
  obtain ⟨rec, hrec⟩ : ∃ rec : LoopState → Option Code → Loop, rec = fun st pe => { state := st, pending := pe, fn, tmps := a.tmps, params := ps, assign, body, defers := w.heap.size } := ⟨_, rfl⟩
  obtain ⟨W1, hW1⟩ : ∃ W1, (w.alloc (.deferred (some []))).alloc (.loop (rec .ready none)) = W1 := ⟨_, rfl⟩
  have hz1 : W1.heap.size = w.heap.size + 2 := by rw [← hW1]; simp
  have hL1 : W1.heap[w.heap.size + 1]? = some (.loop (rec .ready none)) := by
    rw [← hW1]; have := World.alloc_heap_new (w.alloc (.deferred (some []))) (.loop (rec .ready none)); rwa [World.size_alloc] at this
  have hK1 : W1.heap[w.heap.size]? = some (.deferred (some [])) := by
    rw [← hW1]; exact (Below.heap_alloc _ _ _ (by simp)).trans (World.alloc_heap_new w _)
  have hr1 : HR σ ρ s.H W1.heap := by rw [← hW1]; exact (hr.alloc _).alloc _
  have st1 : Step ρ s.H w ρ s.H W1 := by rw [← hW1]; exact (Step.refl.alloc _).alloc _
  have off0 : ∀ D, w.heap.size ≤ D → ∀ i k p, i < s.H.next → s.H.get i = some k → ρ i = some p → p.b ≠ D := fun D hD i k p _ _ hp e => by have := hr.bound i p hp; omega
  obtain ⟨v1, hc1, hc2⟩ := load_cell hr1 hpi hv
  obtain ⟨ad, cap, rfl⟩ := emptyA_conc hemp hc2
  refine ⟨w.heap.size + 1, [{ target := .collected w.heap.size, args := #[] }], W1, { target := .fn (.func g') #[.pointer (some ⟨pi.b, pi.o + 0, none⟩)], args := #[.func (.yield (w.heap.size + 1)) #[] #[]] }, W1, g',
    #[.func (.yield (w.heap.size + 1)) #[] #[], .pointer (some ⟨pi.b, pi.o + 0, none⟩)], W1, ?_, ?_, fun _ _ => trivial, ?_, fun _ => by omega, ?_⟩
  · rw [← hW1, hrec]; exact run_enterLoop_outer _ _ _ _ _
  · simp [resolve, he, Deferred.ofValue]
    rfl
  · exact callFunc_run hent _ _
  refine (hno 1 (w.heap.size + 1) _ _ _ _ W1 hc1).mono ?_
  rintro e W2 ⟨⟨v, rfl⟩, rfl⟩
  refine ⟨none, _, by have := run_endLoop (P := P) hL1 (by rw [hrec]; simp); rw [hrec] at this; exact this, ?_⟩
  have h5 := off0 (w.heap.size + 1) (by omega)
  have h6 := off0 w.heap.size (Nat.le_refl _)
  refine hQ ρ _ _ (hr1.putObj h5) (st1.putObj (by omega)) hf ?_ hG
  rw [World.putObj_size]
  refine ⟨w.heap.size, rfl, hB, by omega, (World.putObj_heap_other (by omega)).trans hK1, h6, ?_⟩
  exact ((hd.step st1 (Nat.le_refl _)).put (by omega))

/-- Both kinds of range. -/
noncomputable def rangeA (P : Program) (gf gb fuel : Nat) (L0 : Lore) (call : CallF) (c : Code) (s : St) : Option (Ex × St) := match backA gb c s with
  | some r => some r
  | none => chunkA P gf fuel L0 call c s
theorem rangeA_ok (hm : P.follows .mixedOrders = true) (hs : ∀ i, (σ i).oneCell' = true) (hcall : CallsOK σ P G call) {gf gb fuel : Nat} (hone : OneRound P gf) (hent : Enters P gf) (hno : NoRound P gb) (hentb : Enters P gb) {L0 : Lore} {c : Code} {s : St} {e : Ex} {s' : St} (h : rangeA P gf gb fuel L0 call c s = some (e, s')) : CodeOK σ P G c s e s' := by
  unfold rangeA at h
  split at h
  · rename_i r hr
    cases h
    exact backA_ok hno hentb hr
  · exact chunkA_ok hm hs hcall hone hent h
theorem backA_none {gf gb fuel : Nat} (hne : gf ≠ gb) {L0 : Lore} {c : Code} {s : St} {r : Ex × St} (h : chunkA P gf fuel L0 call c s = some r) : backA gb c s = none := by
  unfold chunkA at h
  split at h
  case h_2 => cases h
  rename_i g ps assign body
  split at h
  case h_2 => cases h
  rename_i p g' i j hps hev hpl
  unfold backA
  simp only [hev]
end
end Ev
end Go.Proofs.YtikmamcbngbipaaGreatDoor
