/- A statement whose order Go leaves open: the whole of it. -/
import Derived.Test.YtpppaheennkkpaaGreatDoorEY
namespace Go.Proofs.YtpppaheennkkpaaGreatDoor
namespace Ev

theorem maskOf_edge {bm' : T Nat} {o : Oper} {e : Edge} (he : e ∈ o.after) (hb : Region.binds .any e = true) : Nat.testBit (maskOf bm' o) e.on = true := by
  unfold maskOf
  have key : ∀ (l : List Edge) (s : Nat), (Nat.testBit s e.on = true ∨ e ∈ l) → Nat.testBit (l.foldl (fun s e => match Region.binds .any e with
      | true => Nat.lor (Nat.lor s (2 ^ e.on)) (bm'.get e.on)
      | false => s) s) e.on = true := by
    intro l
    induction l with
    | nil =>
      intro s h
      rcases h with h | h
      · exact h
      · cases h
    | cons x l ih =>
      intro s h
      rw [List.foldl_cons]
      refine ih _ ?_
      rcases h with h | h
      · refine .inl ?_
        split
        · rw [bit_lor, bit_lor, h]; rfl
        · exact h
      · rcases List.mem_cons.1 h with h | h
        · subst h
          refine .inl ?_
          rw [hb]
          simp only []
          rw [bit_lor, bit_lor, Nat.testBit_two_pow]
          simp
        · exact .inr h
  exact key _ _ (.inr (Array.mem_toList_iff.2 he))

def unl (listed : Array Bool) : Nat := listed.toList.countP (fun b => !b)
def doneS (listed : Array Bool) (j : Nat) : Bool := listed.getD j false

section
variable {σ : Nat → Value} {ρ : Place} {P : Program} {G : Nat → Option Nat} {call : FuncId → List AV → Heap → Option (AV × Heap)} {ops : Array Oper} {ap : AP} {n0 : Nat} {rs : List Rec} {fin : Fr × Heap × Nat × Nat} {f0 : Fr} {C0 : Heap}
  {ρ0 : Place} {H0 : Heap} {w0 : World} {ds : List Deferred} {Q : Exit → Act → World → Prop}

theorem mask_at (hm : ops.size ≤ 256) {i : Nat} {o : Oper} (ho : ops[i]? = some o) : ∃ b' : T Nat, (maskTree ops).get i = maskOf b' o := by
  obtain ⟨b', h1, _⟩ := masks_get ops.toList 0 (.leaf 0) (by simp; omega) (fun j _ _ => rfl) i o (by simpa using ho)
  exact ⟨b', by rw [Nat.zero_add] at h1; exact h1⟩

theorem ready_nil (h : orderly ops = true) {listed : Array Bool} (hl : listed.size = ops.size) (hr : Region.ready .any ops listed = []) : ∀ i, i < ops.size → doneS listed i = true := by
  obtain ⟨h1, h2, _⟩ := orderly_spec h
  intro i
  induction i using Nat.strongRecOn with
  | _ i ih =>
    intro hi
    cases hd : doneS listed i with
    | true => rfl
    | false =>
      have ho := Array.getElem?_eq_getElem hi
      obtain ⟨b', hb'⟩ := mask_at h1 ho
      have : i ∈ Region.ready .any ops listed := mem_ready.2 ⟨by unfold doneS at hd; simpa [hl, hi] using hd, _, ho, fun e he hb => by
        have hbit := maskOf_edge (bm' := b') he hb
        rw [← hb'] at hbit
        have hlt : e.on < i := by
          rcases Nat.lt_or_ge e.on i with g | g
          · exact g
          · rw [Nat.testBit_lt_two_pow (Nat.lt_of_lt_of_le (h2 i hi) (Nat.pow_le_pow_right (by omega) g))] at hbit; cases hbit
        exact ih e.on hlt (by omega)⟩
      rw [hr] at this; cases this

theorem doneS_set {listed : Array Bool} {i : Nat} (hi : i < listed.size) (j : Nat) : doneS (listed.setIfInBounds i true) j = (doneS listed j || decide (j = i)) := by
  unfold doneS
  by_cases h : j = i
  · subst h; simp [hi]
  · rw [getD_set_ne _ (Ne.symm h)]; simp [h]
theorem unl_set {listed : Array Bool} {i : Nat} (hi : i < listed.size) (h : doneS listed i = false) : unl (listed.setIfInBounds i true) + 1 = unl listed := by
  unfold unl
  have hlen : i < listed.toList.length := by simpa using hi
  have hget : listed.toList[i] = false := by unfold doneS at h; simpa [hi] using h
  have hpos : 0 < listed.toList.countP (fun b => !b) := List.countP_pos_iff.2 ⟨false, hget ▸ List.getElem_mem hlen, rfl⟩
  rw [Array.toList_setIfInBounds, List.countP_set hlen, hget]
  simp only [Bool.not_false, Bool.not_true, if_true, Bool.false_eq_true, if_false, Nat.add_zero]
  omega

theorem Ctx.go (c : Ctx P call ops ap n0 rs fin f0 C0) (hs : ∀ i, (σ i).oneCell' = true) (hcall : CallsOK σ P G call) (hsz : f0.sz ≤ 512) (hG : f0.g = G) (hG0 : GOK G ρ0) (hn0 : H0.next = n0) (hr0 : HR σ ρ0 H0 w0.heap) (hapo : ∀ ia id k, ap.app = some (ia, some (id, k)) → id < H0.next ∧ H0.get id = some k)
    (hQ : ∀ S ρ a w, (∀ i, i < ops.size → S i = true) → SOK ops S → Inv σ ops ap n0 rs fin f0 ρ0 H0 w0 ds S (XL ops rs fin S) ρ a w → Q .normal a w) : ∀ (n : Nat) (listed : Array Bool) (ρ : Place) (a : Act) (w : World), listed.size = ops.size → unl listed ≤ n → SOK ops (doneS listed) →
      Inv σ ops ap n0 rs fin f0 ρ0 H0 w0 ds (doneS listed) (XL ops rs fin (doneS listed)) ρ a w → wpAny P .any ops Q n listed a w
  | 0, listed, ρ, a, w, hl, hu, hS, inv => by
    have hall : ∀ i, i < ops.size → doneS listed i = true := fun i hi => by
      have h0 : unl listed = 0 := by omega
      unfold unl at h0
      rw [List.countP_eq_zero] at h0
      have := h0 listed[i] (by simp)
      unfold doneS
      simpa [hl, hi] using this
    refine ⟨?_, hQ _ _ _ _ hall hS inv⟩
    cases hr : Region.ready .any ops listed with
    | nil => rfl
    | cons i l =>
      have hi : i ∈ Region.ready .any ops listed := by rw [hr]; simp
      obtain ⟨h1, o, ho, _⟩ := mem_ready.1 hi
      have hib := (Array.getElem?_eq_some_iff.1 ho).1
      have := hall i hib
      unfold doneS at this
      simp [hl, hib] at h1 this
      rw [h1] at this; cases this
  | n + 1, listed, ρ, a, w, hl, hu, hS, inv => by
    refine ⟨fun hr => hQ _ _ _ _ (ready_nil c.ord hl hr) hS inv, fun i hi => ?_⟩
    obtain ⟨h1, o, ho, hready⟩ := mem_ready.1 hi
    have hib := (Array.getElem?_eq_some_iff.1 ho).1
    have hib' : i < listed.size := by omega
    have hd : doneS listed i = false := by unfold doneS; simpa [hib'] using h1
    have hset := doneS_set (listed := listed) hib'
    refine wpOp_mono (fun a' w' h => ?_) (c.step hs hcall hsz hG hG0 hn0 hr0 hapo hS inv ho hready hd hset)
    obtain ⟨ρ', inv'⟩ := h
    refine c.go hs hcall hsz hG hG0 hn0 hr0 hapo hQ n _ ρ' a' w' (by simp [hl]) (by have := unl_set hib' hd; omega) ⟨fun k ok hk hok e he hb => ?_, fun k hk => ?_⟩ inv'
    · rw [hset, Bool.or_eq_true] at hk
      rw [hset, Bool.or_eq_true]
      rcases hk with hk | hk
      · exact .inl (hS.closed k ok hk hok e he hb)
      · have : k = i := by simpa using hk
        subst this
        rw [ho] at hok; cases hok
        exact .inl (hready e he hb)
    · rw [hset, Bool.or_eq_true] at hk
      rcases hk with hk | hk
      · exact hS.bound k hk
      · have : k = i := by simpa using hk
        omega

theorem valS_congr {S S' : Nat → Bool} {t : Nat} : ∀ n, (∀ j, j < n → S j = S' j) → valS ops rs f0 S t n = valS ops rs f0 S' t n
  | 0, _ => rfl
  | n + 1, h => by
    have ih := valS_congr (t := t) n (fun j hj => h j (by omega))
    rw [valS, valS, ih, h n (Nat.lt_succ_self n)]
theorem valS_false {t : Nat} : ∀ n, valS ops rs f0 (fun _ => false) t n = f0.t.get t
  | 0 => rfl
  | n + 1 => by
    have ih := valS_false (t := t) n
    rw [valS, ih]
    split <;> simp

/-- A statement whose order Go leaves open, its loose append's row out of sight. -/
theorem drawB_any (hs : ∀ i, (σ i).oneCell' = true) (hcall : CallsOK σ P G call) {f f' : Fr} {H HX H' : Heap} {a : Act} {w : World} (hr : HR σ ρ H w.heap) (hf : FR σ ρ f a.tmps) (hG : f.g = G) (hord : orderly ops = true) (hroom : H.next + ops.size ≤ 65536)
    (hxr : HR σ ρ HX w.heap) (hxs : Step ρ H w ρ HX w) (hxn : HX.next = H.next) (hxg : ∀ j l, j < H.next → HX.get j = some l → H.get j = some l) (hapo : ∀ ia id k, ap.app = some (ia, some (id, k)) → id < H.next ∧ H.get id = some k ∧ HX.get id = none)
    (hsafe : ∀ ia old, ap.app = some (ia, old) → appSafe (maskTree ops) ia ops.toList 0 = true)
    (h : drawB P call ops ap f H.next ⟨HX.t, H.next + ops.size⟩ = some (f', H')) (hQ : ∀ ρ' a' w', HR σ ρ' H' w'.heap → Step ρ H w ρ' H' w' → FR σ ρ' f' a'.tmps → f'.g = G → a'.defers = a.defers → Q .normal a' w') : wpAny P .any ops Q ops.size (Array.replicate ops.size false) a { w with drawn := w.drawn + 1 } := by
  unfold drawB at h
  split at h
  case h_2 => cases h
  rename_i rs f1 C M A hrun
  split at h
  case h_2 => cases h
  rename_i hflt hlate
  cases h
  obtain ⟨⟨tl, t1, t2⟩, hz, hL⟩ := runD_laid ops.toList f ⟨HX.t, H.next + ops.size⟩ 0 0 [] rs (f', C, M, A) hrun (fun i => by simp)
  have c : Ctx P call ops ap H.next rs (f', C, M, A) f ⟨HX.t, H.next + ops.size⟩ := ⟨hL, by rw [t1]; simpa using t2, hz, hord, hflt, hroom, hsafe, hlate⟩
  have s := hxr.small
  have out0 : ∀ i, H.next ≤ i → i < 65536 → HX.get i = none := fun i hi => hxr.out i (by omega)
  have get0 : ∀ i, (⟨HX.t, H.next + ops.size⟩ : Heap).get i = HX.get i := fun _ => rfl
  refine c.go (w0 := w) (ds := a.defers) (ρ0 := ρ) (H0 := H) hs hcall hf.1 hG (fun g id hg => hf.2.2.2 g id (hG ▸ hg)) rfl hr (fun ia id k e => ⟨(hapo ia id k e).1, (hapo ia id k e).2.1⟩) ?_ ops.size _ ρ a _ (by simp) ?_ ?_ ?_
  · -- all is done
    intro S ρ' a' w' hall hS inv
    have hST : ST ops rs S = ops.size := by
      obtain ⟨u1, _, u3⟩ := ST_spec (ops := ops) (rs := rs) S
      rcases Nat.lt_or_ge (ST ops rs S) ops.size with g | g
      · have := (u3 g).2
        rw [hall _ g] at this; cases this
      · omega
    have hfin : stAt rs (f', C, M, A) ops.size = (f', C, M, A) := by unfold stAt; rw [List.getElem?_eq_none (by rw [c.len]; exact Nat.le_refl _)]
    have hX : XL ops rs (f', C, M, A) S = lateH rs (lastView M C rs 0) := by
      have key : ∀ (l : List Rec) (k : Nat) (H : Heap), (∀ j, j < l.length → S (k + j) = true) → latePl S l k H = latePl (fun _ => true) l k H := by
        intro l
        induction l with
        | nil => intros; rfl
        | cons x l ih =>
          intro k H h
          have ih := fun H => ih (k + 1) H (fun j hj => by
            have := h (j + 1) (by simp; omega)
            rw [show k + 1 + j = k + (j + 1) by omega]; exact this)
          have h0 := h 0 (by simp)
          rw [Nat.add_zero] at h0
          rw [latePl_cons, latePl_cons]
          cases x.kd with
          | late id b => simp only [h0]; exact ih _
          | _ => exact ih _
      rw [lateH_eq rs 0]
      unfold XL
      rw [key rs 0 _ (fun j hj => by rw [Nat.zero_add]; exact hall j (by rw [← c.len]; exact hj))]
      congr 1
      unfold XS
      rw [hST, hfin, lastView_eq]
      refine viewP_congr rs _ 0 (fun j r id k hj hk => ?_)
      have : j < ops.size := by rw [← c.len]; exact (List.getElem?_eq_some_iff.1 hj).1
      rw [Nat.zero_add, hall j this]
      rfl
    obtain ⟨fr1, fr2, fr3⟩ := c.frame hf.1 ops.size (Nat.le_refl _)
    rw [hfin] at fr1 fr2 fr3
    simp only at fr1 fr2 fr3
    refine hQ ρ' a' w' (hX ▸ inv.hr) (hX ▸ inv.st) ⟨by rw [fr1]; exact hf.1, by rw [inv.size, fr1], fun t ht => ?_, fun g id hg => ?_⟩ (fr2.trans hG) inv.defers
    · rw [fr1] at ht
      obtain ⟨v, h1, h2⟩ := inv.slots t ht
      refine ⟨v, h1, ?_⟩
      rw [fr3 t ht, ← h2]
      congr 1
      exact (valS_congr _ (fun j hj => hall j hj)).symm
    · rw [fr2] at hg
      obtain ⟨n, hn⟩ := hf.2.2.2 g id hg
      exact ⟨n, inv.st.ext _ _ hn⟩
  · unfold unl
    exact Nat.le_trans List.countP_le_length (by simp)
  · exact ⟨fun k ok hk => absurd hk (by
      unfold doneS
      rw [Array.getD_eq_getD_getElem?, Array.getElem?_replicate]
      split <;> simp), fun k hk => absurd hk (by
      unfold doneS
      rw [Array.getD_eq_getD_getElem?, Array.getElem?_replicate]
      split <;> simp)⟩
  · have hS : doneS (Array.replicate ops.size false) = fun _ => false := by
      funext j
      unfold doneS
      rw [Array.getD_eq_getD_getElem?, Array.getElem?_replicate]
      split <;> rfl
    rw [hS]
    have hst : (stAt rs (f', C, M, A) (ST ops rs (fun _ => false))).2 = (⟨HX.t, H.next + ops.size⟩, 0, 0) := by
      obtain ⟨u1, u2, u3⟩ := ST_spec (ops := ops) (rs := rs) (fun _ => false)
      have := st_const c.L c.len 0 (ST ops rs (fun _ => false)) (by omega) (fun j _ h2 => by
        cases hj : isActR rs j with
        | false => rfl
        | true => have := u2 j (by omega) hj; cases this)
      rw [Nat.zero_add, c.z] at this
      exact this
    have hX : XL ops rs (f', C, M, A) (fun _ => false) = ⟨HX.t, H.next + ops.size⟩ := by
      unfold XL
      rw [latePl_none rs 0 _ (fun _ _ _ _ _ _ => rfl)]
      unfold XS
      rw [hst]
      exact viewP_none rs _ 0 (fun j _ => rfl)
    refine ⟨?_, ?_, by rw [hX]; exact Nat.le_refl _, fun j _ _ => hr.fresh _ (Nat.le_add_right _ _), fun j hj _ => ?_, hf.2.1, fun t ht => ?_, rfl, fun ia id k e _ => ?_⟩
    · rw [hX]
      refine ⟨hroom, fun i hi hi2 => ?_, fun i hi => ?_, hxr.bound, fun i k hi e => ?_, fun i j k l p q hi hj e1 e2 => ?_⟩
      · have hi : H.next + ops.size ≤ i := hi
        exact out0 i (by omega) hi2
      · have hi : H.next + ops.size ≤ i := hi
        exact hr.fresh i (by omega)
      · have hi : i < H.next + ops.size := hi
        rw [get0] at e
        refine hxr.live i k ?_ e
        rcases Nat.lt_or_ge i H.next with g | g
        · omega
        · rw [out0 i g (by omega)] at e; cases e
      · have hi : i < H.next + ops.size := hi
        have hj : j < H.next + ops.size := hj
        rw [get0] at e1 e2
        refine hxr.inj i j k l p q ?_ ?_ e1 e2
        · rcases Nat.lt_or_ge i H.next with g | g
          · omega
          · rw [out0 i g (by omega)] at e1; cases e1
        · rcases Nat.lt_or_ge j H.next with g | g
          · omega
          · rw [out0 j g (by omega)] at e2; cases e2
    · rw [hX]
      refine hxs.trans ⟨.refl _, Nat.le_refl _, fun _ _ _ => rfl, fun i k p hi e hp _ => ?_, ⟨rfl, rfl, rfl⟩, by rw [hxn]; exact Nat.le_add_right _ _, fun _ _ => rfl, fun _ _ h => h, fun _ _ _ c _ _ _ _ _ h => ⟨c, h⟩⟩
      have hi : i < H.next + ops.size := hi
      rw [get0] at e
      refine ⟨i, k, p, ?_, e, hp, rfl⟩
      rcases Nat.lt_or_ge i H.next with g | g
      · omega
      · rw [out0 i g (by omega)] at e; cases e
    · rw [hst]
      have := mkAt_lt hj
      rw [c.len] at this
      rw [get0]
      exact out0 _ (Nat.le_add_right _ _) (by omega)
    · rw [valS_false]
      exact hf.2.2.1 t ht
    · obtain ⟨b1, b2, b3⟩ := hapo ia id k e
      obtain ⟨p, p1, p2⟩ := hr.live id k b1 b2
      refine ⟨p, p1, p2, fun j l q hj hl hq e => ?_⟩
      rw [hX] at hj hl
      have hj : j < H.next + ops.size := hj
      rw [get0] at hl
      have hjn : j < H.next := by
        rcases Nat.lt_or_ge j H.next with g | g
        · exact g
        · rw [out0 j g (by omega)] at hl; cases hl
      have := hr.inj j id l k q p hjn b1 (hxg j l hjn hl) b2 hq p1 e
      subst this
      rw [b3] at hl; cases hl
theorem appFind_spec {all : List Oper} {bm : T Nat} : ∀ (l : List Oper) (i ia : Nat), appFind all bm l i = some ia → appSafe bm ia all 0 = true
  | [], _, _, h => by cases h
  | o :: l, i, ia, h => by
    unfold appFind at h
    split at h
    · rename_i hb
      cases h
      rw [Bool.and_eq_true, Bool.and_eq_true] at hb
      exact hb.2
    · exact appFind_spec l (i + 1) ia h
/-- A statement whose order Go leaves open. -/
theorem drawA_any (hs : ∀ i, (σ i).oneCell' = true) (hcall : CallsOK σ P G call) {f f' : Fr} {H H' : Heap} {a : Act} {w : World} (hr : HR σ ρ H w.heap) (hf : FR σ ρ f a.tmps) (hG : f.g = G)
    (h : drawA P call ops f H = some (f', H')) (hQ : ∀ ρ' a' w', HR σ ρ' H' w'.heap → Step ρ H w ρ' H' w' → FR σ ρ' f' a'.tmps → f'.g = G → a'.defers = a.defers → Q .normal a' w') : wpAny P .any ops Q ops.size (Array.replicate ops.size false) a { w with drawn := w.drawn + 1 } := by
  unfold drawA at h
  split at h
  case h_2 => cases h
  rename_i hord hroom
  have hroom := Nat.le_of_ble_eq_true hroom
  split at h
  · exact drawB_any (ap := ⟨none, lateBits ops⟩) (HX := H) hs hcall hr hf hG hord hroom hr .refl rfl (fun _ _ _ h => h) (fun _ _ _ e => by cases e) (fun _ _ e => by cases e) h hQ
  · rename_i ia hia
    have hsafe := appFind_spec _ _ _ hia
    split at h
    · exact drawB_any (HX := H) hs hcall hr hf hG hord hroom hr .refl rfl (fun _ _ _ h => h) (fun _ _ _ e => by cases e) (fun _ _ e => by cases e; exact hsafe) h hQ
    · rename_i id _
      split at h
      · rename_i k hk hlt
        have s := hr.small
        have hid : id < H.next := bl hlt
        refine drawB_any (HX := H.drop id) hs hcall hr hf hG hord hroom (hr.forget hid) (Step.forget hr hid) rfl (fun j l hj hl => ?_) (fun ia' id' k' e => ?_) (fun _ _ e => by cases e; exact hsafe) h hQ
        · rw [get_drop (by omega) (by omega)] at hl
          split at hl
          · cases hl
          · exact hl
        · cases e
          exact ⟨hid, hk, by rw [get_drop (by omega) (by omega), if_pos rfl]⟩
      · cases h
    · cases h
theorem drawA_wp (hm : P.follows .mixedOrders = true) (hs : ∀ i, (σ i).oneCell' = true) (hcall : CallsOK σ P G call) {id : Nat} {f f' : Fr} {H H' : Heap} {a : Act} {w : World} (hr : HR σ ρ H w.heap) (hf : FR σ ρ f a.tmps) (hG : f.g = G)
    (h : drawA P call ops f H = some (f', H')) (hQ : ∀ ρ' a' w', HR σ ρ' H' w'.heap → Step ρ H w ρ' H' w' → FR σ ρ' f' a'.tmps → f'.g = G → a'.defers = a.defers → Q .normal a' w') : (Code.region id ops true).wp P Q a w :=
  wp_region_any hm (drawA_any hs hcall hr hf hG h hQ)
end
end Ev
end Go.Proofs.YtpppaheennkkpaaGreatDoor
