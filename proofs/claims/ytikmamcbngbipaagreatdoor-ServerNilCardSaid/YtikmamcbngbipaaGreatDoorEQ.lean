/- copy, clear, delete, a map written, a store; calls. -/
import Derived.Test.YtikmamcbngbipaaGreatDoorEO
namespace Go.Proofs.YtikmamcbngbipaaGreatDoor
namespace Ev

section
variable {σ : Nat → Value} {ρ : Place} {P : Program} {H H' : Heap} {w : World}

theorem stores_tree (hs : ∀ i, (σ i).oneCell' = true) (hr : HR σ ρ H w.heap) {id off m : Nat} {t t2 : T AV} {ty : TypeId} {l : List AV} {p : Pl} {vs : List Value} (hp : ρ id = some p) (hk : H.get id = some (.cells t m ty))
    (hn : off + l.length ≤ m) (hpl : l.all AV.plain = true) (hl : concs σ ρ l = some vs) (hin : ∀ i, off ≤ i → i < off + l.length → l[i - off]? = some (t2.get i)) (hout : ∀ i, i < m → ¬ (off ≤ i ∧ i < off + l.length) → t2.get i = t.get i) :
    (storeCells ⟨p.b, p.o + off, none⟩ vs).run P w = .ok () (w.setCells p.b (p.o + off) vs) ∧
      HR σ ρ (H.put id (.cells t2 m ty)) (w.setCells p.b (p.o + off) vs).heap ∧ Step ρ H w ρ (H.put id (.cells t2 m ty)) (w.setCells p.b (p.o + off) vs) := by
  have hlen := concs_length hl
  obtain ⟨q, hq, hb⟩ := hr.live id _ (hr.lt hp) hk
  rw [hp] at hq; cases hq
  obtain ⟨c, fz, h1, h2, h3, h4, h5⟩ := hb
  obtain ⟨c', a1, a2, a3⟩ := setCells_block p.b vs (p.o + off) w c ty fz h1 (by omega)
  have hB : BR σ ρ p (w.setCells p.b (p.o + off) vs).heap[p.b]? (.cells t2 m ty) := by
    refine ⟨c', fz, a1, by rw [a2]; exact h2, by rw [a2]; exact h3, h4, fun i hi => ?_⟩
    rw [a3]
    by_cases hr : off ≤ i ∧ i < off + l.length
    · rw [if_pos (by omega)]
      obtain ⟨v, e1, e2⟩ := concs_get hl (hin i hr.1 hr.2)
      exact ⟨v, by rw [show p.o + i - (p.o + off) = i - off by omega]; exact e1, e2⟩
    · rw [if_neg (by omega), hout i hi hr]
      exact h5 i hi
  refine ⟨?_, hr.turn hp hk (setCells_size _ _ _ _) (fun d hd => setCells_other _ _ _ _ d hd) hB,
    .turn hr hp hk (setCells_size _ _ _ _) (fun d hd => setCells_other _ _ _ _ d hd) (setCells_rest _ _ _ _) (fun c ty f h => setCells_cells _ _ _ _ c ty f h)⟩
  have := run_storeCells_cells (P := P) p.b (p.o + off) vs 0 w (fun j hj => ?_) (fun j hj => ?_) (cells_oneCell hs hl hpl)
  · simpa using this
  · have : p.o + off + 0 + j < c.size := by omega
    simp only [World.cell?, h1, Option.isSome_none, Bool.false_eq_true, if_false]
    rw [Array.getElem?_eq_getElem this]; rfl
  · exact not_frozen h1 h2 (by omega)

theorem store_nil (a : Addr) : (storeCells a []).run P w = .ok () w := rfl

theorem copyA_run (hs : ∀ i, (σ i).oneCell' = true) (hr : HR σ ρ H w.heap) {t ty : TypeId} {ts : Array TypeId} {d x v : AV} {d' x' : Value} (ht : ts[0]? = some t) (h : copyA P t d x H = some (v, H')) (hd : conc σ ρ d = some d') (hx : conc σ ρ x = some x') :
    Leaves σ ρ P H H' w (Builtin.copy_ ts ty #[d', x']) v := by
  unfold copyA at h
  split at h
  · rename_i e hu
    split at h
    · rename_i size base dlen hsz hdl
      have hdst : ∃ b' cap, d' = .slice b' dlen cap ∧ ((base = none ∧ dlen = 0 ∧ b' = none) ∨ ∃ id off p a, base = some (id, off) ∧ ρ id = some p ∧ b' = some a ∧ (0 < dlen → a = ⟨p.b, p.o + off, none⟩)) := by
        rcases sliceOf_conc hdl hd with ⟨e1, e2, rfl⟩ | ⟨id, off, p, a, cap, e1, hp, rfl, ha⟩
        · exact ⟨none, 0, by rw [e2], .inl ⟨e1, e2, rfl⟩⟩
        · exact ⟨some a, cap, rfl, .inr ⟨id, off, p, a, e1, hp, rfl, ha⟩⟩
      obtain ⟨b', cap, rfl, hbase⟩ := hdst
      dsimp only at h
      split at h
      · rename_i sl hsl
        have hlen : (Builtin.lenOf x').run P w = .ok sl w := by
          split at hsl
          · rename_i s
            cases hsl
            simp only [conc, Option.some.injEq] at hx
            subst hx
            simp [Builtin.lenOf, ByteArray.size]
          · split at hsl
            · rename_i b n hq
              cases hsl
              rcases sliceOf_conc hq hx with ⟨_, rfl, rfl⟩ | ⟨id, off, p, a, cap, e1, hp, rfl, ha⟩ <;> simp [Builtin.lenOf]
            · cases hsl
        have hmin : Nat.min sl dlen = min sl dlen := rfl
        split at h
        · rename_i hm0
          cases h
          have hcells : (Builtin.firstCells size 0 x').run P w = .ok #[] w := by
            split at hsl
            · rename_i s
              simp only [conc, Option.some.injEq] at hx
              subst hx
              simp [Builtin.firstCells]
            · split at hsl
              · rename_i b n hq
                rcases sliceOf_conc hq hx with ⟨_, rfl, rfl⟩ | ⟨id, off, p, a, cap, e1, hp, rfl, ha⟩
                · simp [Builtin.firstCells]
                · simp only [Builtin.firstCells, zero_mul_cells]
              · cases hsl
          refine Leaves.still hr (v' := goInt 0) ?_ rfl
          unfold Builtin.copy_
          simp only [ht, show (#[Value.slice b' dlen cap, x'] : Array Value)[0]? = some (Value.slice b' dlen cap) from rfl, show (#[Value.slice b' dlen cap, x'] : Array Value)[1]? = some x' from rfl]
          rw [bind_ok (run_und hu w)]
          dsimp only
          rw [bind_ok hlen]
          rw [bind_ok (run_size hsz w), hmin, hm0, bind_ok hcells]
          cases b' with
          | none => rfl
          | some a => rfl
        · rename_i n hm0
          split at h
          · rename_i id off l hcells
            split at h
            · rename_i H1 hst
              cases h
              rcases hbase with ⟨e1, _⟩ | ⟨id', off', p, a, e1, hp, rfl, ha⟩
              · cases e1
              · cases e1
                have hpos : 0 < min sl dlen := Nat.pos_of_ne_zero hm0
                have ha := ha (by omega)
                subst ha
                have hfc : ∃ cv, concs σ ρ l = some cv ∧ (Builtin.firstCells size (min sl dlen) x').run P w = .ok cv.toArray w := by
                  split at hcells
                  · rename_i s
                    split at hcells
                    · rename_i hs1
                      cases hcells
                      simp only [conc, Option.some.injEq] at hx
                      subst hx
                      refine ⟨_, bytesOf_conc _, ?_⟩
                      simp [Builtin.firstCells, ByteArray.extract_mk]
                    · cases hcells
                  · split at hcells
                    · rename_i id2 off2 n2 hq
                      rcases sliceOf_conc hq hx with ⟨e1, _⟩ | ⟨id3, off3, p3, a3, cap3, e1, hp3, rfl, ha3⟩
                      · cases e1
                      · cases e1
                        obtain ⟨vs, q1, q2, q3⟩ := loads_run (P := P) hr hp3 hcells
                        have hn2 : n2 = sl := by
                          split at hsl
                          · cases hq
                          · rw [hq] at hsl; cases hsl; rfl
                        have := ha3 (by omega)
                        subst this
                        exact ⟨vs, q1, by simpa [Builtin.firstCells] using q3⟩
                    · cases hcells
                obtain ⟨cv, c1, c2⟩ := hfc
                obtain ⟨s1, s2, s3⟩ := stores_run (P := P) hs hr hp hst c1
                refine ⟨ρ, .int .i64 (Int.ofNat (min sl dlen)), _, ?_, s2, s3, rfl⟩
                unfold Builtin.copy_
                simp only [ht, show (#[Value.slice (some ⟨p.b, p.o + off, none⟩) dlen cap, x'] : Array Value)[0]? = some (Value.slice (some ⟨p.b, p.o + off, none⟩) dlen cap) from rfl, show (#[Value.slice (some ⟨p.b, p.o + off, none⟩) dlen cap, x'] : Array Value)[1]? = some x' from rfl]
                rw [bind_ok (run_und hu w)]
                dsimp only
                rw [bind_ok hlen]
                rw [bind_ok (run_size hsz w), hmin, bind_ok c2]
                dsimp only
                rw [bind_ok s1]
                rfl
            · cases h
          · cases h
      · cases h
    · cases h
  · cases h
end
end Ev
end Go.Proofs.YtikmamcbngbipaaGreatDoor
