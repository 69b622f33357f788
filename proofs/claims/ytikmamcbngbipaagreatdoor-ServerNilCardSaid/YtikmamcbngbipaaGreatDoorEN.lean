/- What an operation that turns nothing comes to: all of them. -/
import Derived.Test.YtikmamcbngbipaaGreatDoorEM
namespace Go.Proofs.YtikmamcbngbipaaGreatDoor
namespace Ev

section
variable {σ : Nat → Value} {ρ : Place} {P : Program} {H : Heap} {w : World}

theorem cells_size {a : AV} {v : Value} (h : conc σ ρ a = some v) (hs : ∀ i, (σ i).oneCell' = true) : v.cells.size = (cellsOf a).length := by
  have := concs_length (concs_cells h hs); simpa using this
theorem treeOf_get {z : List AV} {n i : Nat} (hz : 0 < z.length) (hi : i < n * z.length) : (reps z n)[i]? = some ((treeOf z n).get i) := by
  unfold treeOf
  split
  · rename_i v
    have : ∀ n, (reps [v] n) = List.replicate n v := fun n => by
      induction n with
      | zero => rfl
      | succ n ih => rw [reps, ih]; rfl
    rw [this, List.getElem?_replicate]
    simp only [List.length_singleton, Nat.mul_one] at hi
    rw [if_pos hi]; rfl
  · have hl := reps_length z n
    have := T.get_lay_in (d := dep (n * z.length)) (reps z n) (.leaf default) 0 i (by have := lt_dep (n * z.length); omega) (by omega) (by omega)
    simpa using this

theorem fieldPlace_run {b o : Nat} {g : Field} {n : Nat} (h : sizeA P g.type = some (n + 1)) (w : World) : (fieldPlace ⟨b, o, none⟩ g).run P w = .ok ⟨b, o + g.offset, none⟩ w := by
  simp [fieldPlace, run_size h, add_none]
theorem places_list : ∀ (l : List Field), sized P l = true → (l.mapM (fun g : Field => (do pure (g.offset, ← sizeOf g.type) : Sem (Nat × Nat)))).run P w = .ok (l.map fun f => (f.offset, (sizeA P f.type).getD 0)) w
  | [], _ => by simp
  | g :: l, hl => by
    simp only [sized, List.all_cons, Bool.and_eq_true] at hl
    obtain ⟨s, hs'⟩ := Option.isSome_iff_exists.1 hl.1
    have ih := places_list l hl.2
    simp only [List.mapM_cons, Sem.run_bind, run_size hs', Result.andThen_ok, Sem.run_pure] at ih ⊢
    rw [ih]
    simp [hs']

theorem fop_run (hs : ∀ i, (σ i).oneCell' = true) (hr : HR σ ρ H w.heap) {f : Fr} {a : Act} {o : Oper} {r : Out} (hf : EV σ ρ f a o.op.operands.toList) (h : fop P f o H = some r) : FOK σ ρ P a o w r := by
  unfold fop at h
  split at h
  · -- move
    rename_i x ho
    split at h
    · rename_i v hv
      cases h
      exact ⟨a.eval x, by simp [execOp, ho], hf.one (by simp [ho, Op.operands]) hv⟩
    · cases h
  · rename_i x ho
    split at h
    · rename_i v hv
      cases h
      exact ⟨a.eval x, by simp [execOp, ho], hf.one (by simp [ho, Op.operands]) hv⟩
    · cases h
  · -- pick
    rename_i c x y ho
    split at h
    · rename_i hc
      have hc := hf.one (by simp [ho, Op.operands]) hc
      simp only [conc, Option.some.injEq] at hc
      split at h
      · rename_i v hv
        cases h
        exact ⟨a.eval x, by simp [execOp, ho, ← hc, asBool], hf.one (by simp [ho, Op.operands]) hv⟩
      · cases h
    · rename_i hc
      have hc := hf.one (by simp [ho, Op.operands]) hc
      simp only [conc, Option.some.injEq] at hc
      split at h
      · rename_i v hv
        cases h
        exact ⟨a.eval y, by simp [execOp, ho, ← hc, asBool], hf.one (by simp [ho, Op.operands]) hv⟩
      · cases h
    · cases h
  · -- alloc
    rename_i t ho
    split at h
    · rename_i z s hz hsz
      split at h
      · rename_i hl
        cases h
        have hl := Nat.eq_of_beq_eq_true hl
        obtain ⟨zv, hz1, hz2⟩ := run_zero (σ := σ) (ρ := ρ) hz w
        have hc := concs_cells hz2 hs
        refine FOK_of (s := Instr.alloc t true (.tuple #[])) (by simp [execOp, ho]) (makes_row (v' := .pointer (some ⟨w.heap.size, 0, none⟩)) (t := t) hc ?_ ?_ (fun id => ?_))
        · simp [Instr.alloc, hz1, newVar, newRow]
        · rw [hl]
        · simp [conc, Place.with_self]
      · cases h
    · cases h
  · -- box
    rename_i t x ho
    split at h
    · rename_i v hv
      cases h
      have hc := concs_cells (hf.one (by simp [ho, Op.operands]) hv) hs
      refine FOK_of (s := Instr.box t (a.eval x)) (by simp [execOp, ho]) (makes_row (v' := .pointer (some ⟨w.heap.size, 0, none⟩)) (t := t) hc ?_ rfl (fun id => ?_))
      · simp [Instr.box, newVar, newRow]
      · simp [conc, Place.with_self]
    · cases h
  · -- build
    rename_i t parts ho
    have hpc : ∀ {ps}, evParts f parts.toList = some ps → PC σ ρ ps ((parts.map fun (i, x) => (i, a.eval x)).toList) := fun hp => by
      simpa using evParts_conc hf (fun x hx => by simp only [ho, Op.operands, List.toList_toArray]; exact List.mem_map_of_mem hx) hp
    split at h
    · rename_i fields z ps hu hz hps
      split at h
      · rename_i hsd
        split at h
        · rename_i l hl
          cases h
          obtain ⟨zv, hz1, hz2⟩ := run_zero (σ := σ) (ρ := ρ) hz w
          obtain ⟨lv, e1, e2⟩ := fillA_run hs hl (hpc hps) (concs_cells hz2 hs)
          refine FOK_val (s := Instr.build t (parts.map fun (i, x) => (i, a.eval x))) (by simp [execOp, ho]) ⟨.agg lv.toArray, ?_, by simp [conc, e2]⟩
          have hM : (fields.mapM (fun g : Field => do pure (g.offset, ← sizeOf g.type)) : Sem (Array (Nat × Nat))).run P w = .ok ((fields.toList.map fun f => (f.offset, (sizeA P f.type).getD 0)).toArray) w := by
            rw [Array.mapM_eq_mapM_toList]
            simp only [Sem.run_map, places_list fields.toList hsd, Result.andThen_ok]
          simp only [Instr.build, Sem.run_bind, hz1, Result.andThen_ok, run_und hu, hM]
          have hp' : (fun i => (List.map (fun f : Field => (f.offset, (sizeA P f.type).getD 0)) fields.toList).toArray[i]?) = placeOf P fields := by
            funext i
            unfold placeOf
            cases hfi : fields[i]? with
            | none => simp [hfi]
            | some g =>
              have hm : g ∈ fields.toList := by
                have := Array.mem_of_getElem? hfi
                simpa using this
              obtain ⟨s, hs'⟩ := Option.isSome_iff_exists.1 (List.all_eq_true.1 hsd g hm)
              simp [hfi, hs']
          simp only [Array.toArray_toList] at e1
          rw [hp', e1]
          simp
        · cases h
      · cases h
    · rename_i n e z ps hu hz hps
      split at h
      · rename_i s hsz
        split at h
        · rename_i l hl
          cases h
          obtain ⟨zv, hz1, hz2⟩ := run_zero (σ := σ) (ρ := ρ) hz w
          obtain ⟨lv, e1, e2⟩ := fillA_run hs hl (hpc hps) (concs_cells hz2 hs)
          refine FOK_val (s := Instr.build t (parts.map fun (i, x) => (i, a.eval x))) (by simp [execOp, ho]) ⟨.agg lv.toArray, ?_, by simp [conc, e2]⟩
          simp only [Instr.build, Sem.run_bind, hz1, Result.andThen_ok, run_und hu, run_size hsz]
          simp only [Array.toArray_toList] at e1
          rw [e1]
          simp
        · cases h
      · cases h
    · cases h
  · -- buildSlice
    rename_i t len parts ho
    have hpc : ∀ {ps}, evParts f parts.toList = some ps → PC σ ρ ps ((parts.map fun (i, x) => (i, a.eval x)).toList) := fun hp => by
      simpa using evParts_conc hf (fun x hx => by simp only [ho, Op.operands, List.toList_toArray]; exact List.mem_map_of_mem hx) hp
    split at h
    · rename_i e ps hu hps
      split at h
      · rename_i s z hsz hz
        split at h
        · rename_i hc
          simp only [Bool.and_eq_true] at hc
          obtain ⟨⟨c1, c2⟩, c3⟩ := hc
          have c1 := bl c1
          have c2 := Nat.eq_of_beq_eq_true c2
          have c3 := Nat.le_of_ble_eq_true c3
          split at h
          · rename_i l hl
            cases h
            obtain ⟨zv, hz1, hz2⟩ := run_zero (σ := σ) (ρ := ρ) hz w
            have hzc := concs_cells hz2 hs
            have hzl := concs_length hzc
            obtain ⟨lv, e1, e2⟩ := fillA_run hs hl (hpc hps) (reps_conc hzc len)
            have hzs : zv.cells.toList.length = s := by omega
            have hrange : ((Array.range (len * s)).map fun i => zv.cells[i % zv.cells.size]!) = (List.replicate len zv.cells.toList).flatten.toArray := by
              have := range_reps zv.cells.toList (by omega) len
              rw [hzs] at this
              simpa using this
            refine FOK_of (s := Instr.buildSlice t len (parts.map fun (i, x) => (i, a.eval x))) (by simp [execOp, ho]) (makes_row (v' := .slice (some ⟨w.heap.size, 0, none⟩) len len) (t := e) e2 ?_ rfl (fun id => ?_))
            · have q1 : ¬ len * s > 2 ^ 24 := by omega
              simp only [Instr.buildSlice, Sem.run_bind, run_und hu, Result.andThen_ok, run_size hsz, if_neg q1]
              by_cases hls : len * s = 0
              · have hlen : len = 0 := by
                  rcases Nat.mul_eq_zero.1 hls with e | e
                  · exact e
                  · omega
                subst hlen
                simp only [Nat.zero_mul, if_true, Sem.run_bind, Sem.run_pure, Result.andThen_ok]
                have er : (Array.map (fun i => (#[] : Array Value)[i % (#[] : Array Value).size]!) (Array.range 0)) = (List.replicate 0 zv.cells.toList).flatten.toArray := by simp
                rw [er]
                rw [Array.toArray_toList] at e1
                rw [e1]
                simp [newRow]
              · simp only [if_neg hls, Sem.run_bind, hz1, Result.andThen_ok, Sem.run_pure]
                rw [hrange]
                rw [Array.toArray_toList] at e1
                rw [e1]
                simp [newRow]
            · simp [conc, Place.with_self]
          · cases h
        · cases h
      · cases h
    · cases h
  · -- load
    rename_i t x ho
    split at h
    · rename_i id off hx
      split at h
      · rename_i v hv
        cases h
        obtain ⟨p, hp, he⟩ := conc_ptr (hf.one (by simp [ho, Op.operands]) hx)
        obtain ⟨v', h1, h2⟩ := loadVar_run (P := P) hr hp hv
        exact FOK_val (s := Instr.loadAt t (a.eval x)) (by simp [execOp, ho]) ⟨v', by simp [Instr.loadAt, he, Instr.sureAddr, h1], h2⟩
      · cases h
    · cases h
  · -- nilCheck
    rename_i x ho
    split at h
    · rename_i id off hx
      cases h
      have hc := hf.one (by simp [ho, Op.operands]) hx
      obtain ⟨p, hp, he⟩ := conc_ptr hc
      exact ⟨a.eval x, by simp [execOp, ho, he], hc⟩
    · rename_i t v hx
      cases h
      have hc := hf.one (by simp [ho, Op.operands]) hx
      obtain ⟨p, hp, he⟩ := conc_iface hc
      exact ⟨a.eval x, by simp [execOp, ho, he], hc⟩
    · rename_i g u v hx
      cases h
      have hc := hf.one (by simp [ho, Op.operands]) hx
      obtain ⟨p, q, hp, hq, he⟩ := conc_fn hc
      exact ⟨a.eval x, by simp [execOp, ho, he], hc⟩
    · cases h
  · -- binOp
    rename_i op t x y yt ho
    split at h
    · rename_i u v hu hv
      split at h
      · rename_i r hr'
        cases h
        exact FOK_val (s := do eqGuard op t x y (a.eval x) (a.eval y); Go.binOp op t (a.eval x) (a.eval y)) (by simp [execOp, ho]) (abin_run hr' (hf.one (by simp [ho, Op.operands]) hu) (hf.one (by simp [ho, Op.operands]) hv))
      · cases h
    · cases h
  · -- unOp
    rename_i op t x ho
    split at h
    · rename_i u hu
      split at h
      · rename_i r hr'
        cases h
        exact FOK_val (s := Op.unary op (a.eval x)) (by simp [execOp, ho]) (aun_run hr' (hf.one (by simp [ho, Op.operands]) hu))
      · cases h
    · cases h
  · -- convert
    rename_i src dst x ho
    split at h
    · rename_i u hu
      exact FOK_of (s := Go.convert src dst (a.eval x)) (by simp [execOp, ho]) (convA_run hr h (hf.one (by simp [ho, Op.operands]) hu))
    · cases h
  · -- makeInterface
    rename_i t x ho
    split at h
    · cases h
    · rename_i D v hne hu hv
      cases h
      have hc := hf.one (by simp [ho, Op.operands]) hv
      refine FOK_val (s := Instr.makeInterface t (a.eval x)) (by simp [execOp, ho]) ⟨.iface t (a.eval x), ?_, by simp [conc, hc]⟩
      cases D <;> first | (exact (hne _ rfl).elim) | simp [Instr.makeInterface, run_und hu]
    · cases h
  · -- makeFunc
    rename_i fn first captured ho
    split at h
    · rename_i u v hu hv
      cases h
      refine FOK_val (s := Instr.makeFunc fn (first.map a.eval) (captured.map a.eval)) (by simp [execOp, ho]) ⟨_, rfl, ?_⟩
      have e1 : (List.map a.eval first.toList).toArray = first.map a.eval := by simp [← Array.toList_map]
      have e2 : (List.map a.eval captured.toList).toArray = captured.map a.eval := by simp [← Array.toList_map]
      simp [conc, evs_conc hf (fun y hy => by simp only [ho, Op.operands]; simpa using .inl (Array.mem_toList_iff.1 hy)) hu, evs_conc hf (fun y hy => by simp only [ho, Op.operands]; simpa using .inr (Array.mem_toList_iff.1 hy)) hv, e1, e2]
    · cases h
  · -- makeMap
    rename_i t ho
    cases h
    refine FOK_of (s := Instr.makeMap t (Option.map a.eval none)) (by simp [execOp, ho]) ⟨.map (some w.heap.size), w.alloc (.map #[] 0), .map #[] 0, 0, by simp [Instr.makeMap], rfl, ⟨rfl, rfl, rfl⟩, fun id hid => ⟨⟨[], rfl, trivial⟩, by simp [conc, Place.with_self]⟩⟩
  · -- makeMap with a size
    rename_i t rr ho
    split at h
    · rename_i kt et k n hu hv
      cases h
      have hc := hf.one (by simp [ho, Op.operands]) hv
      simp only [conc, Option.some.injEq] at hc
      refine FOK_of (s := Instr.makeMap t (Option.map a.eval (some rr))) (by simp [execOp, ho]) ⟨.map (some w.heap.size), w.alloc (.map #[] 0), .map #[] 0, 0, by simp [Instr.makeMap, run_und hu, ← hc, asInt, asIntOf], rfl, ⟨rfl, rfl, rfl⟩, fun id hid => ⟨⟨[], rfl, trivial⟩, by simp [conc, Place.with_self]⟩⟩
    · cases h
  · -- makeSlice
    rename_i t l c ho
    split at h
    · rename_i e k n k' m hu hl hc
      have hl := hf.one (by simp [ho, Op.operands]) hl
      have hc := hf.one (by simp [ho, Op.operands]) hc
      simp only [conc, Option.some.injEq] at hl hc
      split at h
      · rename_i s z by_ hsz hz hby
        split at h
        · rename_i hcond
          cases h
          simp only [Bool.and_eq_true] at hcond
          obtain ⟨⟨⟨⟨c1, c2⟩, c3⟩, c4⟩, c5⟩ := hcond
          have c1 := Nat.le_of_ble_eq_true c1
          have c2 := Nat.le_of_ble_eq_true c2
          have c3 := Nat.le_of_ble_eq_true c3
          have c4 := bl c4
          have c5 := Nat.eq_of_beq_eq_true c5
          obtain ⟨i, hi, hib⟩ : ∃ i, P.info? e = some i ∧ i.bytes = by_ := by
            unfold bytesA at hby
            split at hby
            · rename_i i hi; cases hby; exact ⟨i, hi, rfl⟩
            · cases hby
          obtain ⟨zv, hz1, hz2⟩ := run_zero (σ := σ) (ρ := ρ) hz w
          have hzc := concs_cells hz2 hs
          have hzl := concs_length hzc
          have hzs : zv.cells.toList.length = s := by omega
          have hcells := reps_conc hzc m
          have hlen := concs_length hcells
          rw [reps_length, c5] at hlen
          have hrange : ((Array.range (m * s)).map fun i => zv.cells[i % zv.cells.size]!) = (List.replicate m zv.cells.toList).flatten.toArray := by
            have := range_reps zv.cells.toList (by omega) m
            rw [hzs] at this
            simpa using this
          have wr : ∀ q : Nat, q ≤ 1000000 → IntKind.i64.wrap (Int.ofNat q) = (q : Int) := fun q hq => by
            have := fwrap_eq .i64 (Int.ofNat q)
            rw [← this]
            unfold fwrap
            have hb : Nat.ble q 9223372036854775807 = true := Nat.ble_eq_true_of_le (by omega)
            simp [hb]
          refine FOK_of (s := Instr.makeSlice t (a.eval l) (a.eval c)) (by simp [execOp, ho]) ?_
          refine ⟨.slice (some ⟨w.heap.size, 0, none⟩) n m, w.alloc (.cells (List.replicate m zv.cells.toList).flatten.toArray e), .cells (List.replicate m zv.cells.toList).flatten.toArray e, m * s, ?_, rfl, ⟨rfl, rfl, rfl⟩, fun id hid => ⟨?_, by simp [conc, Place.with_self]⟩⟩
          · simp only [Instr.makeSlice, Sem.run_bind, run_und hu, Result.andThen_ok, ← hl, ← hc, asInt, asIntOf, Sem.run_pure, run_info hi, hib, wr n (by omega), wr m c2]
            have q1 : ¬ ((decide ((m : Int) < 0) || decide ((by_ : Int) * (m : Int) > 2 ^ 48)) || decide ((n : Int) < 0) || decide ((n : Int) > (m : Int))) = true := by
              have : (by_ : Int) * (m : Int) = ((by_ * m : Nat) : Int) := by simp
              simp only [this, Bool.or_eq_true, decide_eq_true_eq]
              omega
            rw [if_neg q1]
            simp only [Sem.run_bind, run_askRoom, Result.andThen_ok, run_size hsz, Int.toNat_natCast]
            by_cases hms : m * s = 0
            · simp only [hms, if_true, Sem.run_pure, Result.andThen_ok, newRow, Sem.run_bind, run_newObj]
              have hm0 : m = 0 := by
                rcases Nat.mul_eq_zero.1 hms with e | e
                · exact e
                · omega
              subst hm0
              have hr0 : Array.range 0 = #[] := rfl
              simp [hr0]
            · simp only [if_neg hms, Sem.run_bind, hz1, Result.andThen_ok, Sem.run_pure, newRow, run_newObj]
              rw [hrange]
              simp
          · refine ⟨_, (0, 0), rfl, .inl rfl, by simp only [List.size_toArray, Nat.zero_add]; exact hlen, Nat.le_refl _, fun j hj => ?_⟩
            have hg := treeOf_get (z := cellsOf z) (n := m) (i := j) (by omega) (by rw [c5]; exact hj)
            obtain ⟨v, e1, e2⟩ := concs_get (concs_mono (with_le hid) _ _ hcells) hg
            exact ⟨v, by simpa using e1, e2⟩
        · cases h
      · cases h
    · cases h
  · -- slice
    rename_i t x lo hi mx ho
    split at h
    · rename_i v l hh hv hl hhi
      split at h
      · rename_i m hm
        split at h
        · rename_i rr hrr
          cases h
          exact FOK_val (s := Instr.sliceAt t (a.eval x) (lo.map a.eval) (hi.map a.eval) (mx.map a.eval)) (by simp [execOp, ho])
            (sliceA_run hr hrr (hf.one (by simp [ho, Op.operands]) hv) (evO_conc hf (fun y hy => by simp [ho, Op.operands, hy]) hl) (evO_conc hf (fun y hy => by simp [ho, Op.operands, hy]) hhi) (evO_conc hf (fun y hy => by simp [ho, Op.operands, hy]) hm))
        · cases h
      · cases h
    · cases h
  · -- fieldAddr
    rename_i t x i ho
    split at h
    · rename_i fields id off hu hx
      split at h
      · rename_i g hg
        split at h
        · rename_i n hn
          cases h
          obtain ⟨p, hp, he⟩ := conc_ptr (hf.one (by simp [ho, Op.operands]) hx)
          refine FOK_val (s := Instr.fieldAt t (a.eval x) i) (by simp [execOp, ho]) ⟨.pointer (some ⟨p.b, p.o + (off + g.offset), none⟩), ?_, by simp [conc, hp]⟩
          simp [Instr.fieldAt, run_und hu, hg, he, Instr.sureAddr, fieldPlace_run hn, Nat.add_assoc]
        · cases h
      · cases h
    · cases h
  · -- field
    rename_i t x i ho
    split at h
    · rename_i fields l hu hx
      split at h
      · rename_i g hg
        split at h
        · rename_i v hv
          cases h
          obtain ⟨xs, hxs, he⟩ := conc_agg (hf.one (by simp [ho, Op.operands]) hx)
          obtain ⟨v', h1, h2⟩ := part_run (P := P) hxs hv w
          exact FOK_val (s := Instr.field t (a.eval x) i) (by simp [execOp, ho]) ⟨v', by simp [Instr.field, run_und hu, hg, he, asAgg, h1], h2⟩
        · cases h
      · cases h
    · cases h
  · -- indexAddr
    rename_i t x ix ho
    split at h
    · rename_i n e id off k i hu hx hi
      split at h
      · rename_i s hsz hlt
        cases h
        have hlt := bl hlt
        obtain ⟨p, hp, he⟩ := conc_ptr (hf.one (by simp [ho, Op.operands]) hx)
        have hi := hf.one (by simp [ho, Op.operands]) hi
        simp only [conc, Option.some.injEq] at hi
        have q : (0 : Int) ≤ (i : Int) ∧ (i : Int) < (n : Int) := by omega
        refine FOK_val (s := Instr.indexAt t (a.eval x) (a.eval ix)) (by simp [execOp, ho]) ⟨.pointer (some ⟨p.b, p.o + (off + i * s), none⟩), ?_, by simp [conc, hp]⟩
        simp [Instr.indexAt, run_und hu, ← hi, asIntOf, he, Instr.sureAddr, q, run_size hsz, add_none, Nat.add_assoc]
        intro hh; omega
      · cases h
    · rename_i e v k i hu hx hi
      split at h
      · rename_i s id off n hsz hsl
        split at h
        · rename_i hlt
          cases h
          have hlt := bl hlt
          have hi := hf.one (by simp [ho, Op.operands]) hi
          simp only [conc, Option.some.injEq] at hi
          rcases sliceOf_conc hsl (hf.one (by simp [ho, Op.operands]) hx) with ⟨e1, _⟩ | ⟨id', off', p, aa, cap, e1, hp, he, ha⟩
          · cases e1
          · cases e1
            have ha := ha (by omega)
            subst ha
            have q : (0 : Int) ≤ (i : Int) ∧ (i : Int) < (n : Int) := by omega
            refine FOK_val (s := Instr.indexAt t (a.eval x) (a.eval ix)) (by simp [execOp, ho]) ⟨.pointer (some ⟨p.b, p.o + (off + i * s), none⟩), ?_, by simp [conc, hp]⟩
            simp [Instr.indexAt, run_und hu, ← hi, asIntOf, he, q, run_size hsz, add_none, Nat.add_assoc]
            intro hh; omega
        · cases h
      · cases h
    · cases h
  · -- index
    rename_i t x ix ho
    split at h
    · rename_i n e l k i hu hx hi
      split at h
      · rename_i s hsz hlt
        split at h
        · rename_i v hv
          cases h
          have hlt := bl hlt
          obtain ⟨xs, hxs, he⟩ := conc_agg (hf.one (by simp [ho, Op.operands]) hx)
          have hi := hf.one (by simp [ho, Op.operands]) hi
          simp only [conc, Option.some.injEq] at hi
          obtain ⟨v', h1, h2⟩ := part_run (P := P) hxs hv w
          have q : (0 : Int) ≤ (i : Int) ∧ (i : Int) < (n : Int) := by omega
          exact FOK_val (s := Instr.index t (a.eval x) (a.eval ix)) (by simp [execOp, ho]) ⟨v', by simp [Instr.index, run_und hu, ← hi, asIntOf, he, q, run_size hsz, h1]; intro hh; omega, h2⟩
        · cases h
      · cases h
    · rename_i s k i hu hx hi
      split at h
      · rename_i b hb
        cases h
        have hx := hf.one (by simp [ho, Op.operands]) hx
        have hi := hf.one (by simp [ho, Op.operands]) hi
        simp only [conc, Option.some.injEq] at hx hi
        refine FOK_val (s := Instr.index t (a.eval x) (a.eval ix)) (by simp [execOp, ho]) ⟨.int .u8 b.toNat, ?_, rfl⟩
        obtain ⟨hlt, hbb⟩ := List.getElem?_eq_some_iff.1 hb
        have hsz : (⟨s.toArray⟩ : ByteArray).size = s.length := by simp [ByteArray.size]
        have hget : (⟨s.toArray⟩ : ByteArray)[i]? = some b := by
          rw [ByteArray.getElem?_lt' _ _ (by rw [hsz]; exact hlt)]
          congr 1
        simp [Instr.index, run_und hu, ← hi, ← hx, asIntOf, hget]
      · cases h
    · cases h
  · -- lookup
    rename_i t x ix ok ho
    split at h
    · rename_i m k hm hk
      split at h
      · rename_i v hv
        cases h
        exact FOK_val (s := Instr.lookup t (a.eval x) (a.eval ix) ok) (by simp [execOp, ho]) (lookA_run hr hv (hf.one (by simp [ho, Op.operands]) hm) (hf.one (by simp [ho, Op.operands]) hk))
      · cases h
    · cases h
  · -- typeAssert
    rename_i x xt asserted ok ho
    split at h
    · rename_i v hv
      split at h
      · rename_i rr hrr
        cases h
        exact FOK_val (s := Instr.typeAssert (a.eval x) xt asserted ok) (by simp [execOp, ho]) (assertA_run hrr (hf.one (by simp [ho, Op.operands]) hv))
      · cases h
    · cases h
  · -- extract
    rename_i x i ho
    split at h
    · rename_i l hl
      split at h
      · rename_i v hv
        cases h
        obtain ⟨xs, hxs, he⟩ := conc_tup (hf.one (by simp [ho, Op.operands]) hl)
        obtain ⟨v', h1, h2⟩ := concs_get hxs hv
        exact FOK_val (s := Instr.extract (a.eval x) i) (by simp [execOp, ho]) ⟨v', by simp [Instr.extract, he, h1], h2⟩
      · cases h
    · cases h
  · -- len
    rename_i args argTypes ho
    split at h
    · rename_i x t ts hargs hts
      split at h
      · rename_i v hv
        split at h
        · rename_i rr hrr
          cases h
          have ha : args = #[x] := by rw [← Array.toArray_toList (xs := args), hargs]
          have ht : argTypes[0]? = some t := by
            have : argTypes = (t :: ts).toArray := by rw [← hts]
            rw [this]; rfl
          refine FOK_val (s := Builtin.len_ argTypes o.type #[a.eval x]) ?_ (lenA_run (_u := t) hr hrr (hf.one (by simp [ho, Op.operands, Call.operands, hargs]) hv) ht)
          simp [execOp, ho, resolve, ha, invoke, builtin]
        · cases h
      · cases h
    · cases h
  · -- min
    rename_i args argTypes ho
    split at h
    · rename_i v l hv
      split at h
      · rename_i rr hrr
        cases h
        have hc := evs_conc hf (fun y hy => by simpa [ho, Op.operands, Call.operands] using hy) hv
        simp only [concs] at hc
        split at hc
        · rename_i x xs hx hxs
          have heq := Option.some.inj hc
          have hm := minA_run (P := P) (w := w) hrr hx hxs
          have ha : (args.map a.eval).toList = x :: xs := by simp [← heq]
          refine FOK_val (s := Builtin.min_ argTypes o.type (args.map a.eval)) (by simp [execOp, ho, resolve, invoke, builtin]) ?_
          obtain ⟨v', h1, h2⟩ := hm
          exact ⟨v', by simp only [Builtin.min_, ha]; simpa using h1, h2⟩
        · cases hc
      · cases h
    · cases h
  · -- max
    rename_i args argTypes ho
    split at h
    · rename_i v l hv
      split at h
      · rename_i rr hrr
        cases h
        have hc := evs_conc hf (fun y hy => by simpa [ho, Op.operands, Call.operands] using hy) hv
        simp only [concs] at hc
        split at hc
        · rename_i x xs hx hxs
          have heq := Option.some.inj hc
          have hm := minA_run (P := P) (w := w) hrr hx hxs
          have ha : (args.map a.eval).toList = x :: xs := by simp [← heq]
          refine FOK_val (s := Builtin.max_ argTypes o.type (args.map a.eval)) (by simp [execOp, ho, resolve, invoke, builtin]) ?_
          obtain ⟨v', h1, h2⟩ := hm
          exact ⟨v', by simp only [Builtin.max_, ha]; simpa using h1, h2⟩
        · cases hc
      · cases h
    · cases h
  · cases h
end
end Ev
end Go.Proofs.YtikmamcbngbipaaGreatDoor
