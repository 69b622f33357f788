/- DeskNil: a line thrown at no desk comes back as an error, where what is read is of bulk at most 1048576; the statement.
   Conditions: the card's own (the listed variables as the program's text lays them). -/
import Derived.Test.YtpppaheennkkpaaGreatDoorVa
namespace Go.Proofs.YtpppaheennkkpaaGreatDoor.deskNil
open Go.ChangeShapes Go.WideShapes Go.ChangeAt Go.RowKit Go.ChangeMaps
open Go.Proofs.YtpppaheennkkpaaGreatDoor

theorem bound {H : Type} {s : ByteArray} (h : Rows.uptoSmall H ([DataW.lit (.string s.data.toList)] ++ []) = true) : s.size ≤ 4294967296 := by
  have h1 : Rows.uptoBulkAll (H := H) ([DataW.lit (.string s.data.toList)] ++ []) ≤ 1048576 := of_decide_eq_true h
  simp only [List.append_nil, Rows.uptoBulkAll, Rows.uptoBulk, Array.length_toList] at h1
  have : s.data.size = s.size := rfl
  omega

set_option maxRecDepth 100000 in
theorem lifted (os : Os) (started : os.Started) (H : Type) (enc : TypeId × Value → H) (F : Stop.Interp) :
    ReturnsInHanded {} Tryz.checked os 3 .any ((Rows.OpenSpec.upto Rows.deskNilSpec).preRow enc Tryz.prog Tryz.f3 Rows.deskNilUptoRow.domain false Rows.deskNilUptoRow.laid) (((Rows.OpenSpec.upto Rows.deskNilSpec).at F).post enc Tryz.prog Tryz.f3 false true false false) := by
  obtain ⟨places, hx⟩ := reads os enc
  have calm : ({ modest := false } : Assume).holds Tryz.checked.prog (lone (Frame.enter Tryz.checked.prog 3 arg0 .normal) [] ((start os).forCall (fun _ _ => 0) ⟨#[], arg0, []⟩)) := by
    simp only [Assume.holds]
    exact ⟨by simp, by simp, fun _ => Modest.zero, by simp, by simp⟩
  refine returnsInHanded_of_row (C := Tryz.checked) (s := Rows.OpenSpec.upto Rows.deskNilSpec) own started (by kernel_rfl) Tryz.func3
    ⟨start os, fun _ _ => 0, ⟨#[], arg0, []⟩, start_os os, shaped os, (Input.okWide_of_okWideB (base := 0) (fits os)).1, (Input.okWide_of_okWideB (fits os)).2,
      OpenSpec.preRow_of_cond 8 hx (by kernel_rfl) (fun k hk => by cases hk; kernel_rfl) (by kernel_rfl) (door_met os), calm⟩ ?_
  intro W base args ds gs before hval0 hW _ hcond _ hL hsh _
  have hval : ∀ (j : Nat) t v, Tryz.f3.params[j]? = some t → args[j]? = some v → Value.okWide Tryz.prog W .any base t v := hval0
  have hW' := hW
  obtain ⟨p, q, hA0, hV, rfl, hfz, hnd⟩ := hW
  have hA : DataW.TrodAll enc Tryz.prog W 0 (fun _ => true) true Tryz.f3.params.toList args.toList ds p := hA0
  rw [Tryz.params3] at hA hval
  obtain ⟨v0, vs0, d0, ds0, p0, q0, hargs, rfl, rfl, h0, r0⟩ := trodAll_cons hA
  obtain ⟨rfl, rfl, rfl⟩ := trodAll_nil r0
  obtain rfl : args = #[v0] := by cases args; simp_all
  obtain ⟨rfl, rfl⟩ := trodVars_none hV
  obtain ⟨s, rfl, rfl, rfl, hs⟩ := open_string Tryz.underlying9 (hval 0 9 v0 rfl rfl) h0
  have hb : s.size ≤ 4294967296 := bound (H := H) (hcond _ rfl)
  clear hA0 hval0
  obtain ⟨ty, hsha⟩ := sha_of_laid hL
  obtain ⟨m, hmost⟩ := most_of_shape hsh
  have l9 : 9 < W.heap.size := (Array.getElem?_eq_some_iff.1 hsha).1
  have l0 : 0 < W.heap.size := by omega
  refine (walk3 s hb W (fun w1 b => walk5 m w1 ty ((b.block 9 l9).trans hsha) ((b.block 0 l0).trans hmost))).mono fun e W' ⟨he, bel⟩ => ?_
  subst he
  exact ⟨_, rfl, _, _, _, [], _, [], hW', trodAll_mk1 (shut_bool Tryz.underlying4 _), (trodAll_cons_mk (shut_string Tryz.underlying9 hs) trodAll_mk0), rfl, bel.frame _, fun h => by cases h⟩

end Go.Proofs.YtpppaheennkkpaaGreatDoor.deskNil
