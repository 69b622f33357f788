/- The live question of layer 5: its answer is yes. -/
import Derived.Test.YtkbkobekndfapaaXh
namespace Go.Proofs.Ytkbkobekndfapaa
open Go.RowKit

def aX : List Nat := 1 :: noughts 31
theorem aX_bytes : Bytes 32 aX := by unfold aX; constructor <;> decide +kernel
theorem aX_key : keyOf aX = aX := by unfold keyOf; rw [if_neg (by decide +kernel)]
theorem aX_said : oneB (enc (xk1 aX)) (twk (enc (xk2 aX) (secB 7)) 0) (noughts 16) ≠ oneB (enc (xk1 aX)) (twk (enc (xk2 aX) (secB 7)) 1) (noughts 16) := by decide +kernel
theorem flat_take {l : List Nat} (h : l.length = 32) : l.take 16 = flatKey l 0 :=
  list_ext16 (by simp [h]) (flatKey_len _ _) fun j hj => by rw [flatKey_get _ _ _ hj]; simp [List.getD, hj]
theorem flat_drop {l : List Nat} (h : l.length = 32) : l.drop 16 = flatKey l 1 :=
  list_ext16 (by simp [h]) (flatKey_len _ _) fun j hj => by rw [flatKey_get _ _ _ hj]; simp [List.getD, List.getElem?_drop]
theorem noughts_flat (m : Nat) (h : m < 2) : flatKey (noughts 32) m = noughts 16 := by
  rcases m with _ | _ | m
  · decide +kernel
  · decide +kernel
  · omega
theorem XC.seal_open {w : World} {xb s : Nat} {data r r' : List Nat} {K1 K2 : List (List Nat)} (h : XC w xb K1 K2) (hd : data.length % 16 = 0) (hb : ∀ x ∈ data, x < 256) (h1 : Sealed (enc K1) (enc K2 (secB s)) data r) (h2 : Sealed (dec K1) (enc K2 (secB s)) r r') : r' = data := by
  obtain ⟨p1, q1, c1, u1, p2, q2, c2, u2, n1, n2, hx, hk1, hk2, hn1, hn2⟩ := h
  exact Sealed.back (enc_bytes hk2 hn2 (secB_bytes s)) hb h1 h2 hd (fun y hy => enc_bytes hk1 hn1 hy) (fun y hy => dec_enc hk1 hn1 hy)
theorem XC.open_seal {w : World} {xb s : Nat} {data r r' : List Nat} {K1 K2 : List (List Nat)} (h : XC w xb K1 K2) (hd : data.length % 16 = 0) (hb : ∀ x ∈ data, x < 256) (h1 : Sealed (dec K1) (enc K2 (secB s)) data r) (h2 : Sealed (enc K1) (enc K2 (secB s)) r r') : r' = data := by
  obtain ⟨p1, q1, c1, u1, p2, q2, c2, u2, n1, n2, hx, hk1, hk2, hn1, hn2⟩ := h
  exact Sealed.back (enc_bytes hk2 hn2 (secB_bytes s)) hb h1 h2 hd (fun y hy => dec_bytes hk1 hn1 hy) (fun y hy => enc_dec hk1 hn1 hy)
theorem run_make32 (w : World) : (Instr.makeSlice 22 (.int .i64 32) (.int .i64 32)).run Try.prog w = .ok (.slice (some ⟨w.heap.size, 0, none⟩) 32 32) (w.alloc (.cells (bA (noughts 32)) 5)) := by kernel_rfl

set_option maxRecDepth 100000 in
set_option maxHeartbeats 4000000 in
theorem xalive_any (w : World) : Calls Try.prog 20 #[] w fun e w' => e = .returned (.bool true) ∧ Mod No w w' := by
  have hsaid := Lib.hid aX_said
  have hright := keyOf_right aX_bytes
  rw [aX_key] at hright
  have hkey := Lib.hid (fun w => key_any aX w aX_bytes)
  rw [aX_key] at hkey
  go_enter Try.func20, Try.ntmps20
  go_wp2_with (refine wpList_lit rfl 34 _ rfl (bA aX) (by kernel_rfl) ?_)
  generalize aX = ax at *
  refine (hkey.out _).mono ?_
  rintro e w1 ⟨g, c, rfl, hm1, hc, hc2, hb⟩
  have B1 := Lib.hid hb
  clear hkey hb
  go_wp2_with fail
  refine (xnew_any _ 32 c ax w1 B1.out hc hc2).mono ?_
  rintro e w2 ⟨h1, _⟩
  obtain ⟨xb, rfl, hm2, hxc⟩ := h1 hright
  have X2 := Lib.hid hxc
  have M2 := Lib.hid (hm1.then hm2)
  clear h1 hxc hm1 hm2 B1
  generalize xk1 ax = k1 at *
  generalize xk2 ax = k2 at *
  have hms := run_make32
  have X3 := Lib.hid (X2.out.later ((Mod.refl No w2).alloc (.cells (bA (noughts 32)) 5)))
  have M3 := Lib.hid (M2.out.alloc (.cells (bA (noughts 32)) 5))
  have D3 := Lib.hid (show BytesAt (w2.alloc (.cells (bA (noughts 32)) 5)) (some ⟨w2.heap.size, 0, none⟩) 32 32 (noughts 32) from ⟨(noughts_bytes 32).1, (noughts_bytes 32).2, .inr ⟨_, 0, rfl, fun j hj => by rw [Nat.zero_add]; exact byte_cell (blk_new _ _) (by rw [(noughts_bytes 32).1]; exact hj)⟩⟩)
  go_wp2_with fail
  generalize hw3 : w2.alloc (.cells (bA (noughts 32)) 5) = w3 at *
  refine (xseal_ok xb k1 k2 7 _ 32 32 (noughts 32) _ X3.out (by omega) D3.out (by omega) rfl (by omega)).mono ?_
  rintro e w4 ⟨g4, c4, r, rfl, hm4, hc4, hc42, _, hb4, hse⟩
  have X4 := Lib.hid (X3.out.later hm4)
  have M4 := Lib.hid (M3.out.then hm4)
  have B4 := Lib.hid hb4
  have S4 := Lib.hid hse
  have c49 : c4 ≤ 9223372036854775807 := by unfold maxLen at hc42; omega
  have hrl := hb4.size
  have hne : r.take 16 ≠ r.drop 16 := by
    have h0 := hse.block 0 (by rw [(noughts_bytes 32).1]; omega)
    have h1 := hse.block 1 (by rw [(noughts_bytes 32).1]; omega)
    rw [flat_take hrl, flat_drop hrl, h0, h1]
    rw [noughts_flat 0 (by omega), noughts_flat 1 (by omega)]
    exact hsaid.out
  have b1 := hb4.take (n := 16) (by omega)
  have b2 := hb4.drop (n := 16) hc4 (by omega)
  have hcut : cutA (some ⟨g4, 0, none⟩) 16 c4 = some ⟨g4, 16, none⟩ := by unfold cutA; rw [if_neg (by omega)]; rfl
  rw [hcut] at b2
  have e3 := strN_eq b1.ok b2.ok
  rw [decide_eq_false hne] at e3
  have t1 : ∀ y : Later No w4, (convert 22 9 (.slice (some ⟨g4, 0, none⟩) 16 c4)).run Try.prog y.to = .ok (.string (strN (r.take 16))) y.to := fun y => (b1.later y.ok).str
  have t2 : ∀ y : Later No w4, (convert 22 9 (.slice (some ⟨g4, 16, none⟩) 16 (c4 - 16))).run Try.prog y.to = .ok (.string (strN (r.drop 16))) y.to := fun y => (b2.later y.ok).str
  generalize strN (r.take 16) = x1 at *
  generalize strN (r.drop 16) = x2 at *
  clear hms X3 M3 D3 hm4 hb4 hse b1 b2 hcut hne hsaid X2 M2
  go_wp2_with fail
  refine wp_region_laters (by kernel_rfl) (by kernel_rfl) ?_
  repeat (go_big_quiet_step (fail))
  refine wpQuiet_nil ?_
  intro y
  have X5 := Lib.hid (X4.out.later y.ok)
  have M5 := Lib.hid (M4.out.then y.ok)
  have B5 := Lib.hid (B4.out.later y.ok)
  clear t1 t2 e3 X4 M4 B4
  go_wp2_with fail
  refine (xopen_ok xb k1 k2 7 _ 32 c4 r _ X5.out (by omega) B5.out (by omega) rfl (by omega)).mono ?_
  rintro e w6 ⟨g6, c6, o6, rfl, hm6, hc6, hc62, _, hb6, hse6⟩
  have ho : o6 = noughts 32 := X5.out.seal_open (by rw [(noughts_bytes 32).1]) (noughts_bytes 32).2 S4.out hse6
  subst ho
  have M6 := Lib.hid (M5.out.then hm6)
  have B6 := Lib.hid hb6
  have hms := run_make32
  have t0 : (convert 22 9 (.slice (some ⟨g6, 0, none⟩) 32 c6)).run Try.prog w6.drew = .ok (.string (strN (noughts 32))) w6.drew := (hb6.later ((Mod.refl No w6).drew)).str
  have t1 : (convert 22 9 (.slice (some ⟨g6, 0, none⟩) 32 c6)).run Try.prog (w6.alloc (.cells (bA (noughts 32)) 5)).drew = .ok (.string (strN (noughts 32))) (w6.alloc (.cells (bA (noughts 32)) 5)).drew := (hb6.later ((Mod.refl No w6).drew.alloc _)).str
  have t2 : (convert 22 9 (.slice (some ⟨w6.heap.size, 0, none⟩) 32 32)).run Try.prog (w6.alloc (.cells (bA (noughts 32)) 5)).drew = .ok (.string (strN (noughts 32))) (w6.alloc (.cells (bA (noughts 32)) 5)).drew :=
    BytesAt.str ⟨(noughts_bytes 32).1, (noughts_bytes 32).2, .inr ⟨_, 0, rfl, fun j hj => by rw [Nat.zero_add]; exact byte_cell (blk_new w6.drew _) (by rw [(noughts_bytes 32).1]; exact hj)⟩⟩
  have e3 := strN_eq (noughts_bytes 32).2 (noughts_bytes 32).2
  rw [decide_eq_true rfl] at e3
  generalize strN (noughts 32) = z at *
  clear hm6 hb6 hse6 X5 M5 B5
  go_wp2_with fail
  go_region
  go_wp2_with fail
  go_ret
  exact ⟨rfl, (M6.out.alloc _).drew⟩
theorem xalive_later {w0 : World} (x : Later No w0) : Calls Try.prog 20 #[] x.to fun e w' => e = .returned (.bool true) ∧ ∃ y : Later No w0, w' = y.to :=
  (xalive_any x.to).mono fun _ _ ⟨he, hm⟩ => ⟨he, ⟨_, x.ok.then hm⟩, rfl⟩
end Go.Proofs.Ytkbkobekndfapaa
