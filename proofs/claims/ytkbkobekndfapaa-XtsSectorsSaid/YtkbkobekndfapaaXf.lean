/- Seal and Open of package xts: their contracts. -/
import Derived.Test.YtkbkobekndfapaaXe
namespace Go.Proofs.Ytkbkobekndfapaa
open Go.RowKit

/-- A cipher of package xts with its two lists of round keys. -/
def XC (w : World) (xb : Nat) (k1 k2 : List (List Nat)) : Prop := ∃ p1 q1 c1 u1 p2 q2 c2 u2 n1 n2, XtsAt w xb p1 q1 c1 u1 k1 p2 q2 c2 u2 k2 ∧ Keys n1 k1 ∧ Keys n2 k2 ∧ 1 ≤ n1 ∧ 1 ≤ n2
theorem XC.later {w w' : World} {xb : Nat} {k1 k2 : List (List Nat)} (h : XC w xb k1 k2) (hm : Mod No w w') : XC w' xb k1 k2 := by
  obtain ⟨p1, q1, c1, u1, p2, q2, c2, u2, n1, n2, h1, h2⟩ := h
  exact ⟨p1, q1, c1, u1, p2, q2, c2, u2, n1, n2, h1.later hm, h2⟩
/-- What Seal, Open and the document's answers return at data that may be. -/
def XGood (w : World) (f : List Nat → List Nat) (t0 data : List Nat) (len : Nat) (e : Ending) (w' : World) : Prop :=
  ∃ g c r, e = .returned (.tuple #[.slice (some ⟨g, 0, none⟩) len c, .int .i64 0]) ∧ Mod No w w' ∧ len ≤ c ∧ c ≤ maxLen ∧ w.heap.size ≤ g ∧ BytesAt w' (some ⟨g, 0, none⟩) len c r ∧ Sealed f t0 data r
theorem FlatAt.bytes {w : World} {g c : Nat} {cur : Array Value} {l : List Nat} (h : FlatAt w g cur l) : BytesAt w (some ⟨g, 0, none⟩) l.length c l :=
  ⟨rfl, h.ok, .inr ⟨g, 0, rfl, fun j hj => by rw [Nat.zero_add]; exact h.at hj⟩⟩
def XNone (w : World) (n : Int) (e : Ending) (w' : World) : Prop := e = .returned (.tuple #[.slice none 0 0, .int .i64 n]) ∧ Mod No w w'

theorem xseal_nil (s : Nat) (a : Option Addr) (len cap : Nat) (w : World) :
    Calls Try.prog 23 #[.pointer none, .int .u64 (s : Int), .slice a len cap] w fun e w' => XNone w 1 e w' := by
  go_enter Try.func23, Try.ntmps23
  go_wp2_with fail
  refine bodyPost_ret (v := .tuple #[.slice none 0 0, .int .i64 1]) (by simp [results, Try.results23, go_sem]) rfl ⟨rfl, Mod.refl _ _⟩
theorem xseal_wrong (xb : Nat) (k1 k2 : List (List Nat)) (s : Nat) (a : Option Addr) (len cap : Nat) (w : World) (hx : XC w xb k1 k2) (h : len = 0 ∨ len % 16 ≠ 0) :
    Calls Try.prog 23 #[.pointer (some ⟨xb, 0, none⟩), .int .u64 (s : Int), .slice a len cap] w fun e w' => XNone w 52 e w' := by
  obtain ⟨p1, q1, c1, u1, p2, q2, c2, u2, n1, n2, hx, hk1, hk2, hn1, hn2⟩ := hx
  have c0 : w.cell? ⟨xb, 0, none⟩ = some (.pointer (some ⟨p1, 0, none⟩)) := blk_cell hx.cell rfl
  have hmf : ∀ (fn : Fn) (first cap : Array Value) (w : World), (Instr.makeFunc fn first cap).run Try.prog w = .ok (.func fn first cap) w := fun _ _ _ _ => rfl
  clear hx
  go_enter Try.func23, Try.ntmps23
  go_wp2_with fail
  refine (each_wrong _ _ _ a len cap w h).mono ?_
  rintro e w' ⟨rfl, rfl⟩
  go_wp2_with fail
  refine bodyPost_ret (v := .tuple #[.slice none 0 0, .int .i64 52]) (by simp [results, Try.results23, go_sem]) rfl ⟨rfl, Mod.refl _ _⟩
theorem xseal_ok (xb : Nat) (k1 k2 : List (List Nat)) (s : Nat) (a : Option Addr) (len cap : Nat) (data : List Nat) (w : World) (hx : XC w xb k1 k2) (hs : s < 18446744073709551616)
    (hd : BytesAt w a len cap data) (h0 : 0 < len) (h16 : len % 16 = 0) (hlen : len ≤ 140737488351232) :
    Calls Try.prog 23 #[.pointer (some ⟨xb, 0, none⟩), .int .u64 (s : Int), .slice a len cap] w fun e w' => XGood w (enc k1) (enc k2 (secB s)) data len e w' := by
  obtain ⟨p1, q1, c1, u1, p2, q2, c2, u2, n1, n2, hx, hk1, hk2, hn1, hn2⟩ := hx
  have c0 : w.cell? ⟨xb, 0, none⟩ = some (.pointer (some ⟨p1, 0, none⟩)) := blk_cell hx.cell rfl
  have hmf : ∀ (fn : Fn) (first cap : Array Value) (w : World), (Instr.makeFunc fn first cap).run Try.prog w = .ok (.func fn first cap) w := fun _ _ _ _ => rfl
  have hE := Lib.hid (each_enc xb p1 q1 c1 u1 k1 p2 q2 c2 u2 k2 n1 n2 s a len cap data w hx hk1 hk2 hn1 hn2 hs hd h0 h16 hlen)
  have hdl := hd.size
  clear hx hd
  go_enter Try.func23, Try.ntmps23
  go_wp2_with fail
  refine hE.out.mono ?_
  rintro e w' ⟨g, c, cu, r, rfl, hm, hg, hc, hc2, hf, hr⟩
  have Hf := Lib.hid hf
  clear hE hf
  go_wp2_with fail
  refine bodyPost_ret (v := .tuple #[.slice (some ⟨g, 0, none⟩) len c, .int .i64 0]) (by simp [results, Try.results23, go_sem]) rfl ?_
  refine ⟨g, c, r, rfl, hm, hc, hc2, hg, ?_, hr⟩
  have := Hf.out.bytes (c := c)
  rwa [hr.size, hdl] at this

theorem xopen_nil (s : Nat) (a : Option Addr) (len cap : Nat) (w : World) :
    Calls Try.prog 25 #[.pointer none, .int .u64 (s : Int), .slice a len cap] w fun e w' => XNone w 1 e w' := by
  go_enter Try.func25, Try.ntmps25
  go_wp2_with fail
  refine bodyPost_ret (v := .tuple #[.slice none 0 0, .int .i64 1]) (by simp [results, Try.results25, go_sem]) rfl ⟨rfl, Mod.refl _ _⟩
theorem xopen_wrong (xb : Nat) (k1 k2 : List (List Nat)) (s : Nat) (a : Option Addr) (len cap : Nat) (w : World) (hx : XC w xb k1 k2) (h : len = 0 ∨ len % 16 ≠ 0) :
    Calls Try.prog 25 #[.pointer (some ⟨xb, 0, none⟩), .int .u64 (s : Int), .slice a len cap] w fun e w' => XNone w 52 e w' := by
  obtain ⟨p1, q1, c1, u1, p2, q2, c2, u2, n1, n2, hx, hk1, hk2, hn1, hn2⟩ := hx
  have c0 : w.cell? ⟨xb, 0, none⟩ = some (.pointer (some ⟨p1, 0, none⟩)) := blk_cell hx.cell rfl
  have hmf : ∀ (fn : Fn) (first cap : Array Value) (w : World), (Instr.makeFunc fn first cap).run Try.prog w = .ok (.func fn first cap) w := fun _ _ _ _ => rfl
  clear hx
  go_enter Try.func25, Try.ntmps25
  go_wp2_with fail
  refine (each_wrong _ _ _ a len cap w h).mono ?_
  rintro e w' ⟨rfl, rfl⟩
  go_wp2_with fail
  refine bodyPost_ret (v := .tuple #[.slice none 0 0, .int .i64 52]) (by simp [results, Try.results25, go_sem]) rfl ⟨rfl, Mod.refl _ _⟩
theorem xopen_ok (xb : Nat) (k1 k2 : List (List Nat)) (s : Nat) (a : Option Addr) (len cap : Nat) (data : List Nat) (w : World) (hx : XC w xb k1 k2) (hs : s < 18446744073709551616)
    (hd : BytesAt w a len cap data) (h0 : 0 < len) (h16 : len % 16 = 0) (hlen : len ≤ 140737488351232) :
    Calls Try.prog 25 #[.pointer (some ⟨xb, 0, none⟩), .int .u64 (s : Int), .slice a len cap] w fun e w' => XGood w (dec k1) (enc k2 (secB s)) data len e w' := by
  obtain ⟨p1, q1, c1, u1, p2, q2, c2, u2, n1, n2, hx, hk1, hk2, hn1, hn2⟩ := hx
  have c0 : w.cell? ⟨xb, 0, none⟩ = some (.pointer (some ⟨p1, 0, none⟩)) := blk_cell hx.cell rfl
  have hmf : ∀ (fn : Fn) (first cap : Array Value) (w : World), (Instr.makeFunc fn first cap).run Try.prog w = .ok (.func fn first cap) w := fun _ _ _ _ => rfl
  have hE := Lib.hid (each_dec xb p1 q1 c1 u1 k1 p2 q2 c2 u2 k2 n1 n2 s a len cap data w hx hk1 hk2 hn1 hn2 hs hd h0 h16 hlen)
  have hdl := hd.size
  clear hx hd
  go_enter Try.func25, Try.ntmps25
  go_wp2_with fail
  refine hE.out.mono ?_
  rintro e w' ⟨g, c, cu, r, rfl, hm, hg, hc, hc2, hf, hr⟩
  have Hf := Lib.hid hf
  clear hE hf
  go_wp2_with fail
  refine bodyPost_ret (v := .tuple #[.slice (some ⟨g, 0, none⟩) len c, .int .i64 0]) (by simp [results, Try.results25, go_sem]) rfl ?_
  refine ⟨g, c, r, rfl, hm, hc, hc2, hg, ?_, hr⟩
  have := Hf.out.bytes (c := c)
  rwa [hr.size, hdl] at this
end Go.Proofs.Ytkbkobekndfapaa
