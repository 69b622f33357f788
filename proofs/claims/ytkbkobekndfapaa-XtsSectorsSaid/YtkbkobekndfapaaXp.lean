/- A block of 32 bytes, loaded. -/
import Derived.Test.YtkbkobekndfapaaXo
namespace Go.Proofs.Ytkbkobekndfapaa
open Go.RowKit
section
variable {ops : Array Oper} {rest : List Oper} {o : Oper} {a : Act} {w : World} {Q : Exit → Act → World → Prop}
theorem load32w (hgd : o.guard = none) (x : Operand) (ho : o.op = .load 34 x) (g : Nat) (hx : a.eval x = .pointer (some ⟨g, 0, none⟩))
    (t : TypeId) (bs : List Nat) (h32 : bs.length = 32) (hg : w.heap[g]? = some (.cells (bA bs) t (0, 0)))
    (h : wpList Try.prog ops Q rest (a.put o.dst (.agg (bA bs))) w) : wpList Try.prog ops Q (o :: rest) a w :=
  wpList_load_at hgd 34 x ho g 0 hx t (bA bs) (bA bs) (0, 0) _ hg Try.underlying34 rfl (by rw [bA_size, h32]; kernel_rfl) (fun j v hv => by rw [Nat.zero_add]; exact hv) h
end
end Go.Proofs.Ytkbkobekndfapaa
