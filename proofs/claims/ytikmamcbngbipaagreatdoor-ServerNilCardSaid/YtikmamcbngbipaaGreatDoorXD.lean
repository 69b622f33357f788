/- ServerNil whole, run by the kernel: its two arguments are sealed. -/
import Derived.Test.YtikmamcbngbipaaGreatDoorXC
namespace Go.Proofs.YtikmamcbngbipaaGreatDoor
open Go.RowKit Go.Shelf

def laidL (ty : TypeId) : List Ev.Lv := [⟨1, shaA, ty⟩]
set_option maxRecDepth 1000000 in
theorem run3 (ty : TypeId) : Ev.callK Tryz.prog (Ev.gsG (laidL ty) 0) (Ev.rangeK Tryz.prog (Ev.gsG (laidL ty) 0) 130 203 100000) d70 k13 100000 60 3 [.sym 0, .sym 1] (Ev.hsH (laidL ty) 0 (.leaf none)) 1 (fun v ht _ => Ev.isTrue v && Ev.sameAll (laidL ty) 0 ht) = true := by kernel_rfl
end Go.Proofs.YtikmamcbngbipaaGreatDoor
