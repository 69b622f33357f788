/- Law 24's live question, run by the kernel: bytealg.MaxLen is sealed. -/
import Derived.Test.YtpppaheennkkpaaGreatDoorXN
namespace Go.Proofs.YtpppaheennkkpaaGreatDoor
open Go.RowKit Go.Shelf

def laidL (ty : TypeId) : List Ev.Lv := [⟨9, shaA, ty⟩, ⟨0, [.sym 0], 3⟩]
set_option maxRecDepth 1000000 in
theorem run5 (ty : TypeId) : Ev.callK Tryz.prog (Ev.gsG (laidL ty) 0) (Ev.rangesK Tryz.prog (Ev.gsG (laidL ty) 0) 263 318 2 100000) dD kD 100000 100 5 [] (Ev.hsH (laidL ty) 0 (.leaf none)) 2 (fun v ht _ => Ev.isTrue v && Ev.sameAll (laidL ty) 0 ht) = true := by kernel_rfl
end Go.Proofs.YtpppaheennkkpaaGreatDoor
