/- VolumeNil whole, run by the kernel: the request's cells are opaque. -/
import Derived.Test.YtphlklajljmgdaaGreatDoorXC
namespace Go.Proofs.YtphlklajljmgdaaGreatDoor
open Go.RowKit Go.Shelf

def reqA : List Ev.AV := [.agg [.sym 0, .sym 1, .sym 2, .sym 3, .sym 4]]
set_option maxRecDepth 1000000 in
theorem run3 (ty : TypeId) : Ev.callK Tryz.prog (Ev.oneG 1) (Ev.chunkK Tryz.prog (Ev.oneG 1) 68 100000) d24 (fun _ => none) 100000 60 3 reqA (Ev.oneH shaA ty) 1 (fun v ht _ => Ev.isTrue v && Ev.sameBlk ht shaA) = true := by kernel_rfl
end Go.Proofs.YtphlklajljmgdaaGreatDoor
