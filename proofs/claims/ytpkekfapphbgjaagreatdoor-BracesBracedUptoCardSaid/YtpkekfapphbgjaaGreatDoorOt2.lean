/-
  THE ROWS TIED TO THE PROGRAM'S TEXT: what its start leaves.
-/
import Derived.Test.YtpkekfapphbgjaaGreatDoorOt1
namespace Go.Proofs.YtpkekfapphbgjaaGreatDoor
open Go
set_option maxRecDepth 100000
theorem tie1lr (os : _) (tape : _) : doorLeaves Tryz.prog 100 8 257 tie1l os tape = some (tie1l.filter fun x => x.2.handleName?.isNone, (funcsListed tie1l).map (·.2.funcsOut)) := by kernel_rfl
end Go.Proofs.YtpkekfapphbgjaaGreatDoor
