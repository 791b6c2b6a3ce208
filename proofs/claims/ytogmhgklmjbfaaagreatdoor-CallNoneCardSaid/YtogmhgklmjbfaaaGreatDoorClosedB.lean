/-
  A CLOSED FACT of CallNone's row, reckoned by the kernel: the program's types are laid out.
-/
import Derived.Test.YtogmhgklmjbfaaaGreatDoorRows
import Derived.JoinedOf
namespace Go.Proofs.YtogmhgklmjbfaaaGreatDoor
theorem cLaidOut : laidOutB Tryz.pinned.checked.prog = true := by kernel_rfl
end Go.Proofs.YtogmhgklmjbfaaaGreatDoor
