/-
  CLOSED FACTS of CallNone's row, each reckoned by the kernel alone: what its road comes to.
-/
import Derived.Test.YtogmhgklmjbfaaaGreatDoorRows
import Derived.JoinedOf
namespace Go.Proofs.YtogmhgklmjbfaaaGreatDoor
theorem cInPlace : (Rows.callNoneRow.inPlace == Tryz.pinned.checked.prog.inPlace 3) = true := by kernel_rfl
theorem cUnfollowed : (Rows.callNoneRow.unfollowed == Tryz.pinned.checked.prog.unfollowed 3) = true := by kernel_rfl
theorem cRecurses : (Rows.callNoneRow.recurses == Tryz.pinned.checked.prog.recurses 3) = true := by kernel_rfl
theorem cNamed : (Rows.callNoneRow.named == Tryz.pinned.checked.prog.varsNamed 3) = true := by kernel_rfl
theorem cWf : Rows.callNoneRow.wf (OpenSpec.ofChange Rows.callNoneSpec) = true := by kernel_rfl
end Go.Proofs.YtogmhgklmjbfaaaGreatDoor
