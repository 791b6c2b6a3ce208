/-
  CLOSED FACTS of CallNone's row, each reckoned by the kernel alone: the rest.
-/
import Derived.Test.YtogmhgklmjbfaaaGreatDoorRows
import Derived.JoinedOf
namespace Go.Proofs.YtogmhgklmjbfaaaGreatDoor
theorem cMapsRowed : mapsRowed Tryz.pinned.checked.prog = true := by kernel_rfl
theorem cPlainKeys : (Rows.callNoneRow.plainKeys == Tryz.pinned.checked.prog.plainKeys) = true := by kernel_rfl
theorem cStopsHeard : Tryz.pinned.checked.prog.stopsHeard = true := by kernel_rfl
theorem cMayEnter : Tryz.pinned.checked.prog.mayEnter = true := by kernel_rfl
end Go.Proofs.YtogmhgklmjbfaaaGreatDoor
