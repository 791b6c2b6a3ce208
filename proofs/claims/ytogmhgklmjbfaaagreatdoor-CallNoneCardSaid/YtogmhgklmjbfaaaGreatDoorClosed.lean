/-
  CLOSED FACTS of CallNone's row, put together.
-/
import Derived.Test.YtogmhgklmjbfaaaGreatDoorClosedA
import Derived.Test.YtogmhgklmjbfaaaGreatDoorClosedB
import Derived.Test.YtogmhgklmjbfaaaGreatDoorClosedC
namespace Go.Proofs.YtogmhgklmjbfaaaGreatDoor
theorem and2 {a b : Bool} (h : a = true) (h' : b = true) : (a && b) = true := by rw [h, h']; rfl
theorem closed : joinedFacts Tryz.pinned.checked.prog 3 Tryz.f3 Rows.callNoneSpec Rows.callNoneRow = true := by
  unfold joinedFacts
  refine and2 (and2 (and2 (and2 (and2 (and2 (and2 (and2 (and2 (and2 (and2 (and2 (and2 (and2 (and2 (and2 (and2 (and2 (and2 (and2 (and2 (and2 (and2 (and2 (and2 (and2 (and2 (and2 (and2 (and2 (and2 cWf cLaidOut) cMapsRowed) ?_) ?_) ?_) ?_) ?_) ?_) cInPlace) cUnfollowed) cRecurses) cNamed) ?_) ?_) ?_) ?_) ?_) ?_) ?_) ?_) ?_) cPlainKeys) ?_) cStopsHeard) cMayEnter) ?_) ?_) ?_) ?_) ?_) ?_ <;> kernel_rfl
end Go.Proofs.YtogmhgklmjbfaaaGreatDoor
