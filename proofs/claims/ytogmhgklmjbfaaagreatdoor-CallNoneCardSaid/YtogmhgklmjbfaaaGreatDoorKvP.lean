/-
  Any operation: what the evaluator says is what the model does.
-/
import Derived.Test.YtogmhgklmjbfaaaGreatDoorKvO
namespace Go.Proofs.YtogmhgklmjbfaaaGreatDoor.Kv
section
variable {P : Program} {p : PT} {σ : Nat → Value} {ρ : Loc} {H : Hp} {q : Nat} {w : World} {m : Nat} {E : Env} {T : Tr AV} {a : Act} {o : Oper} {res : OR}

theorem evOp_ok (hσ : Plain σ) (k : PTOk P p) (g : GlobOk p ρ) (r : ERel σ ρ m E T a) (s : Sim P σ ρ H.get w) (hq : Fresh ρ q (res.next q)) (h : evOp p o.op E T H q = some res) :
    OpOk P σ ρ H.get q w ((execOp a.eval o).run P w) res := by
  cases ho : o.op
  all_goals rw [ho] at h
  all_goals first
    | (cases h; done)
    | exact oMove_ok g r s (by simp [execOp, ho]) h
    | exact oPick_ok g r s ho h
    | exact oAlloc_ok (E := E) (T := T) hσ k s hq ho h
    | exact oBox_ok hσ g r s hq ho h
    | exact oBuild_ok hσ k g r s ho h
    | exact oBuildSlice_ok hσ k g r s hq ho h
    | exact oMapUpdate_ok k g r s (.inr ho) h
    | exact oMapUpdate_ok k g r s (.inl ho) h
    | exact oLoad_ok k g r s ho h
    | exact oStore_ok hσ k g r s ho h
    | exact oNilCheck_ok g r s ho h
    | exact oBin_ok k g r s ho h
    | exact oUn_ok g r s ho h
    | exact oConvert_ok k g r s hq ho h
    | exact oMakeIface_ok k g r s ho h
    | exact oMakeFunc_ok g r s ho h
    | exact oMakeMap_ok (E := E) (T := T) s hq ho h
    | exact oMakeSlice_ok hσ k g r s hq ho h
    | exact oSlice_ok k g r s ho h
    | exact oFieldAddr_ok k g r s ho h
    | exact oField_ok k g r s ho h
    | exact oIndexAddr_ok k g r s ho h
    | exact oIndex_ok k g r s ho h
    | exact oLookup_ok k g r s ho h
    | exact oMapEntry_ok k g r s ho h
    | exact oEntryStore_ok g r s ho h
    | exact oRange_ok k g r s hq ho h
    | exact oNext_ok g r s ho h
    | exact oEntry_ok g r s ho h
    | exact oAssert_ok k g r s ho h
    | exact oExtract_ok g r s ho h
    | exact oCall_ok hσ k g r s hq ho h
end
end Go.Proofs.YtogmhgklmjbfaaaGreatDoor.Kv
