/-
  THE TIED CARD OF CallNone: the row's statement, with the two listed tables of unicode/utf8 tied to the program's text.
-/
import Derived.Test.YtogmhgklmjbfaaaGreatDoorRow
namespace Go.Proofs.YtogmhgklmjbfaaaGreatDoor

theorem noneGoes : (Tryz.prog.funcs.toList.any Func.goes) = false := by kernel_rfl
/-- no function starts a goroutine: whatever the call reaches, none does -/
theorem goes_no : false = Rows.callNoneRow.goesBy Tryz.pinned.checked.prog := by
  have h : ∀ f : FuncId, Tryz.prog.goes f = false := by
    intro f
    have h0 : Tryz.prog.funcs.any Func.goes = false := by rw [← Array.any_toList]; exact noneGoes
    unfold Program.goes
    rw [h0, Bool.and_false, Bool.or_false]
    rw [List.any_eq_false]
    intro g _
    cases e : Tryz.prog.funcs[g]? with
    | none => simp
    | some fn =>
      have hm : fn ∈ Tryz.prog.funcs.toList := List.mem_of_getElem? (by rw [Array.getElem?_toList]; exact e)
      have := List.any_eq_false.1 noneGoes fn hm
      simpa using this
  have h1 : ∀ n : String, Tryz.prog.goesFrom n = false := by
    intro n
    unfold Program.goesFrom
    cases Tryz.prog.funcNamed n with
    | none => rw [Option.any_none]
    | some f => rw [Option.any_some, h f]
  have h2 : ∀ n : String, Tryz.pinned.checked.prog.goesFrom n = false := h1
  have hs : Rows.callNoneRow.start = .entering := rfl
  unfold OpenClaim.goesBy Program.goesAt
  rw [h2, hs]
  rfl

theorem card_holds : Rows.CallNoneCardSaid :=
  Claim7.holds_tied_plain_at .later [] [.data, .pinned] true (true, "6a611dbc56a61ba31e4011d67e32905c2255d5ca23354f2a303a8fc23f4425c4") true holds (fun _ h => by cases h) (by kernel_rfl) (fun _ h => by cases h) callNone_row_tie rfl ⟨rfl, rfl⟩ (by kernel_rfl) rfl
    (fun f fn hf hfn => by
      obtain rfl : f = 3 := Option.some.inj ((show Tryz.prog.funcNamed "keystone/keystonelaw25.CallNone" = some 3 by kernel_rfl).symm.trans hf) |>.symm
      obtain rfl : fn = Tryz.f3 := (Option.some.inj (Tryz.func3.symm.trans hfn)).symm
      exact ⟨by kernel_rfl, fun j t ht => by
        rw [Tryz.params3] at ht
        have hm : t ∈ [3] := by simpa using Array.mem_of_getElem? ht
        have hall : ([3].all fun u => !Tryz.prog.wantsStandIn u) = true := by kernel_rfl
        exact (show Tryz.prog.wantsStandIn t = false by simpa using List.all_eq_true.1 hall t hm)⟩)
    goes_no
#print axioms card_holds
end Go.Proofs.YtogmhgklmjbfaaaGreatDoor
