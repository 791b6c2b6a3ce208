/-
  CallNone: for every number that comes in the call returns true, and the number reads as it did. The run is the evaluator's, reckoned by the kernel; the tables of unicode/utf8 are laid as the row lists them (the call does not read them).
-/
import Derived.Test.YtogmhgklmjbfaaaGreatDoorRun
import Derived.Test.YtogmhgklmjbfaaaGreatDoorClosed
import Derived.Test.YtogmhgklmjbfaaaGreatDoorRows
import Derived.Test.YtogmhgklmjbfaaaGreatDoorCards
import Derived.Test.YtogmhgklmjbfaaaGreatDoorTie
import Derived.ProofKit
import Derived.OpenShut
import Derived.LaidMore
import Derived.Lay
import Derived.SevenTiedAt
import Derived.Stop.Joined
namespace Go.Proofs.YtogmhgklmjbfaaaGreatDoor
open Go.ChangeShapes Go.WideShapes Go.ChangeAt Go.RowKit
open Go.Proofs.YtogmhgklmjbfaaaGreatDoor.Kv (PTOk mkPT_ok calls_of_ev memN)

theorem own : ownKnob Tryz.prog.godebug = .none := by kernel_rfl
theorem mixed : Tryz.prog.follows .mixedOrders = true := by kernel_rfl

theorem eqs_ok (t : TypeId) (h : memN t [30, 32, 64, 112, 175] = true) : Tryz.prog.stoodInHeld t = false := by
  rw [Go.Proofs.YtogmhgklmjbfaaaGreatDoor.Kv.memN_eq] at h
  have h' : t ∈ [30, 32, 64, 112, 175] := by simpa using h
  simp only [List.mem_cons, List.mem_nil_iff, or_false] at h'
  rcases h' with rfl | rfl | rfl | rfl | rfl
  · exact Tryz.stoodInHeld30
  · exact Tryz.stoodInHeld32
  · exact Tryz.stoodInHeld64
  · exact Tryz.stoodInHeld112
  · exact Tryz.stoodInHeld175

theorem noNumber : (Tryz.prog.funcs.toList.all fun fn => !(fn.name == "runtime.NumGoroutine")) = true := by kernel_rfl
theorem names_ok (f : Nat) (fn : Func) (h : Tryz.prog.funcs[f]? = some fn) : (fn.name == "runtime.NumGoroutine") = false := by
  have hm : fn ∈ Tryz.prog.funcs.toList := List.mem_of_getElem? (by rw [Array.getElem?_toList]; exact h)
  have := List.all_eq_true.1 noNumber fn hm
  cases e : fn.name == "runtime.NumGoroutine" with
  | false => rfl
  | true => rw [e] at this; cases this

theorem pt_ok : PTOk Tryz.prog pt := mkPT_ok Tryz.prog masks 0 _ eqs_ok names_ok

/-- the law, at any number, in any world -/
theorem law (n : Int) (W : World) : Calls Tryz.prog 3 #[.int .i64 n] W fun e w' => e = .returned (.bool true) ∧ (w'.os = W.os ∧ w'.output = W.output) ∧ ∀ r, r < W.heap.size → w'.heap[r]? = W.heap[r]? := by
  obtain ⟨H, q, hr⟩ := okv_eq run_true
  have := calls_of_ev (σ := fun _ => .int .i64 n) (fun _ => ⟨(fun _ h => by cases h), (fun _ h => by cases h)⟩) pt_ok mixed rfl hr (L := [.int .i64 n]) rfl W
  refine this.mono ?_
  rintro e w' ⟨ρ', V, rfl, hv, h1, h2⟩
  refine ⟨?_, h1, h2⟩
  simp only [Go.Proofs.YtogmhgklmjbfaaaGreatDoor.Kv.conc, Option.some.injEq] at hv
  rw [hv]

theorem kept {W W' : World} {may : MemPlace → Prop} (h1 : W'.os = W.os ∧ W'.output = W.output) (h2 : ∀ r, r < W.heap.size → W'.heap[r]? = W.heap[r]?) : W.keptBut W' may := by
  refine ⟨h1.1, h1.2, fun i hi => ?_⟩
  have h := World.keptBut_refl W may
  have := h.2.2 i hi
  rw [h2 i hi]
  exact this

set_option maxRecDepth 100000 in
theorem lifted (os : Os) (started : os.Started) (H : Type) (enc : TypeId × Value → H) :
    ReturnsInHanded {} Tryz.checked os 3 .any (fun w args => (Rows.callNoneSpec.pre enc Tryz.prog Tryz.f3 [] false w args ∧ laidMetH Tryz.prog Rows.callNoneRow.laid w) ∧ sizedMet enc Tryz.prog Tryz.f3 (OpenSpec.ofChange Rows.callNoneSpec) false w args)
      (Rows.callNoneSpec.post enc Tryz.prog Tryz.f3 false true false false) := by
  refine returnsInHanded_of_change_and (C := Tryz.checked) (X := fun w _ => laidMetH Tryz.prog Rows.callNoneRow.laid w) (fun _ _ _ hh h => h.of_heap hh) own started (by kernel_rfl) Tryz.func3
    (ChangeSpec.witness_shaped (enc := enc) (C := Tryz.checked) (os := os) (X := fun w _ => laidMetH Tryz.prog Rows.callNoneRow.laid w) false (World.laidAll Tryz.prog os Rows.callNoneRow.laid) #[.int .i64 0] 8 (World.laidAll_os _ _ _)
      (World.shaped_of_ZipB (by kernel_rfl) (by kernel_rfl)) (by kernel_rfl) (by kernel_rfl) (by kernel_rfl)
      (by rw [MakeChecks.laidMetH_plain _ _ _ (by kernel_rfl)]; exact laidMet_laidAll _ (by kernel_rfl) (by kernel_rfl))) ?_
  intro W base args ds gs before hval0 hW hc _ hL _
  have hval : ∀ (j : Nat) t v, Tryz.f3.params[j]? = some t → args[j]? = some v → Value.okWide Tryz.prog W .any base t v := hval0
  have hW' := hW
  obtain ⟨p, q, hA0, hV, rfl, _, _⟩ := hW
  have hA : DataW.TrodAll enc Tryz.prog W 0 (fun _ => true) true Tryz.f3.params.toList args.toList ds p := hA0
  rw [Tryz.params3] at hA hval
  obtain ⟨v0, d0, rfl, rfl, h0⟩ := trodAll_one hA
  obtain ⟨rfl, rfl⟩ := trodVars_none hV
  obtain ⟨x, rfl, rfl, rfl, wx⟩ := open_int Tryz.underlying3 (hval 0 3 v0 rfl rfl) h0
  refine (law x W).mono fun e W' ⟨he, h1, h2⟩ => ?_
  subst he
  have e1 : Rows.callNoneSpec.fn H ([.lit (.int .i64 x)] ++ []) = { results := [.lit (.bool true)], args := [.lit (.int .i64 x)] } := rfl
  refine ⟨_, rfl, _, _, _, [], [], [], hW', ?_, ?_, ?_, kept h1 h2, fun h => by cases h⟩
  · rw [e1]; exact trodAll_mk1 (shut_bool Tryz.underlying4 true)
  · rw [e1]; exact trodAll_mk1 (shut_int Tryz.underlying3 wx)
  · rw [e1]; rfl

theorem holds : Rows.CallNoneSaid :=
  OpenClaim.holds_of_wide 3 Tryz.f3 rfl rfl rfl rfl rfl rfl rfl ⟨rfl, rfl, rfl, rfl, rfl⟩ rfl rfl rfl rfl rfl (by kernel_rfl) Tryz.func3 closed
    (of_decide_eq_true (by kernel_rfl)) (by unfold Func.isWrapper; first | (rw [if_pos (by decide +kernel)]; kernel_rfl) | (rw [if_neg (by decide +kernel)]; exact ⟨rfl, rfl⟩))
    (fun os started H enc _ => lifted os started H enc)
end Go.Proofs.YtogmhgklmjbfaaaGreatDoor
