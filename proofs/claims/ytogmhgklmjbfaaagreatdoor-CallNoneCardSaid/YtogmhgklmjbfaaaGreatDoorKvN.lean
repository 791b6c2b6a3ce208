/-
  Maps ranged over, entries stored and dropped; the builtins; calls.
-/
import Derived.Test.YtogmhgklmjbfaaaGreatDoorKvM
namespace Go.Proofs.YtogmhgklmjbfaaaGreatDoor.Kv
section
variable {P : Program} {p : PT} {σ : Nat → Value} {ρ : Loc} {H : Hp} {q : Nat} {w : World} {m : Nat} {E : Env} {T : Tr AV} {a : Act} {o : Oper} {res : OR}

theorem findBorn_ok {n : Nat} : ∀ (es : List AE) (ES : List MapEntry) (i0 : Nat) {x : Nat × AE}, findBorn n es i0 = some x → All2 (EntRel σ ρ) es ES →
    ∃ j E, x.1 = i0 + j ∧ ES.findIdx? (fun e => (e.born : Int) == (n : Int)) = some j ∧ ES.find? (·.born == n) = some E ∧ EntRel σ ρ x.2 E ∧ es[j]? = some x.2
  | [], ES, i0, x, h, _ => by cases h
  | e :: es, [], i0, x, h, hE => hE.elim
  | e :: es, E :: ES, i0, x, h, hE => by
    have h : bt (Nat.beq e.born n) (some (i0, e)) (findBorn n es (i0 + 1)) = some x := h
    have hb : e.born = E.born := hE.1.2.2
    rw [bt_eq] at h
    rcases h with ⟨hn, h⟩ | ⟨hn, h⟩
    · cases h
      have hn := Nat.eq_of_beq_eq_true hn
      have hn' : E.born = n := by rw [← hb]; exact hn
      refine ⟨0, E, rfl, ?_, ?_, hE.1, rfl⟩
      · rw [List.findIdx?_cons]; simp [hn']
      · rw [List.find?_cons]; simp [hn']
    · have hn : e.born ≠ n := fun e' => by rw [e'] at hn; simp at hn
      have hn' : E.born ≠ n := by rw [← hb]; exact hn
      obtain ⟨j, E', h1, h2, h3, h4, h5⟩ := findBorn_ok es ES (i0 + 1) h hE.2
      have hz : ((E.born : Int) == (n : Int)) = false := by
        simp; omega
      refine ⟨j + 1, E', by omega, ?_, ?_, h4, by simpa using h5⟩
      · rw [List.findIdx?_cons]; simp [hz, h2]
      · have hz' : (E.born == n) = false := by simpa using hn'
        rw [List.find?_cons]; simp [hz', h3]

theorem oEntryStore_ok (g : GlobOk p ρ) (r : ERel σ ρ m E T a) (s : Sim P σ ρ H.get w) {t : TypeId} {x i y : Operand} (ho : o.op = .entryStore t x i y) (h : oEntryStore p x i y E T H q = some res) :
    OpOk P σ ρ H.get q w ((execOp a.eval o).run P w) res := by
  obtain ⟨v, h', hv⟩ := opdK_ok g r h; clear h; revert h'; intro h
  obtain ⟨u, h', hu⟩ := opdK_ok g r h; clear h; revert h'; intro h
  obtain ⟨z, h', hz⟩ := opdK_ok g r h; clear h; revert h'; intro h
  simp only [ob_eq, AV.mpK_eq, AV.intK_eq, natK_eq, AO.mapK_eq] at h
  obtain ⟨b, rfl, ki, n0, rfl, n, rfl, ob', hb, es, c, rfl, x', hx', h⟩ := h
  cases h
  simp only [conc, Option.map_eq_some_iff, Option.some.injEq] at hv hu
  obtain ⟨X, hX, hv⟩ := hv
  obtain ⟨ES, h1, h2⟩ := s.map hb hX
  obtain ⟨j, Ent, e1, e2, e3, e4, e5⟩ := findBorn_ok es ES.toList 0 hx' h2
  have e1 : x'.1 = j := by omega
  have e2' : ES.findIdx? (fun e => (e.born : Int) == (n : Int)) = some j := by rw [show ES = ES.toList.toArray by simp, List.findIdx?_toArray]; exact e2
  refine ⟨ρ, { w with heap := w.heap.setIfInBounds X.1 (.map (ES.modify j fun e => { e with val := a.eval y }) c) }, ?_, ?_⟩
  · simp only [execOp, ho, Instr.entryStore, ← hv, ← hu, Sem.run_bind, run_getObj_m h1, Result.andThen_ok, asInt, asIntOf, Sem.run_pure, e2', run_setObj_m h1]
  · rw [e1]
    exact writeMap s hb hX (setAt_rel (f := fun e => { e with val := z }) (F := fun e => { e with val := a.eval y }) h2 fun e0 E0 he0 hE0 hr0 => ⟨hr0.1, hz, hr0.2.2⟩) rfl

theorem oRange_ok (k : PTOk P p) (g : GlobOk p ρ) (r : ERel σ ρ m E T a) (s : Sim P σ ρ H.get w) (hq : Fresh ρ q (res.next q)) {t : TypeId} {x : Operand} (ho : o.op = .range t x) (h : oRange p t x E T H q = some res) :
    OpOk P σ ρ H.get q w ((execOp a.eval o).run P w) res := by
  simp only [oRange, ob_eq, mapK_eq] at h
  obtain ⟨d, hd, kt, e, rfl, h⟩ := h
  obtain ⟨v, h', hv⟩ := opdK_ok g r h; clear h; revert h'; intro h
  have hD := k.under hd
  split at h
  · cases h
    simp only [conc, Option.some.injEq] at hv
    refine OpOk.make s (hq q (Nat.le_refl _) (by simp [OR.next])) (R := .mapIter none 0 #[] 0) (cap := 0) (V := .pointer (some ⟨w.heap.size, 0, none⟩)) (w' := { w with heap := w.heap.push (.mapIter none 0 #[] 0) })
      (fun ρ' hle hx => ⟨⟨none, rfl, rfl⟩, by simp [conc, hx]⟩) ?_ rfl
    simp only [execOp, ho, Instr.range, Sem.run_bind, run_underlying hD, Result.andThen_ok, ← hv, Sem.run_pure, run_newObj]
  · rename_i b
    simp only [ob_eq, AO.mapK_eq] at h
    obtain ⟨ob', hb, es, c, rfl, h⟩ := h
    cases h
    simp only [conc, Option.map_eq_some_iff] at hv
    obtain ⟨X, hX, hv⟩ := hv
    obtain ⟨ES, h1, h2⟩ := s.map hb hX
    refine OpOk.make s (hq q (Nat.le_refl _) (by simp [OR.next])) (R := .mapIter (some X.1) c #[] c) (cap := 0) (V := .pointer (some ⟨w.heap.size, 0, none⟩)) (w' := { w with heap := w.heap.push (.mapIter (some X.1) c #[] c) })
      (fun ρ' hle hx => ⟨⟨some X.1, rfl, X, hle _ _ hX, rfl⟩, by simp [conc, hx]⟩) ?_ rfl
    simp only [execOp, ho, Instr.range, Sem.run_bind, run_underlying hD, Result.andThen_ok, ← hv, run_getObj_m h1, Sem.run_pure, run_newObj]
  · cases h

theorem lastN_eq : ∀ (l : List Nat) (d : Option Nat), (List.rec (motive := fun _ => Option Nat → Option Nat) (fun d => d) (fun x _ ih _ => ih (some x)) l d : Option Nat) = (l.getLast?).or d
  | [], d => by simp
  | x :: l, d => by
    show (List.rec (motive := fun _ => Option Nat → Option Nat) (fun d => d) (fun x _ ih _ => ih (some x)) l (some x) : Option Nat) = _
    rw [lastN_eq l (some x), List.getLast?_cons]
    cases l.getLast? <;> simp

theorem Sim.iter (s : Sim P σ ρ H.get w) {b : Nat} {mo : Option Nat} {since st : Nat} {seen : List Nat} (hb : H.get b = some (.miter mo since seen st)) {x : Nat × Nat} (hx : ρ b = some x) :
    ∃ M : Option Nat, w.heap[x.1]? = some (.mapIter M since seen.toArray st) ∧ (mo = none → M = none) ∧ (∀ b', mo = some b' → ∃ y, ρ b' = some y ∧ M = some y.1) := by
  obtain ⟨y, R, hy, hR, M, rfl, h1⟩ := s.obj b _ hb
  rw [hx] at hy
  cases hy
  refine ⟨M, hR, ?_, ?_⟩
  · rintro rfl; exact h1
  · rintro b' rfl; exact h1

theorem oEntry_ok (g : GlobOk p ρ) (r : ERel σ ρ m E T a) (s : Sim P σ ρ H.get w) {x : Operand} (ho : o.op = .entry x) (h : oEntry p x E T H q = some res) :
    OpOk P σ ρ H.get q w ((execOp a.eval o).run P w) res := by
  obtain ⟨v, h', hv⟩ := opdK_ok g r h; clear h; revert h'; intro h
  simp only [ob_eq, AV.ptrK_eq, chk_eq] at h
  obtain ⟨b, off, rfl, hoff, ob', hb, h⟩ := h
  cases Nat.eq_of_beq_eq_true hoff
  split at h
  · rename_i mb since seen st
    simp only [ob_eq, AO.mapK_eq, chk_eq] at h
    obtain ⟨n, hn, ob2, hb2, es, c, rfl, hc, x', hx', h⟩ := h
    cases Nat.eq_of_beq_eq_true hc
    simp only [conc, Option.map_eq_some_iff] at hv
    obtain ⟨X, hX, hv⟩ := hv
    obtain ⟨M, h1, _, hM⟩ := s.iter hb hX
    obtain ⟨Y, hY, rfl⟩ := hM _ rfl
    obtain ⟨ES, h2, h3⟩ := s.map hb2 hY
    obtain ⟨j, Ent, e1, e2, e3, e4, e5⟩ := findBorn_ok es ES.toList 0 hx' h3
    have e3' : ES.find? (·.born == n) = some Ent := by rw [← Array.find?_toList]; exact e3
    have hb' : seen.toArray.back? = some n := by
      have : (seen.getLast?).or none = some n := by rw [← lastN_eq]; exact hn
      simpa using this
    have h : some (OR.val (.tup [x'.2.key, x'.2.val]) H q) = some res := h
    cases h
    refine OpOk.look s (V := .tuple #[Ent.key, Ent.val]) ?_ (by simp [conc, concs, e4.1, e4.2.1])
    simp only [execOp, ho, Instr.entry, ← hv, Sem.run_bind, run_getObj_i h1, Result.andThen_ok, hb', run_getObj_m h2, bne_self_eq_false, Bool.false_eq_true, if_false, e3', Sem.run_pure]
  · cases h

theorem memN_eq (n : Nat) : ∀ l : List Nat, memN n l = l.contains n
  | [] => rfl
  | x :: l => by
    show (Bool.casesOn (Nat.beq x n) (memN n l) true : Bool) = _
    rw [memN_eq n l, List.contains_cons]
    cases e : Nat.beq x n with
    | true => rw [Nat.eq_of_beq_eq_true e]; simp
    | false =>
      have : x ≠ n := fun h => by rw [h] at e; simp at e
      simp [Ne.symm this]

theorem leftOf_rel {seen : List Nat} : ∀ {es : List AE} {ES : List MapEntry}, All2 (EntRel σ ρ) es ES → All2 (EntRel σ ρ) (leftOf seen es) (ES.filter fun e => !seen.contains e.born)
  | [], [], _ => trivial
  | [], _ :: _, h => h.elim
  | _ :: _, [], h => h.elim
  | e :: es, Y :: ES, h => by
    show All2 (EntRel σ ρ) (Bool.casesOn (memN e.born seen) (e :: leftOf seen es) (leftOf seen es)) _
    rw [memN_eq, List.filter_cons, h.1.2.2]
    cases seen.contains Y.born
    · exact ⟨h.1, leftOf_rel h.2⟩
    · exact leftOf_rel h.2
theorem allGe_eq {n : Nat} : ∀ {es : List AE} {ES : List MapEntry}, All2 (EntRel σ ρ) es ES → allGe n es = ES.all fun e => decide (e.born ≥ n)
  | [], [], _ => rfl
  | [], _ :: _, h => h.elim
  | _ :: _, [], h => h.elim
  | e :: es, Y :: ES, h => by
    show (Bool.casesOn (Nat.ble n e.born) false (allGe n es) : Bool) = _
    rw [List.all_cons, allGe_eq h.2, h.1.2.2]
    have : Nat.ble n Y.born = decide (Y.born ≥ n) := by
      rw [Bool.eq_iff_iff]; simp
    rw [this]
    cases decide (Y.born ≥ n) <;> rfl

theorem oNext_ok (g : GlobOk p ρ) (r : ERel σ ρ m E T a) (s : Sim P σ ρ H.get w) {x : Operand} {str : Bool} (ho : o.op = .next x str) (h : oNext p x str E T H q = some res) :
    OpOk P σ ρ H.get q w ((execOp a.eval o).run P w) res := by
  unfold oNext at h
  rw [chk_eq] at h
  obtain ⟨hs, h⟩ := h
  have hs : str = false := by cases str <;> simp_all
  subst hs
  obtain ⟨v, h', hv⟩ := opdK_ok g r h; clear h; revert h'; intro h
  simp only [ob_eq, AV.ptrK_eq, chk_eq] at h
  obtain ⟨b, off, rfl, hoff, ob', hb, h⟩ := h
  cases Nat.eq_of_beq_eq_true hoff
  simp only [conc, Option.map_eq_some_iff] at hv
  obtain ⟨X, hX, hv⟩ := hv
  split at h
  · have h : some (OR.val (.tup [.bool false]) H q) = some res := h
    cases h
    obtain ⟨M, h1, hM, _⟩ := s.iter hb hX
    cases hM rfl
    refine OpOk.look s (V := .tuple #[.bool false]) ?_ (by simp [conc, concs])
    simp only [execOp, ho, Instr.next, ← hv, Sem.run_bind, run_getObj_i h1, Result.andThen_ok, Sem.run_pure]
  · rename_i mb since seen last
    simp only [ob_eq, AO.mapK_eq] at h
    obtain ⟨ob2, hb2, es, c, rfl, h⟩ := h
    obtain ⟨M, h1, _, hM⟩ := s.iter hb hX
    obtain ⟨Y, hY, rfl⟩ := hM _ rfl
    obtain ⟨ES, h2, h3⟩ := s.map hb2 hY
    unfold nextM at h
    rw [chk_eq] at h
    obtain ⟨hc, h⟩ := h
    have hg : (!seen.toArray.isEmpty && !ES.isEmpty && ES.all fun e => decide (e.born ≥ last)) = false := by
      have e1 : seen.toArray.isEmpty = isNil seen := by cases seen <;> simp [isNil]
      have e2 : ES.isEmpty = isNil es := by
        have := All2.length h3
        cases es with
        | nil => simp at this; simp [isNil]; exact Array.eq_empty_of_size_eq_zero this.symm
        | cons e es => simp at this; simp [isNil]; intro h; rw [h] at this; simp at this
      rw [e1, e2, ← Array.all_toList, ← allGe_eq h3]
      revert hc
      cases isNil seen <;> cases isNil es <;> cases allGe last es <;> simp
    have hl := leftOf_rel (seen := seen) h3
    have hle : (ES.filter fun e => !seen.toArray.contains e.born).toList = ES.toList.filter fun e => !seen.contains e.born := by simp
    split at h
    · rename_i e0
      have h : some (OR.val (.tup [.bool false]) H q) = some res := h
      cases h
      rw [e0] at hl
      have hl0 : (ES.filter fun e => !seen.toArray.contains e.born) = #[] := by
        apply Array.ext'
        rw [hle]
        cases hh : ES.toList.filter fun e => !seen.contains e.born with
        | nil => rfl
        | cons _ _ => rw [hh] at hl; exact hl.elim
      refine OpOk.look s (V := .tuple #[.bool false]) ?_ (by simp [conc, concs])
      simp only [execOp, ho, Instr.next, ← hv, Sem.run_bind, run_getObj_i h1, Result.andThen_ok, run_getObj_m h2, hg, Bool.false_eq_true, if_false, hl0]
      simp [Question.forced, run_choose]
    · rename_i e e0
      rw [e0] at hl
      rw [chk_eq] at h
      obtain ⟨hlt, h⟩ := h
      have hlt := Nat.le_of_ble_eq_true hlt
      cases h
      obtain ⟨Ent, hEnt, hre⟩ : ∃ Ent, (ES.toList.filter fun e => !seen.contains e.born) = [Ent] ∧ EntRel σ ρ e Ent := by
        cases hh : ES.toList.filter fun e => !seen.contains e.born with
        | nil => rw [hh] at hl; exact hl.elim
        | cons Y' l =>
          rw [hh] at hl
          cases l with
          | nil => exact ⟨Y', rfl, hl.1⟩
          | cons _ _ => exact hl.2.elim
      have hl1 : (ES.filter fun e => !seen.toArray.contains e.born) = #[Ent] := by
        apply Array.ext'
        rw [hle, hEnt]
      have hb' : Ent.born < since := by rw [← hre.2.2]; exact hlt
      refine ⟨ρ, .tuple #[.bool true, Ent.key, Ent.val], { w with heap := w.heap.setIfInBounds X.1 (.mapIter (some Y.1) since (seen.toArray.push Ent.born) c) }, ?_, by simp [conc, concs, hre.1, hre.2.1], ?_⟩
      · simp only [execOp, ho, Instr.next, ← hv, Sem.run_bind, run_getObj_i h1, Result.andThen_ok, run_getObj_m h2, hg, Bool.false_eq_true, if_false, hl1]
        simp [Question.forced, run_choose, hb', Nat.not_le.2 hb', run_setObj_i h1]
      · rw [put_get]
        refine s.write (o := .miter (some mb) since (app seen [e.born]) c) (by rw [hb]; simp) hX (R := .mapIter (some Y.1) since (seen.toArray.push Ent.born) c) ⟨some Y.1, ?_, Y, hY, rfl⟩ rfl
        rw [app_eq, hre.2.2]
        simp
    · cases h
  · cases h
end
end Go.Proofs.YtogmhgklmjbfaaaGreatDoor.Kv
