/-
  Operations that make a block; the store; the built-in functions len, min, max, append.
-/
import Derived.Test.YtogmhgklmjbfaaaGreatDoorKvI
namespace Go.Proofs.YtogmhgklmjbfaaaGreatDoor.Kv
section
variable {P : Program} {p : PT} {σ : Nat → Value} {ρ : Loc} {H : Hp} {q : Nat} {w : World} {m : Nat} {E : Env} {T : Tr AV} {a : Act} {o : Oper} {res : OR}

/-- the cells of a value -/
theorem cells_conc (hσ : Plain σ) {v : AV} {V : Value} (h : conc σ ρ v = some V) : All2 (fun v V => conc σ ρ v = some V) v.cells V.cells.toList := by
  have one : (∀ l, v ≠ .agg l) → All2 (fun v V => conc σ ρ v = some V) v.cells V.cells.toList := by
    intro hv
    have e1 : v.cells = [v] := by
      unfold AV.cells
      split
      · rename_i l; exact absurd rfl (hv l)
      · rfl
    have e2 : V.cells = #[V] := by
      unfold Value.cells
      split
      · rename_i cs
        exfalso
        cases v <;> simp [conc, Option.map_eq_some_iff, Option.bind_eq_some_iff] at h
        case agg l => exact hv l rfl
        case raw i => exact (hσ i).1 cs h
        all_goals first
          | (obtain ⟨_, _, h⟩ := h; cases h; done)
          | (obtain ⟨_, _, _, h⟩ := h; cases h; done)
      · rfl
    rw [e1, e2]
    exact ⟨h, trivial⟩
  cases v
  case agg l =>
    simp only [conc, Option.map_eq_some_iff] at h
    obtain ⟨L, hL, rfl⟩ := h
    exact (concs_all l L).1 hL
  all_goals exact one (fun l e => by cases e)

theorem flat_conc (hσ : Plain σ) {v : AV} {V : Value} (h : conc σ ρ v = some V) (hf : v.flat = true) : V.oneCell' = true := by
  cases v
  case agg => cases hf
  case tup => cases hf
  case raw i =>
    simp only [conc, Option.some.injEq] at h
    have := hσ i
    rw [h] at this
    cases V <;> first | rfl | exact absurd rfl (this.1 _) | exact absurd rfl (this.2 _)
  all_goals
    simp only [conc, Option.map_eq_some_iff, Option.bind_eq_some_iff, Option.some.injEq] at h
    first
      | (subst h; rfl)
      | (obtain ⟨_, _, rfl⟩ := h; rfl)
      | (obtain ⟨_, _, _, _, rfl⟩ := h; rfl)
      | (obtain ⟨_, _, h⟩ := h; split at h <;> cases h; rfl)
theorem flats_all {l : List AV} (h : flats l = true) : ∀ v ∈ l, v.flat = true := by
  induction l with
  | nil => intro v hv; cases hv
  | cons x l ih =>
    have h : (Bool.rec false (flats l) x.flat : Bool) = true := h
    cases e : x.flat with
    | false => rw [e] at h; cases h
    | true =>
      rw [e] at h
      intro v hv
      cases hv with
      | head => exact e
      | tail _ hv => exact ih h v hv
theorem flats_conc (hσ : Plain σ) {l : List AV} {L : List Value} (h : All2 (fun v V => conc σ ρ v = some V) l L) (hf : flats l = true) : ∀ V ∈ L, V.oneCell' = true := by
  intro V hV
  obtain ⟨i, hi, e⟩ := List.getElem_of_mem hV
  have hl : i < l.length := by rw [All2.length h]; exact hi
  obtain ⟨V', h1, h2⟩ := h.get (List.getElem?_eq_getElem hl)
  rw [List.getElem?_eq_getElem hi, e] at h1
  cases h1
  exact flat_conc hσ h2 (flats_all hf _ (List.getElem_mem hl))

/-! ### new blocks -/
theorem objRel_cells {ρ' : Loc} {l : List AV} {L : List Value} {e : TypeId} {cap : Nat} (h : All2 (fun v V => conc σ ρ' v = some V) l L) : ObjRel P σ ρ' cap (.cells l e false false) (.cells L.toArray e (0, 0)) := by
  refine ⟨L.toArray, (0, 0), rfl, by simp [All2.length h], (fun _ => by simp [All2.length h]), (fun h => by cases h), fun i v hv => ?_, rfl⟩
  obtain ⟨V, h1, h2⟩ := h.get hv
  exact ⟨V, by simpa using h1, h2⟩
theorem all2_le {ρ' : Loc} (hle : LocLe ρ ρ') {l : List AV} {L : List Value} (h : All2 (fun v V => conc σ ρ v = some V) l L) : All2 (fun v V => conc σ ρ' v = some V) l L :=
  All2.mono (fun v V e => conc_le hle v V e) h

theorem newA_ok (hσ : Plain σ) (s : Sim P σ ρ H.get w) (hf : ρ q = none) {e : TypeId} {z : AV} {Z : Value} (hz : conc σ ρ z = some Z) {r : Result Next}
    (hr : r = .ok (.value (.pointer (some ⟨w.heap.size, 0, none⟩))) { w with heap := w.heap.push (.cells Z.cells e) }) (h : newA H q e z = some res) : OpOk P σ ρ H.get q w r res := by
  have h : some (OR.val (.ptr q 0) (H.put q (some (.cells z.cells e false false))) (q + 1)) = some res := h
  cases h
  refine OpOk.make s hf (R := .cells Z.cells e) (cap := 0) (V := .pointer (some ⟨w.heap.size, 0, none⟩)) (fun ρ' hle hx => ⟨?_, by simp [conc, hx]⟩) hr rfl
  have := objRel_cells (P := P) (e := e) (cap := 0) (all2_le hle (cells_conc hσ hz))
  simpa using this

theorem newA_next {e : TypeId} {z : AV} (h : newA H q e z = some res) : res.next q = q + 1 := by
  have h : some (OR.val (.ptr q 0) (H.put q (some (.cells z.cells e false false))) (q + 1)) = some res := h
  cases h; rfl

theorem oAlloc_ok (hσ : Plain σ) (k : PTOk P p) (s : Sim P σ ρ H.get w) (hq : Fresh ρ q (res.next q)) {e : TypeId} (ho : o.op = .alloc e) (h : oAlloc p e E T H q = some res) :
    OpOk P σ ρ H.get q w ((execOp a.eval o).run P w) res := by
  simp only [oAlloc, ob_eq] at h
  obtain ⟨z, hz, h⟩ := h
  obtain ⟨i, Z, hi, hZ, _, hc⟩ := k.zero σ ρ hz
  refine newA_ok hσ s (hq q (Nat.le_refl _) (by rw [newA_next h]; omega)) hc ?_ h
  simp only [execOp, ho, Instr.alloc, Sem.run_bind, run_zeroValue_k w hi hZ, Result.andThen_ok, newVar, newRow, run_newObj, Sem.run_pure]

theorem oBox_ok (hσ : Plain σ) (g : GlobOk p ρ) (r : ERel σ ρ m E T a) (s : Sim P σ ρ H.get w) (hq : Fresh ρ q (res.next q)) {e : TypeId} {x : Operand} (ho : o.op = .box e x) (h : oBox p e x E T H q = some res) :
    OpOk P σ ρ H.get q w ((execOp a.eval o).run P w) res := by
  obtain ⟨v, h', hv⟩ := opdK_ok g r h; clear h; revert h'; intro h
  refine newA_ok hσ s (hq q (Nat.le_refl _) (by rw [newA_next h]; omega)) hv ?_ h
  simp only [execOp, ho, Instr.box, Sem.run_bind, newVar, newRow, run_newObj, Result.andThen_ok, Sem.run_pure]

theorem oMakeMap_ok (s : Sim P σ ρ H.get w) (hq : Fresh ρ q (res.next q)) {t : TypeId} {x : Option Operand} (ho : o.op = .makeMap t x) (h : oMakeMap x E T H q = some res) :
    OpOk P σ ρ H.get q w ((execOp a.eval o).run P w) res := by
  cases x with
  | some x => cases h
  | none =>
    have h : some (OR.val (.mp q) (H.put q (some (.map [] 0))) (q + 1)) = some res := h
    cases h
    refine OpOk.make s (hq q (Nat.le_refl _) (by simp [OR.next])) (R := .map #[] 0) (cap := 0) (V := .map (some w.heap.size)) (w' := { w with heap := w.heap.push (.map #[] 0) }) (fun ρ' hle hx => ⟨⟨#[], rfl, trivial⟩, by simp [conc, hx]⟩) ?_ rfl
    simp [execOp, ho, Instr.makeMap]

/-! ### struct and slice literals -/
theorem fold_put (v : List Value) : ∀ (C : List Value) (off j : Nat), off + j + v.length ≤ C.length →
    ((v.zipIdx j).foldl (fun (cs : Array Value) (cj : Value × Nat) => cs.setIfInBounds (off + cj.2) cj.1) C.toArray) = (C.take (off + j) ++ v ++ C.drop (off + j + v.length)).toArray := by
  induction v with
  | nil => intro C off j h; simp
  | cons x v ih =>
    intro C off j h
    simp only [List.zipIdx_cons, List.foldl_cons]
    simp at h
    have e1 : C.toArray.setIfInBounds (off + j) x = (C.set (off + j) x).toArray := by
      apply Array.ext'
      simp
    rw [e1, ih _ off (j + 1) (by simp; omega)]
    congr 1
    have h1 : (C.take (off + j) ++ [x]).length = off + (j + 1) := by simp; omega
    have e2 : C.set (off + j) x = (C.take (off + j) ++ [x]) ++ C.drop (off + j + 1) := by
      rw [List.set_eq_take_append_cons_drop, if_pos (by omega)]; simp
    rw [e2, List.take_left' h1, show off + (j + 1) + v.length = (off + (j + 1)) + v.length by omega, ← List.drop_drop, List.drop_left' h1, List.drop_drop]
    simp only [List.append_assoc, List.cons_append, List.nil_append]
    congr 4
    simp; omega

theorem over_conc {n : Nat} {l c r : List AV} {L C : List Value} (h : over n l c = some r) (hl : All2 (fun v V => conc σ ρ v = some V) l L) (hc : All2 (fun v V => conc σ ρ v = some V) c C) :
    n + L.length ≤ C.length ∧ All2 (fun v V => conc σ ρ v = some V) r (C.take n ++ L ++ C.drop (n + L.length)) := by
  obtain ⟨h1, rfl⟩ := (over_eq n l c r).1 h
  rw [← All2.length hl, ← All2.length hc]
  exact ⟨h1, All2.append (All2.append (All2.take n hc) hl) (All2.drop _ hc)⟩

theorem fillA_ok (hσ : Plain σ) {pl PL : Nat → Option (Nat × Nat)} (hp : ∀ i x, pl i = some x → PL i = some x) : ∀ (ps : List (Nat × AV)) (PS : List (Nat × Value)) (c r : List AV) (C : List Value),
    All2 (fun x (y : Nat × Value) => x.1 = y.1 ∧ conc σ ρ x.2 = some y.2) ps PS → All2 (fun v V => conc σ ρ v = some V) c C → fillA pl ps c = some r →
    ∃ R : List Value, Instr.fill PL C.toArray PS = some R.toArray ∧ All2 (fun v V => conc σ ρ v = some V) r R
  | [], [], c, r, C, _, hc, h => by
    have h : some c = some r := h
    cases h
    exact ⟨C, rfl, hc⟩
  | (i, v) :: ps, (j, V) :: PS, c, r, C, hps, hc, h => by
    obtain ⟨⟨e1, hv⟩, hps⟩ := hps
    simp only at e1 hv
    subst e1
    have h : ob (pl i) (fun os => chk (Nat.beq (len v.cells) os.2) (ob (over os.1 v.cells c) (fillA pl ps))) = some r := h
    simp only [ob_eq, chk_eq, len_eq] at h
    obtain ⟨⟨off, sz⟩, hpi, hsz, c', hc', h⟩ := h
    have hsz := Nat.eq_of_beq_eq_true hsz
    have hcv := cells_conc hσ hv
    obtain ⟨h1, h2⟩ := over_conc hc' hcv hc
    obtain ⟨R, hR, hr⟩ := fillA_ok hσ hp ps PS c' r _ hps h2 h
    refine ⟨R, ?_, hr⟩
    simp only [Instr.fill, hp i _ hpi]
    have e2 : V.cells.size = sz := by
      have := All2.length hcv
      simp at this hsz
      omega
    have e3 : off + V.cells.size ≤ C.toArray.size := by simpa using h1
    rw [if_neg (by simp [e2]; simp at e3; omega), ← hR]
    congr 1
    have := fold_put V.cells.toList C off 0 (by simpa using h1)
    simp only [Nat.add_zero] at this
    rw [← this]
    rw [← Array.foldl_toList, Array.toList_zipIdx]
  | [], _ :: _, _, _, _, h, _, _ => h.elim
  | _ :: _, [], _, _, _, h, _, _ => h.elim

theorem run_mapM_places (k : PTOk P p) : ∀ (fs : List Field) (pl : List (Nat × Nat)), places p fs = some pl →
    (fs.mapM (m := Sem) fun f => do pure (f.offset, ← sizeOf f.type)).run P w = .ok pl w
  | [], pl, h => by
    have h : some [] = some pl := h
    cases h
    simp
  | f :: fs, pl, h => by
    have h : ob (ob (sizeA p f.type) fun n => some (f.offset, n)) (fun y => ob (places p fs) fun l => some (y :: l)) = some pl := h
    simp only [ob_eq] at h
    obtain ⟨y, ⟨n, hn, hy⟩, l, hl, h⟩ := h
    cases hy
    cases h
    have ih := run_mapM_places k fs l hl
    simp only [List.mapM_cons, Sem.run_bind, k.runSize w hn, Result.andThen_ok, Sem.run_pure, ih]

theorem oBuild_ok (hσ : Plain σ) (k : PTOk P p) (g : GlobOk p ρ) (r : ERel σ ρ m E T a) (s : Sim P σ ρ H.get w) {t : TypeId} {l : Array (Nat × Operand)} (ho : o.op = .build t l) (h : oBuild p t l E T H q = some res) :
    OpOk P σ ρ H.get q w ((execOp a.eval o).run P w) res := by
  simp only [oBuild, ob_eq] at h
  obtain ⟨z, hz, d, hd, ps, hps, c, hc, h⟩ := h
  obtain ⟨i, Z, hi, hZ, _, hcz⟩ := k.zero σ ρ hz
  have hps := parts_ok g r hps
  have hcells := cells_conc hσ hcz
  have hD := k.under hd
  have he : execOp a.eval o = (do pure (.value (← Instr.build t (l.map fun (i, x) => (i, a.eval x)))) : Sem Next) := by simp [execOp, ho]
  have hl : (l.map fun (i, x) => (i, a.eval x)).toList = l.toList.map fun q => (q.1, a.eval q.2) := by simp
  unfold buildAt at hc
  split at hc
  · rename_i fs
    rw [ob_eq] at hc
    obtain ⟨pl, hpl, hc⟩ := hc
    obtain ⟨R, hR, hr⟩ := fillA_ok hσ (PL := fun i => pl.toArray[i]?) (fun i x hx => by rw [nth_eq] at hx; simpa using hx) _ _ _ _ _ hps hcells hc
    refine .of s he (V := .agg R.toArray) ?_ (by simp [conc, (concs_all _ _).2 hr]) h
    have hm : (fs.mapM (m := Sem) fun f => do pure (f.offset, ← sizeOf f.type)).run P w = .ok pl.toArray w := by
      rw [Array.mapM_eq_mapM_toList]
      simp only [Sem.run_map, run_mapM_places k fs.toList pl hpl, Result.andThen_ok]
    simp only [Instr.build, Sem.run_bind, run_zeroValue_k w hi hZ, Result.andThen_ok, run_underlying hD, hm, hl]
    rw [show (Z.cells.toList.toArray) = Z.cells by simp] at hR
    rw [hR]
    rfl
  · rename_i n e
    rw [ob_eq] at hc
    obtain ⟨sz, hsz, hc⟩ := hc
    obtain ⟨R, hR, hr⟩ := fillA_ok hσ (PL := fun i => some (i * sz, sz)) (fun i x hx => hx) _ _ _ _ _ hps hcells hc
    refine .of s he (V := .agg R.toArray) ?_ (by simp [conc, (concs_all _ _).2 hr]) h
    simp only [Instr.build, Sem.run_bind, run_zeroValue_k w hi hZ, Result.andThen_ok, run_underlying hD, k.runSize w hsz, hl]
    rw [show (Z.cells.toList.toArray) = Z.cells by simp] at hR
    rw [hR]
    rfl
  · cases hc

theorem reps_all2 {l : List AV} {L : List Value} (h : All2 (fun v V => conc σ ρ v = some V) l L) : ∀ n, All2 (fun v V => conc σ ρ v = some V) (reps n l) (List.replicate n L).flatten
  | 0 => trivial
  | n + 1 => by
    rw [reps_eq, List.replicate_succ, List.flatten_cons, List.replicate_succ, List.flatten_cons, ← reps_eq]
    exact All2.append h (reps_all2 h n)

theorem range_map_mod (Z : Array Value) : ∀ n, ((Array.range (n * Z.size)).map fun i => Z[i % Z.size]!) = ((List.replicate n Z.toList).flatten).toArray := by
  intro n
  apply Array.ext'
  induction n with
  | zero => simp
  | succ n ih =>
    have e : Array.range ((n + 1) * Z.size) = Array.range (Z.size + n * Z.size) := by congr 1; rw [Nat.succ_mul]; omega
    simp only [Array.toList_map, Array.toList_range] at ih ⊢
    rw [show (n + 1) * Z.size = Z.size + n * Z.size by rw [Nat.succ_mul]; omega, List.range_add, List.map_append, List.map_map, List.replicate_succ, List.flatten_cons]
    congr 1
    · apply List.ext_getElem
      · simp
      · intro i h1 h2
        simp at h1
        simp [Nat.mod_eq_of_lt h1, h1]
    · rw [← ih]
      apply List.map_congr_left
      intro i hi
      simp
end
end Go.Proofs.YtogmhgklmjbfaaaGreatDoor.Kv
