/-
  Slices made; the store; len, min, max; append.
-/
import Derived.Test.YtogmhgklmjbfaaaGreatDoorKvJ
namespace Go.Proofs.YtogmhgklmjbfaaaGreatDoor.Kv
section
variable {P : Program} {p : PT} {σ : Nat → Value} {ρ : Loc} {H : Hp} {q : Nat} {w : World} {m : Nat} {E : Env} {T : Tr AV} {a : Act} {o : Oper} {res : OR}

theorem oBuildSlice_ok (hσ : Plain σ) (k : PTOk P p) (g : GlobOk p ρ) (r : ERel σ ρ m E T a) (s : Sim P σ ρ H.get w) (hq : Fresh ρ q (res.next q)) {t : TypeId} {n : Nat} {l : Array (Nat × Operand)} (ho : o.op = .buildSlice t n l)
    (h : oBuildSlice p t n l E T H q = some res) : OpOk P σ ρ H.get q w ((execOp a.eval o).run P w) res := by
  simp only [oBuildSlice, ob_eq, sliceK_eq, chk_eq, len_eq] at h
  obtain ⟨d, hd, e, rfl, sz, hsz, z, hz, ps, hps, hb, hzl, c, hc, h⟩ := h
  cases h
  have hb := Nat.le_of_ble_eq_true hb
  have hzl := Nat.eq_of_beq_eq_true hzl
  obtain ⟨i, Z, hi, hZ, _, hcz⟩ := k.zero σ ρ hz
  have hps := parts_ok g r hps
  have hcells := cells_conc hσ hcz
  have hZl : Z.cells.size = sz := by have := All2.length hcells; simp at this; omega
  have hl : (l.map fun (i, x) => (i, a.eval x)).toList = l.toList.map fun q => (q.1, a.eval q.2) := by simp
  obtain ⟨R, hR, hr⟩ := fillA_ok hσ (PL := fun i => some (i * sz, sz)) (fun i x hx => hx) _ _ _ _ _ hps (reps_all2 hcells n) hc
  refine OpOk.make s (hq q (Nat.le_refl _) (by simp [OR.next])) (R := .cells R.toArray e) (cap := 0) (V := .slice (some ⟨w.heap.size, 0, none⟩) n n) (w' := { w with heap := w.heap.push (.cells R.toArray e) })
    (fun ρ' hle hx => ⟨objRel_cells (all2_le hle hr), by simp [conc, hx]⟩) ?_ rfl
  simp only [execOp, ho, Instr.buildSlice, Sem.run_bind, run_underlying (k.under hd), k.runSize w hsz, Result.andThen_ok, hl]
  rw [if_neg (by omega)]
  by_cases e0 : n * sz = 0
  · have hr0 : ((Array.range (n * sz)).map fun x => (#[] : Array Value)[x % (#[] : Array Value).size]!) = ((List.replicate n Z.cells.toList).flatten).toArray := by
      have : (List.replicate n Z.cells.toList).flatten = [] := by
        rw [← List.length_eq_zero_iff, List.length_flatten]
        simp [hZl, e0]
      rw [e0, this]
      simp
    simp only [if_pos e0, Sem.run_bind, Sem.run_pure, Result.andThen_ok, hr0, hR, newRow, run_newObj]
  · have hr0 := range_map_mod Z.cells n
    rw [hZl] at hr0
    simp only [if_neg e0, Sem.run_bind, run_zeroValue_k w hi hZ, Sem.run_pure, Result.andThen_ok, hZl, hr0, hR, newRow, run_newObj]

theorem oMakeSlice_ok (hσ : Plain σ) (k : PTOk P p) (g : GlobOk p ρ) (r : ERel σ ρ m E T a) (s : Sim P σ ρ H.get w) (hq : Fresh ρ q (res.next q)) {t : TypeId} {l c : Operand} (ho : o.op = .makeSlice t l c)
    (h : oMakeSlice p t l c E T H q = some res) : OpOk P σ ρ H.get q w ((execOp a.eval o).run P w) res := by
  simp only [oMakeSlice, ob_eq, sliceK_eq] at h
  obtain ⟨d, hd, e, rfl, h⟩ := h
  obtain ⟨v, h', hv⟩ := opdK_ok g r h; clear h; revert h'; intro h
  simp only [AV.intK_eq, natK_eq] at h
  obtain ⟨k1, n1, rfl, L, rfl, h⟩ := h
  obtain ⟨v2, h', hv2⟩ := opdK_ok g r h; clear h; revert h'; intro h
  simp only [AV.intK_eq, natK_eq, ob_eq, chk_eq, len_eq] at h
  obtain ⟨k2, n2, rfl, C, rfl, sz, hsz, z, hz, y, hy, hLC, hb, hzl, h⟩ := h
  cases h
  simp only [conc, Option.some.injEq] at hv hv2
  have hLC := Nat.le_of_ble_eq_true hLC
  have hb := Nat.le_of_ble_eq_true hb
  have hzl := Nat.eq_of_beq_eq_true hzl
  obtain ⟨i, Z, hi, hZ, _, hcz⟩ := k.zero σ ρ hz
  obtain ⟨i', hi', hby⟩ := k.bytes hy
  rw [hi] at hi'; cases hi'
  have hcells := cells_conc hσ hcz
  have hZl : Z.cells.size = sz := by have := All2.length hcells; simp at this; omega
  have hcz' := reps_all2 hcells C
  refine OpOk.make s (hq q (Nat.le_refl _) (by simp [OR.next])) (R := .cells ((List.replicate C Z.cells.toList).flatten).toArray e) (cap := 0) (V := .slice (some ⟨w.heap.size, 0, none⟩) L C)
    (w' := { w with heap := w.heap.push (.cells ((List.replicate C Z.cells.toList).flatten).toArray e) }) (fun ρ' hle hx => ⟨objRel_cells (all2_le hle hcz'), by simp [conc, hx]⟩) ?_ rfl
  have hC : C ≤ 100000 := by omega
  have hw : ∀ n : Nat, n ≤ 100000 → IntKind.i64.wrap (n : Int) = n := fun n hn => wrap_up .i64 n (by omega) (by simp only [kHalf]; omega)
  have t1 : (decide ((C : Int) < 0) || decide ((y : Int) * (C : Int) > 2 ^ 48)) = false := by
    have h1 : ((y : Int) * (C : Int)) = ((C * y : Nat) : Int) := by rw [Nat.mul_comm]; simp
    have h2 : ((2 : Int) ^ 48) = 281474976710656 := by decide
    rw [h1, h2]
    simp; omega
  simp only [execOp, ho, Instr.makeSlice, Sem.run_bind, run_underlying (k.under hd), Result.andThen_ok, ← hv, ← hv2, asInt, asIntOf, Sem.run_pure, run_typeInfo_k w hi, hby, hw C hC, hw L (by omega)]
  rw [if_neg (by simp only [t1]; simp; omega)]
  simp only [Sem.run_bind, run_askRoom, Result.andThen_ok, k.runSize w hsz, Int.toNat_natCast]
  by_cases e0 : C * sz = 0
  · have hr0 : ((Array.range (C * sz)).map fun x => (#[] : Array Value)[x % (#[] : Array Value).size]!) = ((List.replicate C Z.cells.toList).flatten).toArray := by
      have : (List.replicate C Z.cells.toList).flatten = [] := by
        rw [← List.length_eq_zero_iff, List.length_flatten]
        simp [hZl, e0]
      rw [e0, this]
      simp
    simp only [if_pos e0, Sem.run_bind, Sem.run_pure, Result.andThen_ok, hr0, newRow, run_newObj]
  · have hr0 := range_map_mod Z.cells C
    rw [hZl] at hr0
    simp only [if_neg e0, Sem.run_bind, run_zeroValue_k w hi hZ, Sem.run_pure, Result.andThen_ok, hZl, hr0, newRow, run_newObj]

/-! ### the store -/
theorem setCells_heap {c : Array Value} {e : TypeId} {fr : Nat × Nat} {b : Nat} : ∀ (L : List Value) (off : Nat) (w : World) (c : Array Value), w.heap[b]? = some (.cells c e fr) → off + L.length ≤ c.size →
    (w.setCells b off L).heap = w.heap.setIfInBounds b (.cells (c.toList.take off ++ L ++ c.toList.drop (off + L.length)).toArray e fr)
  | [], off, w, c, h, hl => by
    simp only [World.setCells, List.append_nil, List.length_nil, Nat.add_zero, List.take_append_drop, Array.toArray_toList]
    apply Array.ext_getElem?
    intro i
    by_cases hi : i = b
    · subst hi
      have : i < w.heap.size := by
        cases Nat.lt_or_ge i w.heap.size with
        | inl h => exact h
        | inr h' => rw [Array.getElem?_eq_none h'] at h; cases h
      have h' := h
      rw [Array.getElem?_eq_getElem this] at h'
      simp [this]
      injection h'
    · rw [Array.getElem?_setIfInBounds_ne (Ne.symm hi)]
  | v :: L, off, w, c, h, hl => by
    simp at hl
    have h1 : (w.setCell ⟨b, off, none⟩ v).heap = w.heap.setIfInBounds b (.cells (c.setIfInBounds off v) e fr) := by
      have hb : b < w.heap.size := by
        cases Nat.lt_or_ge b w.heap.size with
        | inl h => exact h
        | inr h' => rw [Array.getElem?_eq_none h'] at h; cases h
      simp only [World.setCell]
      apply Array.ext_getElem?
      intro i
      rw [Array.getElem?_modify]
      by_cases hi : b = i
      · subst hi
        have h' := h
        rw [Array.getElem?_eq_getElem hb] at h'
        injection h' with h'
        simp [hb, h']
      · rw [if_neg hi, Array.getElem?_setIfInBounds_ne hi]
    have h2 : (w.setCell ⟨b, off, none⟩ v).heap[b]? = some (.cells (c.setIfInBounds off v) e fr) := by
      rw [h1]
      have hb : b < w.heap.size := by
        cases Nat.lt_or_ge b w.heap.size with
        | inl h => exact h
        | inr h' => rw [Array.getElem?_eq_none h'] at h; cases h
      simp [hb]
    rw [World.setCells, setCells_heap (c := c) L (off + 1) _ _ h2 (by simp; omega), h1, Array.setIfInBounds_setIfInBounds]
    congr 3
    simp only [Array.toList_setIfInBounds]
    have e2 : c.toList.set off v = (c.toList.take off ++ [v]) ++ c.toList.drop (off + 1) := by
      rw [List.set_eq_take_append_cons_drop, if_pos (by simpa using by omega)]; simp
    have e3 : (c.toList.take off ++ [v]).length = off + 1 := by simp; omega
    rw [e2, List.take_left' e3, ← List.drop_drop, List.drop_left' e3, List.drop_drop]
    simp only [List.append_assoc, List.cons_append, List.nil_append, List.length_cons]
    congr 4
    omega

theorem setCells_env {b : Nat} : ∀ (L : List Value) (off : Nat) (w : World), (w.setCells b off L).os = w.os ∧ (w.setCells b off L).output = w.output
  | [], off, w => ⟨rfl, rfl⟩
  | v :: L, off, w => by
    rw [World.setCells]
    have h := setCells_env (b := b) L (off + 1) (w.setCell ⟨b, off, none⟩ v)
    exact ⟨h.1.trans rfl, h.2.trans rfl⟩

/-- cells of a block are written -/
theorem writeCells (hσ : Plain σ) (s : Sim P σ ρ H.get w) {b off : Nat} {l l' c' : List AV} {e : TypeId} {op : Bool} {g : Bool} (hb : H.get b = some (.cells l e op g)) {x : Nat × Nat} (hx : ρ b = some x)
    {L : List Value} (hl : All2 (fun v V => conc σ ρ v = some V) l' L) (ho : over off l' l = some c') (hf : flats l' = true) :
    (storeCells ⟨x.1, off, none⟩ L).run P w = .ok () (w.setCells x.1 off L) ∧
      Ext ρ H.get q w ρ (fun c => if c = b then some (.cells c' e op g) else H.get c) q (w.setCells x.1 off L) ∧ Sim P σ ρ (fun c => if c = b then some (.cells c' e op g) else H.get c) (w.setCells x.1 off L) := by
  obtain ⟨c, fr, hR, h1, h2, h3, h4, h5⟩ := s.cells hb hx
  obtain ⟨h6, h7⟩ := (over_eq off l' l c').1 ho
  have hL := All2.length hl
  have hcell : ∀ j, j < L.length → (w.cell? ⟨x.1, off + 0 + j, none⟩).isSome = true := by
    intro j hj
    rw [cell_row hR, Array.getElem?_eq_getElem (by omega)]; rfl
  have hfro : ∀ j, j < L.length → w.frozen? ⟨x.1, off + 0 + j, none⟩ = false := by
    intro j hj
    simp only [World.frozen?, hR, h5]
    cases g
    · simp
    · simp; omega
  have hrun := run_storeCells_cells (P := P) x.1 off L 0 w hcell hfro (flats_conc hσ hl hf)
  have hheap := setCells_heap (c := c) L off w c hR (by omega)
  refine ⟨hrun, ?_⟩
  refine s.write (by rw [hb]; simp) hx (R := .cells (c.toList.take off ++ L ++ c.toList.drop (off + L.length)).toArray e fr) ?_ hheap (setCells_env L off w)
  have hsz : (c.toList.take off ++ L ++ c.toList.drop (off + L.length)).toArray.size = c.size := by simp; omega
  have hlen : c'.length = l.length := over_len ho
  refine ⟨_, fr, rfl, by rw [hsz, hlen]; exact h1, fun e1 => by rw [hsz, hlen]; exact h2 e1, fun e1 => by rw [hsz]; exact h3 e1, fun i v hv => ?_, by rw [hsz]; exact h5⟩
  rw [over_get ho] at hv
  have hol : over off L c.toList = some (c.toList.take off ++ L ++ c.toList.drop (off + L.length)) := (over_eq _ _ _ _).2 ⟨by simp; omega, rfl⟩
  have hget := over_get hol i
  have : (c.toList.take off ++ L ++ c.toList.drop (off + L.length)).toArray[i]? = if off ≤ i ∧ i < off + L.length then L[i - off]? else c[i]? := by simpa using hget
  rw [this]
  split at hv
  · rename_i hi
    rw [if_pos (by omega)]
    obtain ⟨V, hV, hc⟩ := hl.get hv
    exact ⟨V, hV, hc⟩
  · rename_i hi
    rw [if_neg (by omega)]
    obtain ⟨V, hV, hc⟩ := h4.get hv
    have hi' : i < l.length := by
      cases Nat.lt_or_ge i l.length with
      | inl h => exact h
      | inr h => rw [List.getElem?_eq_none h] at hv; cases hv
    rw [List.getElem?_take_of_lt hi', Array.getElem?_toList] at hV
    exact ⟨V, hV, hc⟩

theorem oStore_ok (hσ : Plain σ) (k : PTOk P p) (g : GlobOk p ρ) (r : ERel σ ρ m E T a) (s : Sim P σ ρ H.get w) {t : TypeId} {x y : Operand} (ho : o.op = .store t x y) (h : oStore p t x y E T H q = some res) :
    OpOk P σ ρ H.get q w ((execOp a.eval o).run P w) res := by
  obtain ⟨v, h', hv⟩ := opdK_ok g r h; clear h; revert h'; intro h
  obtain ⟨u, h', hu⟩ := opdK_ok g r h; clear h; revert h'; intro h
  simp only [ob_eq, storeA, AV.ptrK_eq, AO.cellsK_eq, chk_eq, len_eq] at h
  obtain ⟨H', ⟨b, off, rfl, ob', hb, l, e, op, gg, rfl, n, hn, hlen, hfl, c', hc', hH'⟩, h⟩ := h
  cases hH'
  cases h
  have hlen := Nat.eq_of_beq_eq_true hlen
  simp only [conc, Option.map_eq_some_iff] at hv
  obtain ⟨X, hX, hv⟩ := hv
  have hcells := cells_conc hσ hu
  obtain ⟨h1, h2, h3⟩ := writeCells (q := q) hσ s hb hX hcells hc' hfl
  refine ⟨ρ, w.setCells X.1 off (a.eval y).cells.toList, ?_, ?_, ?_⟩
  · have hsz : (a.eval y).cells.size = n := by have := All2.length hcells; simp at this; omega
    simp only [execOp, ho, Instr.storeAt, ← hv, Instr.sureAddr, Sem.run_bind, Sem.run_pure, Result.andThen_ok, storeVar, k.runSize w hn]
    rw [if_neg (by simp [hsz])]
    simp only [h1, Result.andThen_ok]
  · rw [put_get]; exact h2
  · rw [put_get]; exact h3
end
end Go.Proofs.YtogmhgklmjbfaaaGreatDoor.Kv
