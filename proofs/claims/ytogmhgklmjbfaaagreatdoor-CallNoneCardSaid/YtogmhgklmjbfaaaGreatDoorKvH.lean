/-
  What each operation that only looks comes to.
-/
import Derived.Test.YtogmhgklmjbfaaaGreatDoorKvG
namespace Go.Proofs.YtogmhgklmjbfaaaGreatDoor.Kv
section
variable {P : Program} {p : PT} {σ : Nat → Value} {ρ : Loc} {H : Hp} {q : Nat} {w : World} {m : Nat} {E : Env} {T : Tr AV} {a : Act} {o : Oper} {res : OR}

theorem val_eq {v : AV} (h : val H q v = some res) : res = .val v H q := by
  have h : some (OR.val v H q) = some res := h
  cases h; rfl

/-- a value out of a run that leaves the world -/
theorem OpOk.of (s : Sim P σ ρ H.get w) {S : Sem Value} {v : AV} {V : Value} (he : execOp a.eval o = (do pure (.value (← S)) : Sem Next)) (hS : S.run P w = .ok V w) (hv : conc σ ρ v = some V)
    (h : val H q v = some res) : OpOk P σ ρ H.get q w ((execOp a.eval o).run P w) res := by
  rw [val_eq h]
  refine .look s ?_ hv
  rw [he]
  simp [hS]

theorem oMove_ok (g : GlobOk p ρ) (r : ERel σ ρ m E T a) (s : Sim P σ ρ H.get w) {x : Operand} (he : execOp a.eval o = pure (.value (a.eval x))) (h : oMove p x E T H q = some res) :
    OpOk P σ ρ H.get q w ((execOp a.eval o).run P w) res := by
  obtain ⟨v, h', hv⟩ := opdK_ok g r h; clear h; revert h'; intro h
  rw [val_eq h]
  exact .look s (by rw [he]; simp) hv

theorem oPick_ok (g : GlobOk p ρ) (r : ERel σ ρ m E T a) (s : Sim P σ ρ H.get w) {c x y : Operand} (ho : o.op = .pick c x y) (h : oPick p c x y E T H q = some res) :
    OpOk P σ ρ H.get q w ((execOp a.eval o).run P w) res := by
  obtain ⟨v, h', hv⟩ := opdK_ok g r h; clear h; revert h'; intro h
  rw [AV.boolK_eq] at h
  obtain ⟨b, rfl, h⟩ := h
  simp only [conc, Option.some.injEq] at hv
  rw [bt_eq] at h
  rcases h with ⟨rfl, h⟩ | ⟨rfl, h⟩
  all_goals
    obtain ⟨v, h', hv'⟩ := opdK_ok g r h; clear h; revert h'; intro h
    rw [val_eq h]
    refine .look s ?_ hv'
    simp [execOp, ho, ← hv, asBool]

theorem oLoad_ok (k : PTOk P p) (g : GlobOk p ρ) (r : ERel σ ρ m E T a) (s : Sim P σ ρ H.get w) {t : TypeId} {x : Operand} (ho : o.op = .load t x) (h : oLoad p t x E T H q = some res) :
    OpOk P σ ρ H.get q w ((execOp a.eval o).run P w) res := by
  obtain ⟨v, h', hv⟩ := opdK_ok g r h; clear h; revert h'; intro h
  rw [ob_eq] at h
  obtain ⟨u, hu, h⟩ := h
  obtain ⟨ad, V, e, hr, hc⟩ := loadA_ok k s hu hv
  refine .of s (S := Instr.loadAt t (a.eval x)) (by simp [execOp, ho]) ?_ hc h
  simp [Instr.loadAt, e, Instr.sureAddr, hr]

theorem oNilCheck_ok (g : GlobOk p ρ) (r : ERel σ ρ m E T a) (s : Sim P σ ρ H.get w) {x : Operand} (ho : o.op = .nilCheck x) (h : oNilCheck p x E T H q = some res) :
    OpOk P σ ρ H.get q w ((execOp a.eval o).run P w) res := by
  obtain ⟨v, h', hv⟩ := opdK_ok g r h; clear h; revert h'; intro h
  rw [ob_eq] at h
  obtain ⟨u, hu, h⟩ := h
  rw [val_eq h]
  unfold ncOk at hu
  split at hu
  · cases hu
    refine .look s (V := a.eval x) ?_ hv
    simp only [conc, Option.map_eq_some_iff] at hv
    obtain ⟨y, _, e⟩ := hv
    simp [execOp, ho, ← e]
  · cases hu
    refine .look s (V := a.eval x) ?_ hv
    simp only [conc, Option.map_eq_some_iff, Option.bind_eq_some_iff] at hv
    obtain ⟨y, _, z, _, e⟩ := hv
    simp [execOp, ho, ← e]
  · cases hu
    refine .look s (V := a.eval x) ?_ hv
    simp only [conc, Option.map_eq_some_iff] at hv
    obtain ⟨y, _, e⟩ := hv
    simp [execOp, ho, ← e]
  · cases hu

theorem run_cmp_eql (k : FloatKind) (x y : Nat) : (Op.Complex.cmp .eql k x y).run P w = .ok (Op.floatEq k x y) w := rfl
theorem cxA_ok {op : BinOp} {t : TypeId} {a b v : AV} (h : cxA op a b = some v) {x y : Operand} {A B : Value} (ha : conc σ ρ a = some A) (hb : conc σ ρ b = some B) :
    ∃ V, (do eqGuard op t x y A B; binOp op t A B : Sem Value).run P w = .ok V w ∧ conc σ ρ v = some V := by
  unfold cxA at h
  split at h
  · rename_i k x1 y1 k' x2 y2
    simp only [conc, Option.some.injEq] at ha hb
    subst ha hb
    split at h
    · rename_i hk
      subst hk
      split at h
      · cases h
        refine ⟨_, ?_, conc_bool _⟩
        have hg : (eqGuard .eql t x y (.complex k x1 y1) (.complex k x2 y2)).run P w = .ok () w := eqGuard_at (.inl rfl) t x y _ _ (by rintro ⟨e, _⟩; cases e) (fun _ _ e _ => by cases e)
        simp only [Sem.run_bind, hg, Result.andThen_ok]
        show (if k ≠ k then _ else _ : Sem Value).run P w = _
        rw [if_neg (by simp)]
        simp only [Op.complexOp, Sem.run_bind, run_cmp_eql, Result.andThen_ok, Sem.run_pure]
      · cases h
        refine ⟨_, ?_, conc_bool _⟩
        have hg : (eqGuard .neq t x y (.complex k x1 y1) (.complex k x2 y2)).run P w = .ok () w := eqGuard_at (.inr rfl) t x y _ _ (by rintro ⟨e, _⟩; cases e) (fun _ _ e _ => by cases e)
        simp only [Sem.run_bind, hg, Result.andThen_ok]
        show (if k ≠ k then _ else _ : Sem Value).run P w = _
        rw [if_neg (by simp)]
        simp only [Op.complexOp, Sem.run_bind, run_cmp_eql, Result.andThen_ok, Sem.run_pure]
      · cases h
    · cases h
  · cases h

theorem binA_ok (k : PTOk P p) (s : Sim P σ ρ H.get w) {op : BinOp} {t : TypeId} {c : Unit → Bool} {x y v : AV} (h : binA p H op t c x y = some v) {ox oy : Operand}
    (hc : c () = true → isConst ox = true ∨ isConst oy = true) {X Y : Value} (hx : conc σ ρ x = some X) (hy : conc σ ρ y = some Y) :
    ∃ V, (do eqGuard op t ox oy X Y; binOp op t X Y : Sem Value).run P w = .ok V w ∧ conc σ ρ v = some V := by
  unfold binA at h
  rw [bt_eq] at h
  rcases h with ⟨_, h⟩ | ⟨_, h⟩
  · simp only [AV.intK_eq, chk_eq] at h
    obtain ⟨k1, n1, rfl, k2, n2, rfl, hk, h⟩ := h
    simp only [conc, Option.some.injEq] at hx hy
    subst hx hy
    have hk' : isShift op = true ∨ k1 = k2 := by
      cases e : kBeq k1 k2 with
      | true => exact .inr ((kBeq_eq _ _).1 e)
      | false => rw [e] at hk; exact .inl hk
    obtain ⟨V, hV, hv⟩ := intA_ok (P := P) (w := w) (t := t) hk' h
    refine ⟨V, ?_, hv⟩
    have hg : (eqGuard op t ox oy (.int k1 n1) (.int k2 n2)).run P w = .ok () w := by
      by_cases ho : op = .eql ∨ op = .neq
      · exact eqGuard_at ho t ox oy _ _ (by rintro ⟨e, _⟩; cases e) (fun _ _ e _ => by cases e)
      · cases op <;> first | rfl | simp at ho
    simp only [Sem.run_bind, hg, Result.andThen_ok, hV]
  · rw [bt_eq] at h
    rcases h with ⟨_, h⟩ | ⟨_, h⟩
    · simp only [AV.strK_eq] at h
      obtain ⟨l1, rfl, l2, rfl, h⟩ := h
      simp only [conc, Option.some.injEq] at hx hy
      subst hx hy
      obtain ⟨V, hV, hv⟩ := strA_ok (P := P) (w := w) (σ := σ) (ρ := ρ) (t := t) h
      refine ⟨V, ?_, hv⟩
      have hg : (eqGuard op t ox oy (.string ⟨l1.toArray⟩) (.string ⟨l2.toArray⟩)).run P w = .ok () w := by
        by_cases ho : op = .eql ∨ op = .neq
        · exact eqGuard_at ho t ox oy _ _ (by rintro ⟨e, _⟩; cases e) (fun _ _ e _ => by cases e)
        · cases op <;> first | rfl | simp at ho
      simp only [Sem.run_bind, hg, Result.andThen_ok, hV]
    · rw [bt_eq] at h
      rcases h with ⟨ht, h⟩ | ⟨_, h⟩
      · exact othA_ok k s h ht hc hx hy
      · exact cxA_ok h hx hy

theorem oBin_ok (k : PTOk P p) (g : GlobOk p ρ) (r : ERel σ ρ m E T a) (s : Sim P σ ρ H.get w) {op : BinOp} {t yt : TypeId} {x y : Operand} (ho : o.op = .binOp op t x y yt) (h : oBin p op t x y E T H q = some res) :
    OpOk P σ ρ H.get q w ((execOp a.eval o).run P w) res := by
  obtain ⟨v, h', hv⟩ := opdK_ok g r h; clear h; revert h'; intro h
  obtain ⟨u, h', hu⟩ := opdK_ok g r h; clear h; revert h'; intro h
  rw [ob_eq] at h
  obtain ⟨z, hz, h⟩ := h
  obtain ⟨V, hV, hc⟩ := binA_ok k s hz (ox := x) (oy := y) (by
    cases isConst x with
    | true => intro _; exact .inl rfl
    | false => intro e; exact .inr e) hv hu
  exact .of s (S := (do eqGuard op t x y (a.eval x) (a.eval y); binOp op t (a.eval x) (a.eval y))) (by simp [execOp, ho]) hV hc h

theorem oUn_ok (g : GlobOk p ρ) (r : ERel σ ρ m E T a) (s : Sim P σ ρ H.get w) {op : UnOp} {t : TypeId} {x : Operand} (ho : o.op = .unOp op t x) (h : oUn p op x E T H q = some res) :
    OpOk P σ ρ H.get q w ((execOp a.eval o).run P w) res := by
  obtain ⟨v, h', hv⟩ := opdK_ok g r h; clear h; revert h'; intro h
  rw [ob_eq] at h
  obtain ⟨z, hz, h⟩ := h
  unfold unA at hz
  split at hz
  · rw [AV.boolK_eq] at hz
    obtain ⟨b, rfl, hz⟩ := hz
    cases hz
    simp only [conc, Option.some.injEq] at hv
    exact .of s (S := Op.unary .not (a.eval x)) (by simp [execOp, ho]) (V := .bool (!b)) (by rw [← hv]; rfl) (conc_bool _) h
  · rw [AV.intK_eq] at hz
    obtain ⟨i, n, rfl, hz⟩ := hz
    cases hz
    simp only [conc, Option.some.injEq] at hv
    exact .of s (S := Op.unary .neg (a.eval x)) (by simp [execOp, ho]) (V := .int i (i.wrap (0 - n))) (by rw [← hv]; rfl) (by rw [wrapK_eq]; exact conc_int _ _) h
  · cases hz

theorem oMakeIface_ok (k : PTOk P p) (g : GlobOk p ρ) (r : ERel σ ρ m E T a) (s : Sim P σ ρ H.get w) {t : TypeId} {x : Operand} (ho : o.op = .makeInterface t x) (h : oMakeIface p t x E T H q = some res) :
    OpOk P σ ρ H.get q w ((execOp a.eval o).run P w) res := by
  unfold oMakeIface at h
  rw [ob_eq] at h
  obtain ⟨d, hd, h⟩ := h
  split at h
  · cases h
  · rename_i hn
    obtain ⟨v, h', hv⟩ := opdK_ok g r h; clear h; revert h'; intro h
    refine .of s (S := Instr.makeInterface t (a.eval x)) (by simp [execOp, ho]) (V := .iface t (a.eval x)) ?_ (by simp [conc, hv]) h
    simp only [Instr.makeInterface, Sem.run_bind, run_underlying (k.under hd), Result.andThen_ok]
    rfl

theorem oMakeFunc_ok (g : GlobOk p ρ) (r : ERel σ ρ m E T a) (s : Sim P σ ρ H.get w) {f : Fn} {x y : Array Operand} (ho : o.op = .makeFunc f x y) (h : oMakeFunc p f x y E T H q = some res) :
    OpOk P σ ρ H.get q w ((execOp a.eval o).run P w) res := by
  simp only [oMakeFunc, ob_eq] at h
  obtain ⟨A, hA, B, hB, h⟩ := h
  have e1 := opds_ok g r hA
  have e2 := opds_ok g r hB
  refine .of s (S := Instr.makeFunc f (x.map a.eval) (y.map a.eval)) (by simp [execOp, ho]) (V := .func f (x.map a.eval) (y.map a.eval)) rfl ?_ h
  simp only [conc, e1, e2, Option.bind_some, Option.map_some]
  congr 2 <;> simp [← Array.toList_map]

theorem oFieldAddr_ok (k : PTOk P p) (g : GlobOk p ρ) (r : ERel σ ρ m E T a) (s : Sim P σ ρ H.get w) {t : TypeId} {x : Operand} {f : Nat} (ho : o.op = .fieldAddr t x f) (h : oFieldAddr p t x f E T H q = some res) :
    OpOk P σ ρ H.get q w ((execOp a.eval o).run P w) res := by
  simp only [oFieldAddr, ob_eq, structK_eq, chk_eq] at h
  obtain ⟨d, hd, fs, rfl, fl, hf, n, hn, h0, h⟩ := h
  obtain ⟨v, h', hv⟩ := opdK_ok g r h; clear h; revert h'; intro h
  rw [AV.ptrK_eq] at h
  obtain ⟨b, off, rfl, h⟩ := h
  simp only [conc, Option.map_eq_some_iff] at hv
  obtain ⟨y, hy, hv⟩ := hv
  have h0 : 0 < n := Nat.le_of_ble_eq_true h0
  rw [nth_eq] at hf
  have hf : fs[f]? = some fl := by simpa using hf
  refine .of s (S := Instr.fieldAt t (a.eval x) f) (by simp [execOp, ho]) (V := .pointer (some ⟨y.1, off + fl.offset, none⟩)) ?_ (by simp [conc, hy]) h
  simp only [Instr.fieldAt, Sem.run_bind, run_underlying (k.under hd), Result.andThen_ok, ← hv, Instr.sureAddr, Sem.run_pure]
  simp only [hf, fieldPlace, Sem.run_bind, k.runSize w hn, Result.andThen_ok, Sem.run_ite, Sem.run_pure]
  rw [if_neg (by omega)]
  simp [add_plain]

theorem oField_ok (k : PTOk P p) (g : GlobOk p ρ) (r : ERel σ ρ m E T a) (s : Sim P σ ρ H.get w) {t : TypeId} {x : Operand} {f : Nat} (ho : o.op = .field t x f) (h : oField p t x f E T H q = some res) :
    OpOk P σ ρ H.get q w ((execOp a.eval o).run P w) res := by
  simp only [oField, ob_eq, structK_eq] at h
  obtain ⟨d, hd, fs, rfl, fl, hf, h⟩ := h
  obtain ⟨v, h', hv⟩ := opdK_ok g r h; clear h; revert h'; intro h
  rw [AV.aggK_eq] at h
  obtain ⟨cs, rfl, h⟩ := h
  rw [ob_eq] at h
  obtain ⟨u, hu, h⟩ := h
  simp only [conc, Option.map_eq_some_iff] at hv
  obtain ⟨CS, hCS, hv⟩ := hv
  obtain ⟨V, hV, hc⟩ := partA_ok (w := w) k hu hCS
  rw [nth_eq] at hf
  have hf : fs[f]? = some fl := by simpa using hf
  refine .of s (S := Instr.field t (a.eval x) f) (by simp [execOp, ho]) (V := V) ?_ hc h
  simp only [Instr.field, Sem.run_bind, run_underlying (k.under hd), Result.andThen_ok, hf, ← hv, asAgg, Sem.run_pure, hV]

theorem oIndexAddr_ok (k : PTOk P p) (g : GlobOk p ρ) (r : ERel σ ρ m E T a) (s : Sim P σ ρ H.get w) {t : TypeId} {x i : Operand} (ho : o.op = .indexAddr t x i) (h : oIndexAddr p t x i E T H q = some res) :
    OpOk P σ ρ H.get q w ((execOp a.eval o).run P w) res := by
  simp only [oIndexAddr, ob_eq] at h
  obtain ⟨d, hd, h⟩ := h
  obtain ⟨v, h', hv⟩ := opdK_ok g r h; clear h; revert h'; intro h
  obtain ⟨u, h', hu⟩ := opdK_ok g r h; clear h; revert h'; intro h
  simp only [AV.intK_eq, natK_eq] at h
  obtain ⟨ki, n, rfl, j, rfl, h⟩ := h
  simp only [conc, Option.some.injEq] at hu
  have hU := k.under hd
  have key : ∀ (b : Nat) (off len : Nat) (e : TypeId) (sz : Nat) (y : Nat × Nat) (cap : Nat), d = .slice e → sizeA p e = some sz → j < len → ρ b = some y → a.eval x = .slice (some ⟨y.1, off, none⟩) len cap →
      val H q (.ptr b (off + j * sz)) = some res → OpOk P σ ρ H.get q w ((execOp a.eval o).run P w) res := by
    intro b off len e sz y cap he hs hj hy hx h1
    subst he
    refine .of s (S := Instr.indexAt t (a.eval x) (a.eval i)) (by simp [execOp, ho]) (V := .pointer (some ⟨y.1, off + j * sz, none⟩)) ?_ (by simp [conc, hy]) h1
    simp only [Instr.indexAt, ← hu, asIntOf, Sem.run_bind, Sem.run_pure, Result.andThen_ok, run_underlying hU, hx]
    rw [if_pos ⟨by omega, by omega⟩]
    simp only [Sem.run_bind, k.runSize w hs, Result.andThen_ok, Sem.run_pure, add_plain, Int.toNat_natCast]
  unfold idxAddr at h
  split at h
  · rename_i e
    rw [ob_eq] at h
    obtain ⟨sz, hs, h⟩ := h
    split at h
    · rename_i b off len cap
      rw [chk_eq] at h
      simp only [conc, Option.map_eq_some_iff] at hv
      obtain ⟨y, hy, hv⟩ := hv
      exact key b off len e sz y cap rfl hs (Nat.le_of_ble_eq_true h.1) hy hv.symm h.2
    · rename_i b off len sk
      rw [chk_eq] at h
      simp only [conc, Option.bind_eq_some_iff] at hv
      obtain ⟨y, hy, hv⟩ := hv
      split at hv
      · exact key b off len e sz y (y.2 - sk) rfl hs (Nat.le_of_ble_eq_true h.1) hy (by injection hv with hv; exact hv.symm) h.2
      · cases hv
    · cases h
  · rename_i len e
    simp only [ob_eq, chk_eq, AV.ptrK_eq] at h
    obtain ⟨sz, hs, hj, b, off, rfl, h⟩ := h
    have hj : j < len := Nat.le_of_ble_eq_true hj
    simp only [conc, Option.map_eq_some_iff] at hv
    obtain ⟨y, hy, hv⟩ := hv
    refine .of s (S := Instr.indexAt t (a.eval x) (a.eval i)) (by simp [execOp, ho]) (V := .pointer (some ⟨y.1, off + j * sz, none⟩)) ?_ (by simp [conc, hy]) h
    simp only [Instr.indexAt, ← hu, asIntOf, Sem.run_bind, Sem.run_pure, Result.andThen_ok, run_underlying hU, ← hv, Instr.sureAddr]
    rw [if_pos ⟨by omega, by omega⟩]
    simp only [Sem.run_bind, k.runSize w hs, Result.andThen_ok, Sem.run_pure, add_plain, Int.toNat_natCast]
  · cases h

theorem oIndex_ok (k : PTOk P p) (g : GlobOk p ρ) (r : ERel σ ρ m E T a) (s : Sim P σ ρ H.get w) {t : TypeId} {x i : Operand} (ho : o.op = .index t x i) (h : oIndex p t x i E T H q = some res) :
    OpOk P σ ρ H.get q w ((execOp a.eval o).run P w) res := by
  simp only [oIndex, ob_eq] at h
  obtain ⟨d, hd, h⟩ := h
  obtain ⟨v, h', hv⟩ := opdK_ok g r h; clear h; revert h'; intro h
  obtain ⟨u, h', hu⟩ := opdK_ok g r h; clear h; revert h'; intro h
  simp only [AV.intK_eq, natK_eq] at h
  obtain ⟨ki, n, rfl, j, rfl, h⟩ := h
  simp only [conc, Option.some.injEq] at hu
  have hU := k.under hd
  unfold idx at h
  split at h
  · simp only [AV.strK_eq, ob_eq, nth_eq] at h
    obtain ⟨l, rfl, b, hb, h⟩ := h
    simp only [conc, Option.some.injEq] at hv
    refine .of s (S := Instr.index t (a.eval x) (a.eval i)) (by simp [execOp, ho]) (V := .int .u8 b.toNat) ?_ (conc_int _ _) h
    have hs : (ByteArray.mk l.toArray)[j]? = some b := by
      have hj : j < l.length := by
        cases Nat.lt_or_ge j l.length with
        | inl h => exact h
        | inr h => rw [List.getElem?_eq_none h] at hb; cases hb
      have hj' : j < (ByteArray.mk l.toArray).size := by simpa [ByteArray.size] using hj
      rw [getElem?_pos (ByteArray.mk l.toArray) j hj']
      congr 1
      rw [List.getElem?_eq_getElem hj] at hb
      cases hb
      simp [ByteArray.getElem_eq_getElem_data]
    simp only [Instr.index, ← hu, asIntOf, Sem.run_bind, Sem.run_pure, Result.andThen_ok, run_underlying hU, ← hv]
    rw [if_pos (by omega : (0 : Int) ≤ (j : Int)), Int.toNat_natCast, hs]
    rfl
  · rename_i len e
    simp only [ob_eq, chk_eq, AV.aggK_eq] at h
    obtain ⟨sz, hs, hj, cs, rfl, z, hz, h⟩ := h
    have hj : j < len := Nat.le_of_ble_eq_true hj
    simp only [conc, Option.map_eq_some_iff] at hv
    obtain ⟨CS, hCS, hv⟩ := hv
    obtain ⟨V, hV, hc⟩ := partA_ok (w := w) k hz hCS
    refine .of s (S := Instr.index t (a.eval x) (a.eval i)) (by simp [execOp, ho]) (V := V) ?_ hc h
    simp only [Instr.index, ← hu, asIntOf, Sem.run_bind, Sem.run_pure, Result.andThen_ok, run_underlying hU, ← hv]
    rw [if_pos ⟨by omega, by omega⟩]
    simp only [Sem.run_bind, k.runSize w hs, Result.andThen_ok, Int.toNat_natCast, hV]
  · cases h

theorem withOk_conc {ok : Bool} {v : AV} {V : Value} {b : Bool} (h : conc σ ρ v = some V) : conc σ ρ (withOk ok v b) = some (if ok then .tuple #[V, .bool b] else V) := by
  cases ok
  · exact h
  · show conc σ ρ (.tup [v, .bool b]) = _
    simp [conc, concs, h]

theorem oAssert_ok (k : PTOk P p) (g : GlobOk p ρ) (r : ERel σ ρ m E T a) (s : Sim P σ ρ H.get w) {xt t : TypeId} {x : Operand} {ok : Bool} (ho : o.op = .typeAssert x xt t ok) (h : oAssert p x t ok E T H q = some res) :
    OpOk P σ ρ H.get q w ((execOp a.eval o).run P w) res := by
  unfold oAssert at h
  rw [ob_eq] at h
  obtain ⟨d, hd, h⟩ := h
  have hU := k.under hd
  split at h
  · cases h
  · rename_i hn
    obtain ⟨v, h', hv⟩ := opdK_ok g r h; clear h; revert h'; intro h
    unfold assertA at h
    split at h
    · simp only [chk_eq, ob_eq] at h
      obtain ⟨rfl, z, hz, h⟩ := h
      simp only [conc, Option.some.injEq] at hv
      obtain ⟨i, Z, hi, hZ, hZ', hc⟩ := k.zero σ ρ hz
      refine .of s (S := Instr.typeAssert (a.eval x) xt t true) (by simp [execOp, ho]) (V := .tuple #[Z, .bool false]) ?_ (by simp [conc, concs, hc]) h
      cases d <;> first
        | (exact (hn _ rfl).elim)
        | (simp [Instr.typeAssert, run_underlying hU, ← hv, run_zeroValue_k w hi hZ]; done)
    · rename_i u v'
      rw [bt_eq] at h
      simp only [conc, Option.map_eq_some_iff] at hv
      obtain ⟨V', hV', hv⟩ := hv
      rcases h with ⟨e, h⟩ | ⟨e, h⟩
      · have := Nat.eq_of_beq_eq_true e
        subst this
        refine .of s (S := Instr.typeAssert (a.eval x) xt u ok) (by simp [execOp, ho]) (V := if ok then .tuple #[V', .bool true] else V') ?_ (withOk_conc hV') h
        cases d <;> first
          | (exact (hn _ rfl).elim)
          | (simp [Instr.typeAssert, run_underlying hU, ← hv]; done)
      · simp only [chk_eq, ob_eq] at h
        obtain ⟨rfl, z, hz, h⟩ := h
        have hne : u ≠ t := fun ee => by subst ee; simp at e
        obtain ⟨i, Z, hi, hZ, hZ', hc⟩ := k.zero σ ρ hz
        refine .of s (S := Instr.typeAssert (a.eval x) xt t true) (by simp [execOp, ho]) (V := .tuple #[Z, .bool false]) ?_ (by simp [conc, concs, hc]) h
        cases d <;> first
          | (exact (hn _ rfl).elim)
          | (simp [Instr.typeAssert, run_underlying hU, ← hv, hne, run_zeroValue_k w hi hZ]; done)
    · cases h

theorem oExtract_ok (g : GlobOk p ρ) (r : ERel σ ρ m E T a) (s : Sim P σ ρ H.get w) {x : Operand} {i : Nat} (ho : o.op = .extract x i) (h : oExtract p x i E T H q = some res) :
    OpOk P σ ρ H.get q w ((execOp a.eval o).run P w) res := by
  obtain ⟨v, h', hv⟩ := opdK_ok g r h; clear h; revert h'; intro h
  simp only [AV.tupK_eq, ob_eq, nth_eq] at h
  obtain ⟨l, rfl, u, hu, h⟩ := h
  simp only [conc, Option.map_eq_some_iff] at hv
  obtain ⟨L, hL, hv⟩ := hv
  obtain ⟨V, hV, hc⟩ := ((concs_all _ _).1 hL).get hu
  refine .of s (S := Instr.extract (a.eval x) i) (by simp [execOp, ho]) (V := V) ?_ hc h
  simp [Instr.extract, ← hv, hV]
end
end Go.Proofs.YtogmhgklmjbfaaaGreatDoor.Kv
