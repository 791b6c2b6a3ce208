/-
  The builtins, and calls.
-/
import Derived.Test.YtogmhgklmjbfaaaGreatDoorKvN
namespace Go.Proofs.YtogmhgklmjbfaaaGreatDoor.Kv
section
variable {P : Program} {p : PT} {σ : Nat → Value} {ρ : Loc} {H : Hp} {q : Nat} {w : World} {m : Nat} {E : Env} {T : Tr AV} {a : Act} {o : Oper} {res : OR}

theorem OpOk.val_of (s : Sim P σ ρ H.get w) {S : Sem Value} {V : Value} (hV : S.run P w = .ok V w) {v : AV} (hc : conc σ ρ v = some V) (h : val H q v = some res) :
    OpOk P σ ρ H.get q w ((do pure (.value (← S)) : Sem Next).run P w) res := by
  have h : some (OR.val v H q) = some res := h
  cases h
  exact OpOk.look s (by simp only [Sem.run_bind, hV, Result.andThen_ok, Sem.run_pure]) hc

theorem concs2 {x y : AV} {L : List Value} (h : concs σ ρ [x, y] = some L) : ∃ X Y, L = [X, Y] ∧ conc σ ρ x = some X ∧ conc σ ρ y = some Y := by
  simp only [concs, Option.bind_eq_some_iff, Option.map_eq_some_iff] at h
  obtain ⟨X, hX, l, ⟨Y, hY, l', hl', e⟩, e'⟩ := h
  cases hl'; subst e e'
  exact ⟨X, Y, rfl, hX, hY⟩
theorem concs1 {x : AV} {L : List Value} (h : concs σ ρ [x] = some L) : ∃ X, L = [X] ∧ conc σ ρ x = some X := by
  simp only [concs, Option.bind_eq_some_iff, Option.map_eq_some_iff] at h
  obtain ⟨X, hX, l, hl', e⟩ := h
  cases hl'; subst e
  exact ⟨X, rfl, hX⟩

theorem bAppend_ok (hσ : Plain σ) (k : PTOk P p) (s : Sim P σ ρ H.get w) (hq : Fresh ρ q (res.next q)) {ts : Array TypeId} {ty : TypeId} {l : List AV} {L : List Value} (hl : concs σ ρ l = some L)
    (h : bAppend p ts.toList l E T H q = some res) : OpOk P σ ρ H.get q w ((do pure (.value (← Builtin.append_ ts ty L.toArray)) : Sem Next).run P w) res := by
  unfold bAppend at h
  split at h
  · rename_i t u tl b x hts
    obtain ⟨S, X, rfl, hb, hx⟩ := concs2 hl
    simp only [ob_eq, sliceK_eq, chk_eq, len_eq] at h
    obtain ⟨d, hd, e, rfl, du, hu, hn, sz, hsz, y, hy, z, hz, hk0, hy0, hzl, nl, hN, h⟩ := h
    have h0 : ts[0]? = some t := by rw [← Array.getElem?_toList, hts]; rfl
    have h1 : ts[1]? = some u := by rw [← Array.getElem?_toList, hts]; rfl
    obtain ⟨n, l'⟩ := nl
    obtain ⟨V, w', hR, hO⟩ := appendA_ok (ty := ty) hσ k s hq h0 h1 (k.under hd) (k.under hu) hn hsz hy hz (Nat.le_of_ble_eq_true hk0) (Nat.le_of_ble_eq_true hy0) (Nat.eq_of_beq_eq_true hzl) hN hx hb h
    simp only [Sem.run_bind, hR, Result.andThen_ok, Sem.run_pure]
    exact hO
  · cases h

theorem lenA_ok (s : Sim P σ ρ H.get w) {ts : Array TypeId} {ty t : TypeId} {d : TypeDesc} (h0 : ts[0]? = some t) (hd : P.underlying t = some d) {x : AV} {n : Nat} (h : lenA H d x = some n) {X : Value} (hx : conc σ ρ x = some X) :
    (Builtin.len_ ts ty #[X]).run P w = .ok (goInt n) w := by
  have e0 : (#[X] : Array Value)[0]? = some X := rfl
  unfold Builtin.len_
  simp only [h0, e0]
  simp only [Sem.run_bind, run_underlying hd, Result.andThen_ok]
  unfold lenA at h
  split at h
  · split at h
    · cases h
      simp only [conc, Option.some.injEq] at hx
      subst hx
      simp [ByteArray.size, len_eq]
    · cases h
  · split at h
    · cases h
      simp only [conc, Option.some.injEq] at hx
      subst hx
      rfl
    · cases h
  · split at h
    · cases h
      simp only [conc, Option.map_eq_some_iff] at hx
      obtain ⟨y, hy, rfl⟩ := hx
      rfl
    · cases h
  · split at h
    · cases h
      simp only [conc, Option.bind_eq_some_iff] at hx
      obtain ⟨y, hy, hx⟩ := hx
      split at hx
      · injection hx with hx
        subst hx
        rfl
      · cases hx
    · cases h
  · split at h
    · cases h
      simp only [conc, Option.some.injEq] at hx
      subst hx
      rfl
    · cases h
  · split at h
    · simp only [ob_eq, AO.mapK_eq, len_eq] at h
      obtain ⟨ob', hb, es, c, rfl, h⟩ := h
      cases h
      simp only [conc, Option.map_eq_some_iff] at hx
      obtain ⟨y, hy, rfl⟩ := hx
      obtain ⟨ES, h1, h2⟩ := s.map hb hy
      have := All2.length h2
      simp only [Array.length_toList] at this
      simp only [Sem.run_bind, run_getObj_m h1, Result.andThen_ok, Sem.run_pure, this]
    · cases h
  · cases h

theorem bLen_ok (k : PTOk P p) (s : Sim P σ ρ H.get w) {ts : Array TypeId} {ty : TypeId} {l : List AV} {L : List Value} (hl : concs σ ρ l = some L) (h : bLen p ts.toList l E T H q = some res) :
    OpOk P σ ρ H.get q w ((do pure (.value (← Builtin.len_ ts ty L.toArray)) : Sem Next).run P w) res := by
  unfold bLen at h
  split at h
  · rename_i t tl x hts
    obtain ⟨X, rfl, hx⟩ := concs1 hl
    simp only [ob_eq] at h
    obtain ⟨d, hd, n, hn, h⟩ := h
    have h0 : ts[0]? = some t := by rw [← Array.getElem?_toList, hts]; rfl
    exact OpOk.val_of s (lenA_ok s h0 (k.under hd) hn hx) (by simp [conc, goInt]) h
  · cases h

theorem bMin_ok (s : Sim P σ ρ H.get w) {ts : Array TypeId} {ty : TypeId} {l : List AV} {L : List Value} (hl : concs σ ρ l = some L) (h : bMin l E T H q = some res) :
    OpOk P σ ρ H.get q w ((do pure (.value (← Builtin.min_ ts ty L.toArray)) : Sem Next).run P w) res := by
  unfold bMin at h
  split at h
  · rename_i x y
    obtain ⟨X, Y, rfl, hx, hy⟩ := concs2 hl
    simp only [AV.intK_eq] at h
    obtain ⟨k1, m1, rfl, k2, n1, rfl, h⟩ := h
    simp only [conc, Option.some.injEq] at hx hy
    subst hx hy
    refine OpOk.val_of s (V := .int k1 (if n1 < m1 then n1 else m1)) ?_ ?_ h
    · simp [Builtin.min_, Builtin.min2]
    · rw [intBle_eq]
      by_cases e : m1 ≤ n1
      · simp [e, conc, Int.not_lt.2 e]
      · simp [e, conc, Int.not_le.1 e]
  · cases h
theorem bMax_ok (s : Sim P σ ρ H.get w) {ts : Array TypeId} {ty : TypeId} {l : List AV} {L : List Value} (hl : concs σ ρ l = some L) (h : bMax l E T H q = some res) :
    OpOk P σ ρ H.get q w ((do pure (.value (← Builtin.max_ ts ty L.toArray)) : Sem Next).run P w) res := by
  unfold bMax at h
  split at h
  · rename_i x y
    obtain ⟨X, Y, rfl, hx, hy⟩ := concs2 hl
    simp only [AV.intK_eq] at h
    obtain ⟨k1, m1, rfl, k2, n1, rfl, h⟩ := h
    simp only [conc, Option.some.injEq] at hx hy
    subst hx hy
    refine OpOk.val_of s (V := .int k1 (if n1 > m1 then n1 else m1)) ?_ ?_ h
    · simp [Builtin.max_, Builtin.max2]
    · rw [intBle_eq]
      by_cases e : n1 ≤ m1
      · simp [e, conc, Int.not_lt.2 e]
      · simp [e, conc, Int.not_le.1 e]
  · cases h

theorem All2.erase {α β : Type} {R : α → β → Prop} : ∀ {l : List α} {r : List β} (n : Nat), All2 R l r → All2 R (l.eraseIdx n) (r.eraseIdx n)
  | [], [], _, _ => trivial
  | [], _ :: _, _, h => h.elim
  | _ :: _, [], _, h => h.elim
  | _ :: _, _ :: _, 0, h => h.2
  | _ :: _, _ :: _, n + 1, h => ⟨h.1, All2.erase n h.2⟩

theorem bDelete_ok (k : PTOk P p) (s : Sim P σ ρ H.get w) {ts : Array TypeId} {ty : TypeId} {l : List AV} {L : List Value} (hl : concs σ ρ l = some L) (h : bDelete p ts.toList l E T H q = some res) :
    OpOk P σ ρ H.get q w ((do pure (.value (← Builtin.delete_ ts ty L.toArray)) : Sem Next).run P w) res := by
  unfold bDelete at h
  split at h
  · rename_i t tl x y hts
    obtain ⟨X, Y, rfl, hx, hy⟩ := concs2 hl
    simp only [ob_eq, mapK_eq, chk_eq, AV.mpK_eq, AO.mapK_eq] at h
    obtain ⟨d, hd, kt, e, rfl, hk, b, rfl, ob', hb, es, c, rfl, rr, hr, h⟩ := h
    have h0 : ts[0]? = some t := by rw [← Array.getElem?_toList, hts]; rfl
    simp only [conc, Option.map_eq_some_iff] at hx
    obtain ⟨A, hA, rfl⟩ := hx
    obtain ⟨ES, h1, h2⟩ := s.map hb hA
    have hD := k.under hd
    have hck := keyOk_ok (w := w) k hk hy ES.isEmpty
    obtain ⟨kd, hkd⟩ := keyType k hk
    obtain ⟨R, hR, hf⟩ := findA_ok k s hkd hy hr h2
    have hrun : (Builtin.delete_ ts ty [Value.map (some A.1), Y].toArray).run P w = ((do
        match R with
        | some (i, _) => setObj A.1 (.map (ES.eraseIdxIfInBounds i) c)
        | none => setObj A.1 (.map ES c)
        pure (.tuple #[]) : Sem Value)).run P w := by
      simp only [Builtin.delete_, h0, List.getElem?_toArray, List.getElem?_cons_zero, List.getElem?_cons_succ, Sem.run_bind, run_underlying hD, Result.andThen_ok, run_getObj_m h1, hck, hR]
      cases R <;> rfl
    split at h
    · rename_i x'
      obtain ⟨V, rfl, hV⟩ := hf
      cases h
      refine ⟨ρ, .tuple #[], { w with heap := w.heap.setIfInBounds A.1 (.map (ES.eraseIdxIfInBounds x'.1) c) }, ?_, by simp [conc, concs], ?_⟩
      · simp only [Sem.run_bind, hrun, run_setObj_m h1, Result.andThen_ok, Sem.run_pure]
      · refine writeMap s hb hA ?_ rfl
        rw [delAt_eq, Array.toList_eraseIdxIfInBounds]
        exact All2.erase _ h2
    · have hf : R = none := hf
      subst hf
      have h : some (OR.val (.tup []) H q) = some res := h
      cases h
      have hsame : (w.heap.setIfInBounds A.1 (.map ES c)) = w.heap := by
        apply Array.ext_getElem?
        intro j
        by_cases hj : A.1 = j
        · subst hj
          have hlt := s.lt b A hA
          simp [hlt]
          have h1'' := h1
          rw [Array.getElem?_eq_getElem hlt] at h1''
          injection h1'' with h1''
          exact h1''.symm
        · rw [Array.getElem?_setIfInBounds_ne hj]
      refine ⟨ρ, .tuple #[], { w with heap := w.heap.setIfInBounds A.1 (.map ES c) }, ?_, by simp [conc, concs], Ext.of_heap hsame (Ext.refl _ _ _ _), Sim.of_heap hsame s⟩
      simp only [Sem.run_bind, hrun, run_setObj_m h1, Result.andThen_ok, Sem.run_pure]
  · cases h

theorem callB_ok (hσ : Plain σ) (k : PTOk P p) (s : Sim P σ ρ H.get w) (hq : Fresh ρ q (res.next q)) {b : Builtin} {ts : Array TypeId} {ty : TypeId} {cs : Array Bool} {l : List AV} {L : List Value} (hl : concs σ ρ l = some L)
    (h : callB p b ts.toList l E T H q = some res) : OpOk P σ ρ H.get q w ((builtin b ts ty cs L.toArray).run P w) res := by
  cases b <;> first | (cases h; done) | skip
  · exact bAppend_ok (E := E) (T := T) hσ k s hq hl h
  · exact bDelete_ok (E := E) (T := T) k s hl h
  · exact bLen_ok (E := E) (T := T) k s hl h
  · exact bMax_ok (E := E) (T := T) s hl h
  · exact bMin_ok (E := E) (T := T) s hl h

/-! ### calls -/
theorem run_callFunc_enter (k : PTOk P p) {f : FuncId} {args : Array Value} {fn : Func} (hf : P.funcs[f]? = some fn) (hb : fn.body.isSome = true) : (callFunc f args).run P w = .ok (.enter f args) w := by
  have hn := k.names f fn hf
  have hb' : fn.body.isNone = false := by cases h : fn.body <;> simp_all
  simp only [callFunc, Sem.run_bind, run_program, Result.andThen_ok, hf, hn, hb', Bool.false_eq_true, if_false, Sem.run_pure]

theorem concs_append {l1 l2 : List AV} {L1 L2 : List Value} (h1 : concs σ ρ l1 = some L1) (h2 : concs σ ρ l2 = some L2) : concs σ ρ (app l1 l2) = some (L1 ++ L2) := by
  rw [concs_all] at *
  rw [app_eq]
  exact All2.append h1 h2

theorem findM_eq (name : String) : ∀ l : List Method, findM name l = l.find? (·.name == name)
  | [] => rfl
  | x :: l => by
    show bt (decide (x.name = name)) (some x) (findM name l) = _
    rw [findM_eq name l, List.find?_cons]
    by_cases e : x.name = name
    · simp [e, bt]
    · have : (x.name == name) = false := by simpa using e
      simp [this, e, bt]

theorem run_method_k (k : PTOk P p) {t : TypeId} {i : TypeInfo} {x : AV} {V : Value} {name : String} {mt : Method} {fq : FuncId × Bool} {d : TypeDesc} (hi : P.info? t = some i) (hm : i.methods.find? (·.name == name) = some mt) (hf : mt.func = some fq)
    (hp : mt.path.toList = []) (hd : P.underlying t = some d) (hb : byPtr d fq.2 = true) (n : Nat) : (method (n + 1) t V name).run P w = .ok (fq.1, V) w := by
  unfold method
  simp only [Sem.run_bind, run_typeInfo_k w hi, Result.andThen_ok, hm, hp, follow, Sem.run_pure, hf]
  obtain ⟨f, ptr⟩ := fq
  cases d <;> first | (cases hb; done) | skip
  · cases ptr
    · cases hb
    · simp only [receiverAt, Sem.run_bind, run_underlying hd, Result.andThen_ok, Place.get, Sem.run_pure]
  · cases ptr
    · simp only [receiverAt, Sem.run_bind, run_underlying hd, Result.andThen_ok, Place.get, Sem.run_pure]
    · cases hb

theorem oCall_ok (hσ : Plain σ) (k : PTOk P p) (g : GlobOk p ρ) (r : ERel σ ρ m E T a) (s : Sim P σ ρ H.get w) (hq : Fresh ρ q (res.next q)) {c : Call} (ho : o.op = .call c) (h : oCall p c E T H q = some res) :
    OpOk P σ ρ H.get q w ((execOp a.eval o).run P w) res := by
  simp only [oCall, ob_eq] at h
  obtain ⟨args, ha, h⟩ := h
  have hA := opds_ok g r ha
  have hA' : concs σ ρ args = some (c.args.map a.eval).toList := by simpa using hA
  have he : execOp a.eval o = (do let d ← resolve a.eval c o.type; invoke d.target d.args : Sem Next) := by simp [execOp, ho]
  rw [he]
  cases hc : c.callee with
  | value f =>
    rw [hc] at h
    obtain ⟨v, h', hv⟩ := opdK_ok g r h; clear h; revert h'; intro h
    unfold enterF at h
    split at h
    · rename_i f' first cap
      cases h
      simp only [conc, Option.bind_eq_some_iff, Option.map_eq_some_iff] at hv
      obtain ⟨F, hF, C, hC, hv⟩ := hv
      refine ⟨F ++ (c.args.map a.eval).toList ++ C, fun fn hfn hb => ?_, concs_append (concs_append hF hA') hC⟩
      have e1 : resolve a.eval c o.type = (pure { target := .fn (.func f') C.toArray, args := F.toArray ++ c.args.map a.eval } : Sem Deferred) := by
        simp only [resolve, hc, ← hv, Deferred.ofValue]
      rw [e1]
      simp only [Sem.run_bind, Sem.run_pure, Result.andThen_ok, invoke]
      rw [run_callFunc_enter k hfn hb]
      congr 2
      apply Array.ext'
      simp
    · cases h
  | invoke rc name =>
    rw [hc] at h
    obtain ⟨v, h', hv⟩ := opdK_ok g r h; clear h; revert h'; intro h
    unfold enterM at h
    split at h
    · rename_i t x
      simp only [ob_eq, chk_eq] at h
      obtain ⟨i, hi, mt, hm, fq, hfq, hp, d, hd, hb, h⟩ := h
      cases h
      simp only [conc, Option.map_eq_some_iff] at hv
      obtain ⟨X, hX, hv⟩ := hv
      have hI := k.types t i hi
      have hm' : i.methods.find? (·.name == name) = some mt := by rw [← Array.find?_toList, ← findM_eq]; exact hm
      have hp' : mt.path.toList = [] := by cases e : mt.path.toList with
        | nil => rfl
        | cons _ _ => rw [e] at hp; cases hp
      refine ⟨X :: (c.args.map a.eval).toList, fun fn hfn hbody => ?_, by simp only [concs, hX, hA', Option.bind_some, Option.map_some]⟩
      have e1 : resolve a.eval c o.type = (pure { target := .fn (.method name) #[], args := #[a.eval rc] ++ c.args.map a.eval } : Sem Deferred) := by
        simp only [resolve, hc]
      have hsz : ∃ n, P.types.size + Made.depth = n + 1 := ⟨P.types.size + 99, rfl⟩
      obtain ⟨n, hn⟩ := hsz
      rw [e1]
      simp only [Sem.run_bind, Sem.run_pure, Result.andThen_ok, invoke, ← hv]
      have e2 : (#[Value.iface t X] ++ c.args.map a.eval)[0]? = some (.iface t X) := by
        rw [Array.getElem?_append_left (by show 0 < 1; omega)]; rfl
      have e3 : (#[Value.iface t X] ++ c.args.map a.eval).extract 1 (#[Value.iface t X] ++ c.args.map a.eval).size = c.args.map a.eval := by
        apply Array.ext'; simp
        exact List.take_of_length_le (by simp)
      simp only [e2, e3, callMethod, Sem.run_bind, run_program, Result.andThen_ok, hn, run_method_k (w := w) (x := x) (V := X) k hI hm' hfq hp' (k.under hd) hb n]
      rw [run_callFunc_enter k hfn hbody]
      congr 2
      apply Array.ext'
      simp
    · cases h
  | builtin b =>
    rw [hc] at h
    obtain ⟨cs, e1⟩ : ∃ cs, resolve a.eval c o.type = (pure { target := .builtin b c.argTypes o.type cs, args := c.args.map a.eval } : Sem Deferred) :=
      ⟨_, by simp only [resolve, hc]; rfl⟩
    rw [e1]
    simp only [Sem.run_bind, Sem.run_pure, Result.andThen_ok, invoke]
    have := callB_ok (E := E) (T := T) (ty := o.type) (cs := cs) hσ k s hq hA' h
    rw [show ((c.args.map a.eval).toList).toArray = c.args.map a.eval from by apply Array.ext'; simp] at this
    exact this
end
end Go.Proofs.YtogmhgklmjbfaaaGreatDoor.Kv
