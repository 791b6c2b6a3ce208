/-
  Maps: keys, finding them, laying them in.
-/
import Derived.Test.YtogmhgklmjbfaaaGreatDoorKvL
namespace Go.Proofs.YtogmhgklmjbfaaaGreatDoor.Kv
section
variable {P : Program} {p : PT} {σ : Nat → Value} {ρ : Loc} {H : Hp} {q : Nat} {w : World} {m : Nat} {E : Env} {T : Tr AV} {a : Act} {o : Oper} {res : OR}

theorem run_getObj_m {r : Nat} {es : Array MapEntry} {c : Nat} (h : w.heap[r]? = some (.map es c)) : (getObj r).run P w = .ok (.map es c) w := by simp [getObj, Sem.run, h]
theorem run_setObj_m {r : Nat} {es : Array MapEntry} {c : Nat} {R' : Obj} (h : w.heap[r]? = some (.map es c)) : (setObj r R').run P w = .ok () { w with heap := w.heap.setIfInBounds r R' } := by simp [setObj, Sem.run, h]
theorem run_getObj_i {r : Nat} {m : Option Nat} {s : Nat} {e : Array Nat} {c : Nat} (h : w.heap[r]? = some (.mapIter m s e c)) : (getObj r).run P w = .ok (.mapIter m s e c) w := by simp [getObj, Sem.run, h]
theorem run_setObj_i {r : Nat} {m : Option Nat} {s : Nat} {e : Array Nat} {c : Nat} {R' : Obj} (h : w.heap[r]? = some (.mapIter m s e c)) : (setObj r R').run P w = .ok () { w with heap := w.heap.setIfInBounds r R' } := by simp [setObj, Sem.run, h]

/-! ### keys -/
theorem flatD_checkKey {d : TypeDesc} (hf : flatD d = true) {t : TypeId} (hd : P.underlying t = some d) (em : Bool) (n : Nat) (V : Value) : (Instr.checkKey em (n + 1) t V).run P w = .ok () w := by
  unfold Instr.checkKey
  simp only [Sem.run_bind, run_underlying hd, Result.andThen_ok]
  cases d <;> first | (cases hf; done) | rfl

theorem forIn_unit (f : Field → PUnit → Sem (ForInStep PUnit)) : ∀ (fs : List Field), (∀ x ∈ fs, (f x ()).run P w = .ok (.yield ()) w) → (forIn (m := Sem) fs () f).run P w = .ok () w
  | [], _ => rfl
  | x :: fs, h => by
    simp only [List.forIn_cons, Sem.run_bind, h x (by simp), Result.andThen_ok]
    exact forIn_unit f fs fun y hy => h y (by simp [hy])

theorem keyParts_all {cs : List AV} : ∀ {fs : List Field}, (List.rec (motive := fun _ => Bool) true (fun f _ r => Bool.rec false r (keyPart p cs f)) fs : Bool) = true → ∀ f ∈ fs, keyPart p cs f = true
  | [], _, f, hf => by cases hf
  | g :: fs, h, f, hf => by
    have h : (Bool.rec false (List.rec (motive := fun _ => Bool) true (fun f _ r => Bool.rec false r (keyPart p cs f)) fs) (keyPart p cs g) : Bool) = true := h
    cases e : keyPart p cs g with
    | false => rw [e] at h; cases h
    | true =>
      rw [e] at h
      rcases List.mem_cons.1 hf with rfl | hf
      · exact e
      · exact keyParts_all h f hf

theorem keyOf_cases (d : TypeDesc) (x : AV) : (∃ fs, d = .struct fs) ∨ keyOf p d x = flatD d := by
  cases d <;> first | exact .inl ⟨_, rfl⟩ | exact .inr rfl
theorem keyOk_ok (k : PTOk P p) {kt : TypeId} {x : AV} {X : Value} (h : keyOk p kt x = true) (hx : conc σ ρ x = some X) (em : Bool) : (Instr.checkKey em 10000 kt X).run P w = .ok () w := by
  unfold keyOk at h
  cases hd : under p kt with
  | none => rw [hd] at h; cases h
  | some d =>
    rw [hd] at h
    have h : keyOf p d x = true := h
    have hD := k.under hd
    rcases keyOf_cases (p := p) d x with ⟨fs, rfl⟩ | e
    · have e : True := trivial
      obtain ⟨cs, rfl⟩ : ∃ cs, x = .agg cs := by cases x <;> first | (cases h; done) | exact ⟨_, rfl⟩
      have h : (List.rec (motive := fun _ => Bool) true (fun f _ r => Bool.rec false r (keyPart p cs f)) fs.toList : Bool) = true := h
      simp only [conc, Option.map_eq_some_iff] at hx
      obtain ⟨CS, hCS, rfl⟩ := hx
      unfold Instr.checkKey
      simp only [Sem.run_bind, run_underlying hD, Result.andThen_ok]
      rw [← Array.forIn_toList]
      rw [forIn_unit _ fs.toList fun f hf => ?_]
      · rfl
      have hp := keyParts_all h f hf
      unfold keyPart at hp
      by_cases hn : f.name = "_"
      · simp only [hn, ne_eq, not_true_eq_false, if_false, Sem.run_bind, Sem.run_pure, Result.andThen_ok]
      · rw [decide_eq_false hn] at hp
        have hp : (Option.rec (motive := fun _ => Bool) false (fun u => Bool.rec false (Option.rec (motive := fun _ => Bool) false (fun _ => true) (partA p f.type cs f.offset)) (flatD u)) (under p f.type)) = true := hp
        cases hu : under p f.type with
        | none => rw [hu] at hp; cases hp
        | some u =>
          rw [hu] at hp
          have hp : (Bool.rec false (Option.rec (motive := fun _ => Bool) false (fun _ => true) (partA p f.type cs f.offset)) (flatD u) : Bool) = true := hp
          cases hfl : flatD u with
          | false => rw [hfl] at hp; cases hp
          | true =>
            rw [hfl] at hp
            cases hpa : partA p f.type cs f.offset with
            | none => rw [hpa] at hp; cases hp
            | some v =>
              obtain ⟨V, hV, _⟩ := partA_ok (w := w) k hpa hCS
              simp only [if_pos hn, Sem.run_bind, hV, Result.andThen_ok, flatD_checkKey hfl (k.under hu), Sem.run_pure]
    · exact flatD_checkKey (e ▸ h) hD em 9999 X

/-! ### finding -/
theorem sameNow_equalIn {kt : TypeId} {d : TypeDesc} (hd : P.underlying kt = some d) {X Y : Value} {b : Bool} (h : Instr.sameNow d X Y = some b) (n : Nat) : (Op.equalIn (n + 1) kt X Y).run P w = .ok b w := by
  unfold Instr.sameNow at h
  unfold Op.equalIn
  split at h
  · rename_i k m k' n
    split at h
    · rename_i hk
      cases h
      simp only [Sem.run_bind, run_underlying hd, Result.andThen_ok, if_pos hk, Sem.run_pure]
    · cases h
  · cases h
    simp only [Sem.run_bind, run_underlying hd, Result.andThen_ok, Sem.run_pure]
  · cases h
    simp only [Sem.run_bind, run_underlying hd, Result.andThen_ok, Sem.run_pure]
  · cases h
theorem sameNow_equal {kt : TypeId} {d : TypeDesc} (hd : P.underlying kt = some d) {X Y : Value} {b : Bool} (h : Instr.sameNow d X Y = some b) : (Op.equal kt X Y).run P w = .ok b w :=
  sameNow_equalIn hd h 9999

theorem findNow_asking {kt : TypeId} {d : TypeDesc} (hd : P.underlying kt = some d) {X : Value} : ∀ (ES : List MapEntry) (i : Nat) {r : Option (Nat × Value)}, Instr.findNow d X ES i = some r → (Instr.findAsking kt X ES i).run P w = .ok r w
  | [], i, r, h => by
    simp only [Instr.findNow, Option.some.injEq] at h
    subst h; rfl
  | e :: ES, i, r, h => by
    unfold Instr.findNow at h
    unfold Instr.findAsking
    split at h
    · rename_i hs
      cases h
      simp only [Sem.run_bind, sameNow_equal hd hs, Result.andThen_ok, if_true, Sem.run_pure]
    · rename_i hs
      simp only [Sem.run_bind, sameNow_equal hd hs, Result.andThen_ok, Bool.false_eq_true, if_false]
      exact findNow_asking hd ES (i + 1) h
    · cases h

/-- what was found -/
def FRel (σ : Nat → Value) (ρ : Loc) : Option (Nat × AV) → Option (Nat × Value) → Prop
  | none, R => R = none
  | some x, R => ∃ V, R = some (x.1, V) ∧ conc σ ρ x.2 = some V

theorem findA_asking (k : PTOk P p) (s : Sim P σ ρ H.get w) {kt : TypeId} {x : AV} {X : Value} (hx : conc σ ρ x = some X) : ∀ (es : List AE) (ES : List MapEntry) (i : Nat) {r : Option (Nat × AV)}, findA p H kt x es i = some r → All2 (EntRel σ ρ) es ES →
    ∃ R, (Instr.findAsking kt X ES i).run P w = .ok R w ∧ FRel σ ρ r R
  | [], ES, i, r, h, hE => by
    have h : some none = some r := h
    cases h
    cases ES with
    | nil => exact ⟨none, rfl, rfl⟩
    | cons _ _ => exact hE.elim
  | e :: es, ES, i, r, h, hE => by
    have h : ob (eqIn p H 10000 kt x e.key) (fun q => bt q (some (some (i, e.val))) (findA p H kt x es (i + 1))) = some r := h
    cases ES with
    | nil => exact hE.elim
    | cons Y ES =>
      obtain ⟨⟨hk, hv, _⟩, hE⟩ := hE
      rw [ob_eq] at h
      obtain ⟨b, hb, h⟩ := h
      have hr := eqIn_ok k s 10000 kt x e.key X Y.key b hb hx hk
      rw [bt_eq] at h
      unfold Instr.findAsking
      simp only [Sem.run_bind, Op.equal, Op.maxDepth, hr, Result.andThen_ok]
      rcases h with ⟨rfl, h⟩ | ⟨rfl, h⟩
      · cases h
        exact ⟨some (i, Y.val), by simp, Y.val, rfl, hv⟩
      · simp only [Bool.false_eq_true, if_false]
        exact findA_asking k s hx es ES (i + 1) h hE

theorem findA_ok (k : PTOk P p) (s : Sim P σ ρ H.get w) {kt : TypeId} {d : TypeDesc} (hd : P.underlying kt = some d) {x : AV} {X : Value} (hx : conc σ ρ x = some X) {es : List AE} {ES : List MapEntry} {r : Option (Nat × AV)}
    (h : findA p H kt x es 0 = some r) (hE : All2 (EntRel σ ρ) es ES) : ∃ R, (Instr.findKey kt X ES).run P w = .ok R w ∧ FRel σ ρ r R := by
  obtain ⟨R, hR, hr⟩ := findA_asking k s hx es ES 0 h hE
  refine ⟨R, ?_, hr⟩
  unfold Instr.findKey
  simp only [Sem.run_bind, run_underlying hd, Result.andThen_ok]
  split
  · rename_i r' h'
    have := findNow_asking (w := w) hd ES 0 h'
    rw [this] at hR
    cases hR
    rfl
  · exact hR

/-! ### blocks that are maps -/
theorem Sim.map (s : Sim P σ ρ H.get w) {b : Nat} {es : List AE} {c : Nat} (hb : H.get b = some (.map es c)) {x : Nat × Nat} (hx : ρ b = some x) :
    ∃ ES : Array MapEntry, w.heap[x.1]? = some (.map ES c) ∧ All2 (EntRel σ ρ) es ES.toList := by
  obtain ⟨y, R, hy, hR, ES, rfl, h1⟩ := s.obj b _ hb
  rw [hx] at hy
  cases hy
  exact ⟨ES, hR, h1⟩

def MapAt (w : World) (A : Value) (ES : Array MapEntry) : Prop := (A = .map none ∧ ES = #[]) ∨ ∃ r c, A = .map (some r) ∧ w.heap[r]? = some (.map ES c)
theorem mapOf_ok (s : Sim P σ ρ H.get w) {a : AV} {m : List AE × Nat} {A : Value} (h : mapOf H a = some m) (ha : conc σ ρ a = some A) :
    ∃ ES : Array MapEntry, MapAt w A ES ∧ All2 (EntRel σ ρ) m.1 ES.toList := by
  unfold mapOf at h
  split at h
  · rename_i b
    simp only [ob_eq, AO.mapK_eq] at h
    obtain ⟨o, ho, es, c, rfl, h⟩ := h
    cases h
    simp only [conc, Option.map_eq_some_iff] at ha
    obtain ⟨x, hx, rfl⟩ := ha
    obtain ⟨ES, h1, h2⟩ := s.map ho hx
    exact ⟨ES, .inr ⟨_, _, rfl, h1⟩, h2⟩
  · cases h
    simp only [conc, Option.some.injEq] at ha
    subst ha
    exact ⟨#[], .inl ⟨rfl, rfl⟩, trivial⟩
  · cases h

theorem run_lookup_k {t kt e : TypeId} {A K : Value} {ES : Array MapEntry} {ok : Bool} (hD : P.underlying t = some (.map kt e)) (hA : MapAt w A ES) (hck : (Instr.checkKey ES.isEmpty 10000 kt K).run P w = .ok () w)
    {R : Option (Nat × Value)} (hR : (Instr.findKey kt K ES.toList).run P w = .ok R w) {V : Value} {b : Bool} (hV : (∃ j, R = some (j, V) ∧ b = true) ∨ (R = none ∧ (zeroValue e).run P w = .ok V w ∧ b = false)) :
    (Instr.lookup t A K ok).run P w = .ok (if ok then .tuple #[V, .bool b] else V) w := by
  unfold Instr.lookup
  simp only [Sem.run_bind, run_underlying hD, Result.andThen_ok]
  rcases hA with ⟨rfl, rfl⟩ | ⟨r, c, rfl, hr⟩
  · simp only [Sem.run_bind, Sem.run_pure, Result.andThen_ok, hck, hR]
    rcases hV with ⟨j, rfl, rfl⟩ | ⟨rfl, hz, rfl⟩
    · simp only [Sem.run_bind, Sem.run_pure, Result.andThen_ok]
    · simp only [Sem.run_bind, Sem.run_pure, Result.andThen_ok, hz]
  · simp only [Sem.run_bind, Sem.run_pure, run_getObj_m hr, Result.andThen_ok, hck, hR]
    rcases hV with ⟨j, rfl, rfl⟩ | ⟨rfl, hz, rfl⟩
    · simp only [Sem.run_bind, Sem.run_pure, Result.andThen_ok]
    · simp only [Sem.run_bind, Sem.run_pure, Result.andThen_ok, hz]

theorem conc_withOk {ok b : Bool} {v : AV} {V : Value} (h : conc σ ρ v = some V) : conc σ ρ (withOk ok v b) = some (if ok then .tuple #[V, .bool b] else V) := by
  cases ok
  · exact h
  · simp [withOk, conc, concs, h]

theorem oLookup_ok (k : PTOk P p) (g : GlobOk p ρ) (r : ERel σ ρ m E T a) (s : Sim P σ ρ H.get w) {t : TypeId} {x i : Operand} {ok : Bool} (ho : o.op = .lookup t x i ok) (h : oLookup p t x i ok E T H q = some res) :
    OpOk P σ ρ H.get q w ((execOp a.eval o).run P w) res := by
  simp only [oLookup, ob_eq, mapK_eq] at h
  obtain ⟨d, hd, kt, e, rfl, h⟩ := h
  obtain ⟨v, h', hv⟩ := opdK_ok g r h; clear h; revert h'; intro h
  obtain ⟨u, h', hu⟩ := opdK_ok g r h; clear h; revert h'; intro h
  simp only [chk_eq, ob_eq] at h
  obtain ⟨hk, mm, hm, rr, hr, h⟩ := h
  obtain ⟨ES, h1, h2⟩ := mapOf_ok s hm hv
  have hD := k.under hd
  have hck := keyOk_ok (w := w) k hk hu ES.isEmpty
  have hkd : ∃ kd, P.underlying kt = some kd := by
    unfold keyOk at hk
    cases hd : under p kt with
    | none => rw [hd] at hk; cases hk
    | some kd => exact ⟨kd, k.under hd⟩
  obtain ⟨kd, hkd⟩ := hkd
  obtain ⟨R, hR, hf⟩ := findA_ok k s hkd hu hr h2
  have he : execOp a.eval o = (do pure (.value (← Instr.lookup t (a.eval x) (a.eval i) ok)) : Sem Next) := by simp [execOp, ho]
  split at h
  · rename_i x'
    obtain ⟨V, rfl, hV⟩ := hf
    exact .of s he (run_lookup_k hD h1 hck hR (.inl ⟨_, rfl, rfl⟩)) (conc_withOk hV) h
  · have hf : R = none := hf
    subst hf
    rw [ob_eq] at h
    obtain ⟨z, hz, h⟩ := h
    obtain ⟨ti, Z, hi, hZ, _, hcz⟩ := k.zero σ ρ hz
    exact .of s he (run_lookup_k hD h1 hck hR (.inr ⟨rfl, run_zeroValue_k w hi hZ, rfl⟩)) (conc_withOk hcz) h

/-! ### laying in -/
theorem keyThatStays_self (K : Value) : ∃ w', (Instr.keyThatStays K K).run P w = .ok K w' ∧ w'.heap = w.heap ∧ w'.os = w.os ∧ w'.output = w.output := by
  unfold Instr.keyThatStays
  split
  · exact ⟨w, rfl, rfl, rfl, rfl⟩
  · refine ⟨{ w with drawn := w.drawn + 1 }, ?_, rfl, rfl, rfl⟩
    simp only [Sem.run_bind, run_choose, Question.forced]
    simp

theorem flatEq_eq {x y : AV} (h : flatEq x y = true) : x = y := by
  unfold flatEq at h
  split at h
  · rename_i a b
    cases a <;> cases b <;> first | rfl | cases h
  · rename_i k m k' n
    cases e : kBeq k k' with
    | false => rw [e] at h; cases h
    | true =>
      rw [e] at h
      have h : intBeq m n = true := h
      rw [intBeq_eq] at h
      rw [(kBeq_eq _ _).1 e, eq_of_beq h]
  · rw [strBeq_eq] at h
    rw [eq_of_beq h]
  · rename_i b o b' o'
    cases e : Nat.beq b b' with
    | false => rw [e] at h; cases h
    | true =>
      rw [e] at h
      rw [Nat.eq_of_beq_eq_true e, Nat.eq_of_beq_eq_true h]
  · rfl
  · cases h
theorem flatsEq_eq : ∀ {x y : List AV}, flatsEq x y = true → x = y
  | [], [], _ => rfl
  | [], _ :: _, h => by cases h
  | _ :: _, [], h => by cases h
  | a :: x, b :: y, h => by
    have h : (Bool.casesOn (flatEq a b) false (flatsEq x y) : Bool) = true := h
    cases e : flatEq a b with
    | false => rw [e] at h; cases h
    | true =>
      rw [e] at h
      rw [flatEq_eq e, flatsEq_eq h]
theorem keyEq_eq {x y : AV} (h : keyEq x y = true) : x = y := by
  unfold keyEq at h
  split at h
  · rw [flatsEq_eq h]
  · exact flatEq_eq h

theorem setAt_get {α : Type} (f : α → α) : ∀ (n : Nat) (l : List α) (i : Nat), (setAt f n l)[i]? = if i = n then (l[i]?).map f else l[i]?
  | 0, [], i => by
    show ([] : List α)[i]? = _
    simp
  | 0, x :: l, i => by
    show (f x :: l)[i]? = _
    cases i <;> simp
  | n + 1, [], i => by
    show ([] : List α)[i]? = _
    simp
  | n + 1, x :: l, i => by
    show (x :: setAt f n l)[i]? = _
    cases i with
    | zero => simp
    | succ i =>
      simp only [List.getElem?_cons_succ, setAt_get f n l i]
      simp
theorem setAt_len {α : Type} (f : α → α) : ∀ (n : Nat) (l : List α), (setAt f n l).length = l.length
  | 0, [] => rfl
  | 0, _ :: _ => rfl
  | _ + 1, [] => rfl
  | n + 1, x :: l => by
    show (x :: setAt f n l).length = _
    simp [setAt_len f n l]
theorem delAt_eq {α : Type} : ∀ (n : Nat) (l : List α), delAt n l = l.eraseIdx n
  | 0, [] => rfl
  | 0, _ :: _ => rfl
  | _ + 1, [] => rfl
  | n + 1, x :: l => by
    show x :: delAt n l = _
    rw [delAt_eq n l]; rfl

/-- an entry is changed -/
theorem setAt_rel {f : AE → AE} {F : MapEntry → MapEntry} {n : Nat} {es : List AE} {ES : Array MapEntry} (h : All2 (EntRel σ ρ) es ES.toList)
    (hf : ∀ e E, es[n]? = some e → ES[n]? = some E → EntRel σ ρ e E → EntRel σ ρ (f e) (F E)) : All2 (EntRel σ ρ) (setAt f n es) (ES.modify n F).toList := by
  refine All2.of_get (by rw [setAt_len]; simp [All2.length h]) fun i e E he hE => ?_
  rw [setAt_get] at he
  rw [Array.getElem?_toList, Array.getElem?_modify] at hE
  by_cases hi : i = n
  · subst hi
    rw [if_pos rfl] at he hE
    rw [Option.map_eq_some_iff] at he hE
    obtain ⟨e0, he0, rfl⟩ := he
    obtain ⟨E0, hE0, rfl⟩ := hE
    obtain ⟨E1, hE1, hr⟩ := h.get he0
    rw [Array.getElem?_toList, hE0] at hE1
    cases hE1
    exact hf e0 E0 he0 hE0 hr
  · rw [if_neg hi] at he
    rw [if_neg (Ne.symm hi)] at hE
    obtain ⟨E1, hE1, hr⟩ := h.get he
    rw [Array.getElem?_toList, hE] at hE1
    cases hE1
    exact hr

theorem push_rel {es : List AE} {ES : Array MapEntry} (h : All2 (EntRel σ ρ) es ES.toList) {e : AE} {E : MapEntry} (he : EntRel σ ρ e E) : All2 (EntRel σ ρ) (app es [e]) (ES.push E).toList := by
  rw [app_eq, Array.toList_push]
  exact All2.append h ⟨he, trivial⟩

/-- a map is written -/
theorem writeMap (s : Sim P σ ρ H.get w) {b : Nat} {es es' : List AE} {c c' : Nat} (hb : H.get b = some (.map es c)) {x : Nat × Nat} (hx : ρ b = some x) {ES' : Array MapEntry} (hr : All2 (EntRel σ ρ) es' ES'.toList) {w' : World}
    (hw : w'.heap = w.heap.setIfInBounds x.1 (.map ES' c')) (he : w'.os = w.os ∧ w'.output = w.output := by exact ⟨rfl, rfl⟩) : Ext ρ H.get q w ρ (H.put b (some (.map es' c'))).get q w' ∧ Sim P σ ρ (H.put b (some (.map es' c'))).get w' := by
  rw [put_get]
  exact s.write (o := .map es' c') (by rw [hb]; simp) hx (R := .map ES' c') ⟨ES', rfl, hr⟩ hw he

theorem keyType (k : PTOk P p) {kt : TypeId} {x : AV} (hk : keyOk p kt x = true) : ∃ kd, P.underlying kt = some kd := by
  unfold keyOk at hk
  cases hd : under p kt with
  | none => rw [hd] at hk; cases hk
  | some kd => exact ⟨kd, k.under hd⟩

theorem found_get {es : List AE} {ES : Array MapEntry} (h : All2 (EntRel σ ρ) es ES.toList) {n : Nat} {e : AE} (he : es[n]? = some e) : ∃ E, ES[n]? = some E ∧ EntRel σ ρ e E := by
  obtain ⟨E, hE, hr⟩ := h.get he
  exact ⟨E, by simpa using hE, hr⟩

theorem oMapUpdate_ok (k : PTOk P p) (g : GlobOk p ρ) (r : ERel σ ρ m E T a) (s : Sim P σ ρ H.get w) {t : TypeId} {x i y : Operand} (ho : o.op = .mapUpdate t x i y ∨ o.op = .insert t x i y) (h : oMapUpdate p t x i y E T H q = some res) :
    OpOk P σ ρ H.get q w ((execOp a.eval o).run P w) res := by
  simp only [oMapUpdate, ob_eq, mapK_eq] at h
  obtain ⟨d, hd, kt, e, rfl, h⟩ := h
  obtain ⟨v, h', hv⟩ := opdK_ok g r h; clear h; revert h'; intro h
  obtain ⟨u, h', hu⟩ := opdK_ok g r h; clear h; revert h'; intro h
  obtain ⟨z, h', hz⟩ := opdK_ok g r h; clear h; revert h'; intro h
  simp only [chk_eq, ob_eq, AV.mpK_eq, AO.mapK_eq] at h
  obtain ⟨hk, b, rfl, ob', hb, es, c, rfl, rr, hr, h⟩ := h
  simp only [conc, Option.map_eq_some_iff] at hv
  obtain ⟨X, hX, hv⟩ := hv
  obtain ⟨ES, h1, h2⟩ := s.map hb hX
  have hD := k.under hd
  have hck := keyOk_ok (w := w) k hk hu false
  obtain ⟨kd, hkd⟩ := keyType k hk
  obtain ⟨R, hR, hf⟩ := findA_ok k s hkd hu hr h2
  have he : execOp a.eval o = (do Instr.mapUpdate t (a.eval x) (a.eval i) (a.eval y); pure .skip : Sem Next) := by rcases ho with ho | ho <;> simp [execOp, ho]
  have h0 : ∀ w', (Instr.mapUpdate t (a.eval x) (a.eval i) (a.eval y)).run P w = .ok () w' → (execOp a.eval o).run P w = .ok .skip w' := by
    intro w' hw'
    rw [he]; simp only [Sem.run_bind, hw', Result.andThen_ok, Sem.run_pure]
  have hu' : (Instr.mapUpdate t (a.eval x) (a.eval i) (a.eval y)).run P w = ((match R with
      | some (i', _) => do
        let key ← Instr.keyThatStays (((ES[i']?).map (·.key)).getD (a.eval i)) (a.eval i)
        setObj X.1 (.map (ES.modify i' fun e => { e with key, val := a.eval y }) c)
      | none => setObj X.1 (.map (ES.push { key := a.eval i, val := a.eval y, born := c }) (c + 1))) : Sem Unit).run P w := by
    unfold Instr.mapUpdate
    simp only [Sem.run_bind, run_underlying hD, Result.andThen_ok, ← hv, run_getObj_m h1, hck, hR]
    cases R <;> rfl
  split at h
  · rename_i x'
    obtain ⟨V, rfl, hV⟩ := hf
    simp only [ob_eq, chk_eq, nth_eq] at h
    obtain ⟨ent, hent, hke, h⟩ := h
    cases h
    have hke := keyEq_eq hke
    obtain ⟨Ent, hEnt, hre⟩ := found_get h2 hent
    have hkk : Ent.key = a.eval i := by
      have := hre.1
      rw [hke, hu] at this
      injection this with this
      exact this.symm
    obtain ⟨w1, k1, k2, k3⟩ := keyThatStays_self (P := P) (w := w) (a.eval i)
    have h1' : w1.heap[X.1]? = some (.map ES c) := by rw [k2]; exact h1
    refine ⟨ρ, { w1 with heap := w1.heap.setIfInBounds X.1 (.map (ES.modify x'.1 fun e => { e with key := a.eval i, val := a.eval y }) c) }, h0 _ ?_, ?_⟩
    · rw [hu']
      simp only [hEnt, Option.map_some, Option.getD_some, hkk, Sem.run_bind, k1, Result.andThen_ok, run_setObj_m h1']
    · exact writeMap s hb hX (setAt_rel (F := fun e => { e with key := a.eval i, val := a.eval y }) h2 fun e0 E0 he0 hE0 hr0 => by
        rw [hent] at he0
        cases he0
        exact ⟨by show conc σ ρ ent.key = _; rw [hke]; exact hu, hz, hr0.2.2⟩) (by simp [k2]) k3
  · have hf : R = none := hf
    subst hf
    cases h
    refine ⟨ρ, { w with heap := w.heap.setIfInBounds X.1 (.map (ES.push { key := a.eval i, val := a.eval y, born := c }) (c + 1)) }, h0 _ ?_, ?_⟩
    · rw [hu']
      simp only [run_setObj_m h1]
    · exact writeMap s hb hX (push_rel h2 ⟨hu, hz, rfl⟩) rfl

theorem oMapEntry_ok (k : PTOk P p) (g : GlobOk p ρ) (r : ERel σ ρ m E T a) (s : Sim P σ ρ H.get w) {t : TypeId} {x i : Operand} (ho : o.op = .mapEntry t x i) (h : oMapEntry p t x i E T H q = some res) :
    OpOk P σ ρ H.get q w ((execOp a.eval o).run P w) res := by
  simp only [oMapEntry, ob_eq, mapK_eq] at h
  obtain ⟨d, hd, kt, e, rfl, h⟩ := h
  obtain ⟨v, h', hv⟩ := opdK_ok g r h; clear h; revert h'; intro h
  obtain ⟨u, h', hu⟩ := opdK_ok g r h; clear h; revert h'; intro h
  simp only [chk_eq, ob_eq, AV.mpK_eq, AO.mapK_eq] at h
  obtain ⟨hk, b, rfl, ob', hb, es, c, rfl, rr, hr, h⟩ := h
  simp only [conc, Option.map_eq_some_iff] at hv
  obtain ⟨X, hX, hv⟩ := hv
  obtain ⟨ES, h1, h2⟩ := s.map hb hX
  have hD := k.under hd
  have hck := keyOk_ok (w := w) k hk hu false
  obtain ⟨kd, hkd⟩ := keyType k hk
  obtain ⟨R, hR, hf⟩ := findA_ok k s hkd hu hr h2
  have he : execOp a.eval o = (do pure (.value (← Instr.mapEntry t (a.eval x) (a.eval i))) : Sem Next) := by simp [execOp, ho]
  have h0 : ∀ V w', (Instr.mapEntry t (a.eval x) (a.eval i)).run P w = .ok V w' → (execOp a.eval o).run P w = .ok (.value V) w' := by
    intro V w' hw'
    rw [he]; simp only [Sem.run_bind, hw', Result.andThen_ok, Sem.run_pure]
  split at h
  · rename_i x'
    obtain ⟨V, rfl, hV⟩ := hf
    simp only [ob_eq, chk_eq, nth_eq] at h
    obtain ⟨ent, hent, hke, h⟩ := h
    have hke := keyEq_eq hke
    obtain ⟨Ent, hEnt, hre⟩ := found_get h2 hent
    have hkk : Ent.key = a.eval i := by
      have := hre.1
      rw [hke, hu] at this
      injection this with this
      exact this.symm
    obtain ⟨w1, k1, k2, k3⟩ := keyThatStays_self (P := P) (w := w) (a.eval i)
    have h1' : w1.heap[X.1]? = some (.map ES c) := by rw [k2]; exact h1
    have h : some (OR.val (.tup [x'.2, .int .i64 ent.born]) H q) = some res := h
    cases h
    have hmod : (ES.modify x'.1 fun e => { e with key := a.eval i }) = ES := by
      apply Array.ext_getElem?
      intro j
      rw [Array.getElem?_modify]
      by_cases hj : x'.1 = j
      · subst hj
        rw [if_pos rfl, hEnt, Option.map_some]
        obtain ⟨k0, v0, b0⟩ := Ent
        simp only at hkk
        rw [hkk]
      · rw [if_neg hj]
    have hsame : (w1.heap.setIfInBounds X.1 (.map ES c)) = w.heap := by
      rw [k2]
      apply Array.ext_getElem?
      intro j
      by_cases hj : X.1 = j
      · subst hj
        have hlt := s.lt b X hX
        simp [hlt]
        have h1'' := h1
        rw [Array.getElem?_eq_getElem hlt] at h1''
        injection h1'' with h1''
        exact h1''.symm
      · rw [Array.getElem?_setIfInBounds_ne hj]
    refine ⟨ρ, .tuple #[V, goInt Ent.born], { w1 with heap := w1.heap.setIfInBounds X.1 (.map ES c) }, h0 _ _ ?_, ?_, Ext.of_heap hsame (Ext.refl _ _ _ _) k3, Sim.of_heap hsame s⟩
    · unfold Instr.mapEntry
      simp only [Sem.run_bind, run_underlying hD, Result.andThen_ok, ← hv, run_getObj_m h1, hck, hR]
      simp only [hEnt, Option.map_some, Option.getD_some, hkk, Sem.run_bind, k1, Result.andThen_ok, run_setObj_m h1', hmod, Sem.run_pure]
    · simp only [conc, concs, hV, Option.bind_some, Option.map_some, goInt, hre.2.2]
  · have hf : R = none := hf
    subst hf
    rw [ob_eq] at h
    obtain ⟨z, hz, h⟩ := h
    cases h
    obtain ⟨ti, Z, hi, hZ, _, hcz⟩ := k.zero σ ρ hz
    refine ⟨ρ, .tuple #[Z, goInt c], { w with heap := w.heap.setIfInBounds X.1 (.map (ES.push { key := a.eval i, val := Z, born := c }) (c + 1)) }, h0 _ _ ?_, ?_, ?_⟩
    · unfold Instr.mapEntry
      simp only [Sem.run_bind, run_underlying hD, Result.andThen_ok, ← hv, run_getObj_m h1, hck, hR, run_zeroValue_k w hi hZ, run_setObj_m h1, Sem.run_pure]
    · simp only [conc, concs, hcz, Option.bind_some, Option.map_some, goInt]
    · exact writeMap s hb hX (push_rel h2 ⟨hu, hcz, rfl⟩) rfl
end
end Go.Proofs.YtogmhgklmjbfaaaGreatDoor.Kv
