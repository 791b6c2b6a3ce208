/-
  Code and calls: what the evaluator says is what the program does.
-/
import Derived.Test.YtogmhgklmjbfaaaGreatDoorKvW
import Derived.Scope
namespace Go.Proofs.YtogmhgklmjbfaaaGreatDoor.Kv

def exOf : Ex → Exit
  | .normal => .normal
  | .exit i => .exit i
  | .goto l => .goto l
  | .ret => .ret

def MaskOk (mask : Nat) (T : Tr AV) : Prop := ∀ t v, T.get t = some v → Nat.land (Nat.shiftRight mask t) 1 ≠ 0

theorem flush_cons (mask : Nat) (T : Tr AV) (d : Nat) (v : AV) (E : Env) : flush mask T (.cons d v E) = if Nat.land (Nat.shiftRight mask d) 1 = 0 then flush mask T E else (flush mask T E).put d (some v) := by
  show (Nat.rec (motive := fun _ => Tr AV) (flush mask T E) (fun _ _ => (flush mask T E).put d (some v)) (Nat.land (Nat.shiftRight mask d) 1) : Tr AV) = _
  cases e : Nat.land (Nat.shiftRight mask d) 1 with
  | zero => exact (if_pos rfl).symm
  | succ n => exact (if_neg (by omega)).symm

theorem flush_ok {mask : Nat} {T : Tr AV} (hm : MaskOk mask T) : ∀ (E : Env), MaskOk mask (flush mask T E) ∧ ∀ t v, (flush mask T E).get t = some v → look E T t = some v
  | .nil => ⟨hm, fun t v h => by rw [look_nil]; exact h⟩
  | .cons d u E => by
    obtain ⟨h1, h2⟩ := flush_ok hm E
    rw [flush_cons]
    split
    · rename_i h0
      refine ⟨h1, fun t v h => ?_⟩
      rw [look_cons]
      by_cases e : d = t
      · subst e; exact absurd h0 (h1 d v h)
      · rw [if_neg e]; exact h2 t v h
    · rename_i h0
      constructor
      · intro t v h
        rw [Tr.get_put] at h
        split at h
        · rename_i e; rw [e]; exact h0
        · exact h1 t v h
      · intro t v h
        rw [Tr.get_put] at h
        rw [look_cons]
        split at h
        · rename_i e; rw [if_pos e.symm]; exact h
        · rename_i e; rw [if_neg (Ne.symm e)]; exact h2 t v h

/-- on the way in a loop -/
def LoopWp (P : Program) (c : Code) (Q : Exit → Act → World → Prop) (a : Act) (w : World) : Prop :=
  ∀ (b : Frame) (k : List Item) (cs : List Frame), ∃ e a' w', Q e a' w' ∧ Arrives P (lone (b.at a (.code c :: .inLoop c :: k)) cs w) b k cs e a' w'
/-- on the way in a scope -/
def ScopeWp (P : Program) (b0 c : Code) (Q : Exit → Act → World → Prop) (a : Act) (w : World) : Prop :=
  ∀ (b : Frame) (k : List Item) (cs : List Frame), ∃ e a' w', Q e a' w' ∧ Arrives P (lone (b.at a (.code c :: .inScope b0 :: k)) cs w) b k cs e a' w'
def isLoop : Code → Option Code
  | .loop c => some c
  | _ => none

section
variable {P : Program} {Q : Exit → Act → World → Prop} {a : Act} {w : World}
theorem LoopWp.wp {c : Code} (h : LoopWp P c Q a w) : (Code.loop c).wp P Q a w := fun b k cs =>
  let ⟨e, a', w', hq, harr⟩ := h b k cs
  ⟨e, a', w', hq, .of_steps (.one step_loop) harr⟩
theorem ScopeWp.wp {c : Code} (h : ScopeWp P c c Q a w) : (Code.scope c).wp P Q a w := fun b k cs =>
  let ⟨e, a', w', hq, harr⟩ := h b k cs
  ⟨e, a', w', hq, .of_steps (.one step_scope) harr⟩

theorem LoopWp.step {c : Code} (h : c.wp P (Exit.then (LoopWp P c Q) Q) a w) : LoopWp P c Q a w := by
  intro b k cs
  obtain ⟨e, a₁, w₁, hq, harr⟩ := h b (.inLoop c :: k) cs
  cases e with
  | normal =>
    obtain ⟨e₂, a₂, w₂, hq₂, harr₂⟩ := hq b k cs
    exact ⟨e₂, a₂, w₂, hq₂, .of_steps (Steps.trans harr (.one step_inLoop)) harr₂⟩
  | exit id => exact ⟨_, a₁, w₁, hq, .pass (x := .inLoop c) rfl (fun _ _ => .inl (by simp)) harr⟩
  | goto l => exact ⟨_, a₁, w₁, hq, .pass (x := .inLoop c) rfl (fun _ _ => .inl (by simp)) harr⟩
  | ret => exact ⟨_, a₁, w₁, hq, .pass (x := .inLoop c) rfl (fun _ _ => .inl (by simp)) harr⟩
  | panic ch => exact ⟨_, a₁, w₁, hq, .pass (x := .inLoop c) rfl (fun _ _ => .inl (by simp)) harr⟩
  | outgrown => exact ⟨_, a₁, w₁, hq, .pass (x := .inLoop c) rfl (fun _ _ => .inl (by simp)) harr⟩

/-- what a scope makes of an end -/
def scopeEnd (P : Program) (b0 : Code) (Q : Exit → Act → World → Prop) : Exit → Act → World → Prop
  | .goto l, a, w => match findLabel b0 l with
    | some r => ScopeWp P b0 r Q a w
    | none => Q (.goto l) a w
  | e, a, w => Q e a w

theorem ScopeWp.step {b0 c : Code} (h : c.wp P (scopeEnd P b0 Q) a w) : ScopeWp P b0 c Q a w := by
  intro b k cs
  obtain ⟨e, a₁, w₁, hq, harr⟩ := h b (.inScope b0 :: k) cs
  cases e with
  | normal => exact ⟨.normal, a₁, w₁, hq, Steps.trans harr (.one step_inScope)⟩
  | exit id => exact ⟨.exit id, a₁, w₁, hq, fun k' hk => harr k' (by simp [exitTo, hk])⟩
  | goto l =>
    cases hl : findLabel b0 l with
    | none =>
      have hq : Q (.goto l) a₁ w₁ := by simpa [scopeEnd, hl] using hq
      exact ⟨.goto l, a₁, w₁, hq, fun k' hk => harr k' (by simp [gotoIn, hl, hk])⟩
    | some r =>
      have hq : ScopeWp P b0 r Q a₁ w₁ := by simpa [scopeEnd, hl] using hq
      obtain ⟨e₂, a₂, w₂, hq₂, harr₂⟩ := hq b k cs
      exact ⟨e₂, a₂, w₂, hq₂, .of_steps (harr _ (by simp [gotoIn, hl])) harr₂⟩
  | ret => exact ⟨_, a₁, w₁, hq, harr⟩
  | panic ch => exact ⟨_, a₁, w₁, hq, harr⟩
  | outgrown => exact ⟨_, a₁, w₁, hq, harr⟩
end

/-- what holds where code has come to an end -/
def Post (P : Program) (σ : Nat → Value) (ρ : Loc) (H : Hp) (q : Nat) (w : World) (m : Nat) (T' : Tr AV) (H' : Hp) (q' : Nat) (ρ' : Loc) (a' : Act) (w' : World) : Prop :=
  ERel σ ρ' m .nil T' a' ∧ Ext ρ H.get q w ρ' H'.get q' w' ∧ Sim P σ ρ' H'.get w'

/-- what holds where it begins -/
def Pre (P : Program) (p : PT) (σ : Nat → Value) (ρ : Loc) (H : Hp) (q q' : Nat) (w : World) (m : Nat) (T : Tr AV) (a : Act) : Prop :=
  GlobOk p ρ ∧ ERel σ ρ m .nil T a ∧ Sim P σ ρ H.get w ∧ Fresh ρ q q'

/-- A task comes to what the evaluator says. -/
def TaskOk (P : Program) (p : PT) (σ : Nat → Value) : Task → Res → Prop
  | .code c m mask T H q, .code e T' H' q' => MaskOk mask T → MaskOk mask T' ∧ ∀ ρ a w Q, Pre P p σ ρ H q q' w m T a → (∀ ρ' a' w', Post P σ ρ H q w m T' H' q' ρ' a' w' → Q (exOf e) a' w') →
      c.wp P Q a w ∧ ∀ b, isLoop c = some b → LoopWp P b Q a w
  | .sc b c m mask T H q, .code e T' H' q' => MaskOk mask T → MaskOk mask T' ∧ ∀ ρ a w Q, Pre P p σ ρ H q q' w m T a → (∀ ρ' a' w', Post P σ ρ H q w m T' H' q' ρ' a' w' → Q (exOf e) a' w') → ScopeWp P b c Q a w
  | .call f args H q, .call v H' q' => CallOk P p σ f args H q v H' q'
  | _, _ => False

section
variable {P : Program} {p : PT} {σ : Nat → Value} {rec : Rec}

theorem Post.trans {ρ : Loc} {H H1 H' : Hp} {q q1 q' : Nat} {w : World} {m : Nat} {T T1 T' : Tr AV} {a a1 a' : Act} {ρ1 ρ' : Loc} {w1 w' : World} (h : Pre P p σ ρ H q q' w m T a) (h1 : Post P σ ρ H q w m T1 H1 q1 ρ1 a1 w1)
    (h2 : Post P σ ρ1 H1 q1 w1 m T' H' q' ρ' a' w') : Post P σ ρ H q w m T' H' q' ρ' a' w' :=
  ⟨h2.1, Ext.trans h.2.2.1 h.2.2.2 h1.2.1 h2.2.1, h2.2.2⟩
theorem Pre.next {ρ : Loc} {H H1 : Hp} {q q1 q' : Nat} {w : World} {m : Nat} {T T1 : Tr AV} {a a1 : Act} {ρ1 : Loc} {w1 : World} (h : Pre P p σ ρ H q q' w m T a) (h1 : Post P σ ρ H q w m T1 H1 q1 ρ1 a1 w1) : Pre P p σ ρ1 H1 q1 q' w1 m T1 a1 :=
  ⟨h.1.le h1.2.1.le, h1.1, h1.2.2, h.2.2.2.after h1.2.1⟩
theorem Pre.first {ρ : Loc} {H : Hp} {q q1 q' : Nat} {w : World} {m : Nat} {T : Tr AV} {a : Act} (h : Pre P p σ ρ H q q' w m T a) (hq : q1 ≤ q') : Pre P p σ ρ H q q1 w m T a :=
  ⟨h.1, h.2.1, h.2.2.1, h.2.2.2.left hq⟩

theorem run_results (k : PTOk P p) {fn : Func} {T : Tr AV} {H : Hp} {ρ : Loc} {m : Nat} {a : Act} {w : World} (r : ERel σ ρ m .nil T a) (s : Sim P σ ρ H.get w) {l : List AV} (h : mapO (resA p T H) fn.results.toList = some l) :
    ∃ V, (Go.results fn a.tmps).run P w = .ok V w ∧ conc σ ρ (tupOf l) = some V := by
  have hloop : ∀ (rs : List ResultVar) (l : List AV), mapO (resA p T H) rs = some l → ∃ L : List Value, concs σ ρ l = some L ∧ ∀ f : ResultVar → Sem Value,
      (∀ t, f (.tmp t) = pure (a.tmps.getD t undef)) → (∀ b t, f (.cell b t) = (do loadVar t (← asAddr (a.tmps.getD b undef)))) → (rs.mapM (m := Sem) f).run P w = .ok L w := by
    intro rs
    induction rs with
    | nil =>
      intro l h
      have h : some [] = some l := h
      cases h
      exact ⟨[], rfl, fun _ _ _ => rfl⟩
    | cons x rs ih =>
      intro l h
      have h : ob (resA p T H x) (fun y => ob (mapO (resA p T H) rs) fun l => some (y :: l)) = some l := h
      simp only [ob_eq] at h
      obtain ⟨v, hv, l', hl, h⟩ := h
      cases h
      obtain ⟨L, hc, hL⟩ := ih l' hl
      have hx : ∃ V, conc σ ρ v = some V ∧ ∀ f : ResultVar → Sem Value,
          (∀ t, f (.tmp t) = pure (a.tmps.getD t undef)) → (∀ b t, f (.cell b t) = (do loadVar t (← asAddr (a.tmps.getD b undef)))) → (f x).run P w = .ok V w := by
        cases x with
        | tmp t =>
          have hv : T.get t = some v := hv
          obtain ⟨V, h1, h2⟩ := r.val t v (by rw [look_nil]; exact hv)
          exact ⟨V, h2, fun f f1 _ => by rw [f1]; simp [h1]⟩
        | cell b t =>
          have hv : ob (T.get b) (fun x => loadA p H t x) = some v := hv
          rw [ob_eq] at hv
          obtain ⟨x, hx, hv⟩ := hv
          obtain ⟨V, h1, h2⟩ := r.val b x (by rw [look_nil]; exact hx)
          obtain ⟨ad, V', rfl, h3, h4⟩ := loadA_ok k s hv h2
          exact ⟨V', h4, fun f _ f2 => by rw [f2]; simp [h1, asAddr, h3]⟩
      obtain ⟨V, hVc, hV⟩ := hx
      refine ⟨V :: L, by simp [concs, hVc, hc], fun f f1 f2 => ?_⟩
      simp only [List.mapM_cons, Sem.run_bind, hV f f1 f2, Result.andThen_ok, hL f f1 f2, Sem.run_pure]
  obtain ⟨L, hc, hL⟩ := hloop _ _ h
  have hrun : (Go.results fn a.tmps).run P w = .ok (if h : L.toArray.size = 1 then L.toArray[0] else .tuple L.toArray) w := by
    unfold Go.results
    rw [Array.mapM_eq_mapM_toList]
    simp only [Sem.run_bind, Sem.run_map]
    rw [hL _ (fun _ => rfl) (fun _ _ => rfl)]
    simp only [Result.andThen_ok, Sem.run_pure]
  refine ⟨_, hrun, ?_⟩
  unfold tupOf
  split
  · rename_i v
    obtain ⟨V, rfl, hv⟩ := concs1 hc
    simpa using hv
  · rename_i hne
    have hl : L.length ≠ 1 := by
      intro h1
      have := All2.length ((concs_all _ _).1 hc)
      match l, hne with
      | [], _ => simp at this; omega
      | [v], hne => exact hne v rfl
      | _ :: _ :: _, _ => simp at this; omega
    rw [dif_neg (by simpa using hl)]
    simp [conc, hc]

theorem trOf_nil_get (l : List AV) (t : Nat) : (trOf l (.nil : Tr AV) 0).get t = l[t]? := by
  rw [trOf_get]
  split
  · simp
  · rename_i h
    have h : l.length ≤ t := by omega
    rw [List.getElem?_eq_none h]; rfl

theorem mask_args {mask n t : Nat} (h : Nat.land mask (Nat.sub (Nat.pow 2 n) 1) = Nat.sub (Nat.pow 2 n) 1) (ht : t < n) : Nat.land (Nat.shiftRight mask t) 1 ≠ 0 := by
  have h : mask &&& (2 ^ n - 1) = 2 ^ n - 1 := h
  have hb : mask.testBit t = true := by
    have := congrArg (fun x => x.testBit t) h
    simp only [Nat.testBit_and, Nat.testBit_two_pow_sub_one, ht, decide_true, Bool.and_true] at this
    exact this
  show (mask >>> t) &&& 1 ≠ 0
  intro h0
  unfold Nat.testBit at hb
  rw [Nat.and_comm] at h0
  rw [h0] at hb
  simp at hb

theorem sound_call (hσ : Plain σ) (k : PTOk P p) (hrec : ∀ t r, rec t = some r → TaskOk P p σ t r) {f : FuncId} {args : List AV} {H : Hp} {q : Nat} {r : Res} (h : evCall p f args H q rec = some r) : TaskOk P p σ (.call f args H q) r := by
  unfold evCall at h
  simp only [ob_eq, chk_eq, len_eq] at h
  obtain ⟨fn, hfn, c, hc, hle, hmask, h⟩ := h
  have hle := Nat.le_of_ble_eq_true hle
  have hmask := Nat.eq_of_beq_eq_true hmask
  rw [codeK_eq] at h
  obtain ⟨e, T1, H1, q1, h1, h⟩ := h
  have hF := k.funcs f fn hfn
  have hm0 : MaskOk (p.masks f) (trOf args .nil 0) := by
    intro t v hv
    rw [trOf_nil_get] at hv
    refine mask_args hmask ?_
    cases Nat.lt_or_ge t args.length with
    | inl h => exact h
    | inr h => rw [List.getElem?_eq_none h] at hv; cases hv
  obtain ⟨_, hsem⟩ := hrec _ _ h1 hm0
  -- at the end
  have main : ∀ l, mapO (resA p T1 H1) fn.results.toList = some l → r = .call (tupOf l) H1 q1 → (exOf e = .normal ∨ exOf e = .ret) → TaskOk P p σ (.call f args H q) r := by
    rintro l hl rfl hex
    refine ⟨⟨fn, hF, by rw [hc]; rfl⟩, fun ρ w L g s fr hL => ?_⟩
    have hlen := All2.length ((concs_all _ _).1 hL)
    refine calls_of_wp hF hc ((hsem ρ _ w _ ⟨g, ?_, s, fr⟩ ?_).1)
    · refine ⟨fun t v hv => ?_, ?_, rfl⟩
      · rw [look_nil, trOf_nil_get] at hv
        obtain ⟨V, hV, hcV⟩ := ((concs_all _ _).1 hL).get hv
        have ht : t < L.length := by
          cases Nat.lt_or_ge t L.length with
          | inl h => exact h
          | inr h => rw [List.getElem?_eq_none h] at hV; cases hV
        refine ⟨V, ?_, hcV⟩
        rw [Array.getElem?_append_left (by simpa using ht)]
        simpa using hV
      · simp; omega
    · rintro ρ' a' w' ⟨r', e', s'⟩
      obtain ⟨V, hV, hcV⟩ := run_results k r' s' hl
      rcases hex with hex | hex
      · rw [hex]
        exact ⟨r'.defers, V, hV, ρ', V, rfl, hcV, e', s'⟩
      · rw [hex]
        exact ⟨r'.defers, V, hV, ρ', V, rfl, hcV, e', s'⟩
  have hres : Go.Proofs.YtogmhgklmjbfaaaGreatDoor.Kv.results p fn T1 H1 q1 = some r → (exOf e = .normal ∨ exOf e = .ret) → TaskOk P p σ (.call f args H q) r := by
    intro h hex
    unfold Go.Proofs.YtogmhgklmjbfaaaGreatDoor.Kv.results at h
    rw [ob_eq] at h
    obtain ⟨l, hl, h⟩ := h
    cases h
    exact main l hl rfl hex
  cases e with
  | normal => exact hres h (.inl rfl)
  | exit i => cases h
  | goto l => cases h
  | ret => exact hres h (.inr rfl)

theorem sound_sc (hgrow : Grows rec) (hrec : ∀ t r, rec t = some r → TaskOk P p σ t r) {b c : Code} {m mask : Nat} {T : Tr AV} {H : Hp} {q : Nat} {r : Res} (h : evSc b c m mask T H q rec = some r) : TaskOk P p σ (.sc b c m mask T H q) r := by
  unfold evSc at h
  rw [codeK_eq] at h
  obtain ⟨e, T1, H1, q1, h1, h⟩ := h
  have hs := hrec _ _ h1
  have plain : ∀ e', e = e' → (∀ l, e' ≠ .goto l) → some (Res.code e' T1 H1 q1) = some r → TaskOk P p σ (.sc b c m mask T H q) r := by
    rintro e' rfl hne h
    cases h
    intro hm
    obtain ⟨hm', hsem⟩ := hs hm
    refine ⟨hm', fun ρ a w Q hpre hQ => ScopeWp.step (hsem ρ a w _ hpre fun ρ' a' w' hp => ?_).1⟩
    have := hQ ρ' a' w' hp
    cases e with
    | normal => exact this
    | exit i => exact this
    | goto l => exact absurd rfl (hne l)
    | ret => exact this
  cases e with
  | normal => exact plain _ rfl (fun _ e => by cases e) h
  | exit i => exact plain _ rfl (fun _ e => by cases e) h
  | ret => exact plain _ rfl (fun _ e => by cases e) h
  | goto l =>
    have h : gotoK b rec m mask l T1 H1 q1 = some r := h
    unfold gotoK at h
    cases hl : findLabel b l with
    | none =>
      rw [hl] at h
      have h : some (Res.code (.goto l) T1 H1 q1) = some r := h
      cases h
      intro hm
      obtain ⟨hm', hsem⟩ := hs hm
      refine ⟨hm', fun ρ a w Q hpre hQ => ScopeWp.step (hsem ρ a w _ hpre fun ρ' a' w' hp => ?_).1⟩
      have := hQ ρ' a' w' hp
      simpa [scopeEnd, exOf, hl] using this
    | some c' =>
      rw [hl] at h
      have h : rec (.sc b c' m mask T1 H1 q1) = some r := h
      have h2 := hrec _ _ h
      have hq := hgrow _ _ h
      cases r with
      | call => exact h2.elim
      | code e2 T2 H2 q2 =>
        intro hm
        obtain ⟨hm1, hsem1⟩ := hs hm
        obtain ⟨hm2, hsem2⟩ := h2 hm1
        refine ⟨hm2, fun ρ a w Q hpre hQ => ScopeWp.step (hsem1 ρ a w _ (hpre.first hq) fun ρ1 a1 w1 hp => ?_).1⟩
        have := hsem2 ρ1 a1 w1 Q (hpre.next hp) fun ρ2 a2 w2 hp2 => hQ ρ2 a2 w2 (Post.trans hpre hp hp2)
        simpa [scopeEnd, exOf, hl] using this
end
end Go.Proofs.YtogmhgklmjbfaaaGreatDoor.Kv
