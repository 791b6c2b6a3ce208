/-
  One operation in a larger heap; regions of one order.
-/
import Derived.Test.YtogmhgklmjbfaaaGreatDoorKvR
namespace Go.Proofs.YtogmhgklmjbfaaaGreatDoor.Kv

/-- A call comes to what the evaluator says. -/
def CallOk (P : Program) (p : PT) (σ : Nat → Value) (f : FuncId) (args : List AV) (H : Hp) (q : Nat) (v : AV) (H' : Hp) (q' : Nat) : Prop :=
  (∃ fn, P.funcs[f]? = some fn ∧ fn.body.isSome = true) ∧
  ∀ (ρ : Loc) (w : World) (L : List Value), GlobOk p ρ → Sim P σ ρ H.get w → Fresh ρ q q' → concs σ ρ args = some L →
    Calls P f L.toArray w fun e w' => ∃ ρ' V, e = .returned V ∧ conc σ ρ' v = some V ∧ Ext ρ H.get q w ρ' H'.get q' w' ∧ Sim P σ ρ' H'.get w'

/-- The tasks below are right about calls. -/
def RecOk (P : Program) (p : PT) (σ : Nat → Value) (rec : Rec) : Prop :=
  ∀ f args H q v H' q', rec (.call f args H q) = some (.call v H' q') → CallOk P p σ f args H q v H' q'

/-- what a step in a smaller heap makes of a larger one -/
def lift (h' h h1 : HF) : HF := fun b => match h' b with
  | some o => some o
  | none => match h b with
    | none => h1 b
    | some _ => none

section
variable {P : Program} {p : PT} {σ : Nat → Value} {ρ ρ' : Loc} {h h' h1 : HF} {q q' : Nat} {w w' : World}

theorem lift_same (h' h : HF) : lift h' h h = h' := by
  funext b
  unfold lift
  cases h' b with
  | some o => rfl
  | none => cases e : h b <;> simp

theorem lift_up {b : Nat} {o : AO} (e : h' b = some o) : lift h' h h1 b = some o := by
  unfold lift; rw [e]
theorem lift_out {b : Nat} (e : h' b = none) (e' : h b = none) : lift h' h h1 b = h1 b := by
  unfold lift; rw [e]; simp [e']
theorem lift_some {b : Nat} {o : AO} (e : lift h' h h1 b = some o) : h' b = some o ∨ (h' b = none ∧ h b = none ∧ h1 b = some o) := by
  unfold lift at e
  split at e
  · rename_i o' e'; cases e; exact .inl e'
  · rename_i e'
    split at e
    · rename_i e''; exact .inr ⟨e', e'', e⟩
    · cases e

/-- A step in a smaller heap is one in the larger. -/
theorem Sim.frame (s1 : Sim P σ ρ h1 w) (sub : ∀ b o, h b = some o → h1 b = some o) (fr : Fresh ρ q q') (e : Ext ρ h q w ρ' h' q' w') (s' : Sim P σ ρ' h' w') :
    Ext ρ h1 q w ρ' (lift h' h h1) q' w' ∧ Sim P σ ρ' (lift h' h h1) w' := by
  have up : ∀ b, h b ≠ none → h1 b ≠ none := by
    intro b hb
    cases e : h b with
    | none => exact absurd e hb
    | some o => rw [sub b o e]; simp
  -- a name of the larger heap alone: where it lies, no name of the smaller lies
  have apart : ∀ b x, h1 b ≠ none → h b = none → ρ b = some x → ∀ b0 x0, h b0 ≠ none → ρ b0 = some x0 → x0.1 ≠ x.1 := by
    intro b x hb hn hx b0 x0 hb0 hx0 ee
    have := s1.inj b0 b x0 x (up b0 hb0) hb hx0 hx ee
    rw [this] at hb0; exact hb0 hn
  refine ⟨⟨e.le, ?_, ?_, e.qle, e.size, ?_, e.env⟩, ⟨?_, ?_, s'.lt⟩⟩
  · intro b x hx
    rcases e.new b x hx with h3 | ⟨h3, h4, h5 | ⟨b0, x0, h6, h7, h8⟩⟩
    · exact .inl h3
    · exact .inr ⟨h3, h4, .inl h5⟩
    · exact .inr ⟨h3, h4, .inr ⟨b0, x0, up b0 h6, h7, h8⟩⟩
  · intro b hb
    cases el : lift h' h h1 b with
    | none => exact absurd el hb
    | some o =>
      rcases lift_some el with e1 | ⟨_, _, e1⟩
      · rcases e.alive b (by rw [e1]; simp) with h3 | h3
        · exact .inl (up b h3)
        · exact .inr h3
      · exact .inl (by rw [e1]; simp)
  · intro r hr hn
    exact e.frame r hr fun b x hb hx => hn b x (up b hb) hx
  · intro b o hb
    rcases lift_some hb with e1 | ⟨_, e0, e1⟩
    · exact s'.obj b o e1
    · obtain ⟨x, R, hx, hR, hr⟩ := s1.obj b o e1
      refine ⟨x, R, e.le b x hx, ?_, hr.le e.le⟩
      rw [e.frame x.1 (s1.lt b x hx) fun b0 x0 hb0 hx0 => apart b x (by rw [e1]; simp) e0 hx b0 x0 hb0 hx0]
      exact hR
  · have key : ∀ b b' x x', h' b ≠ none → h1 b' ≠ none → h b' = none → h' b' = none → ρ' b = some x → ρ' b' = some x' → x.1 = x'.1 → False := by
      intro b b' x x' hb hb' hn hn' hx hx' ee
      obtain ⟨y, hy⟩ := s1.located hb'
      have := e.le b' y hy
      rw [hx'] at this
      cases this
      rcases e.new b x hx with h3 | ⟨h3, h4, h5 | ⟨b0, x0, h6, h7, h8⟩⟩
      · rcases e.alive b hb with h4 | ⟨h4, h5⟩
        · exact apart b' x' hb' hn hy b x h4 h3 ee
        · rw [fr b h4 h5] at h3; cases h3
      · have := s1.lt b' x' hy; omega
      · exact apart b' x' hb' hn hy b0 x0 h6 h7 (h8.trans ee)
    intro b b' x x' hb hb' hx hx' ee
    cases el : lift h' h h1 b with
    | none => exact absurd el hb
    | some o =>
      cases el' : lift h' h h1 b' with
      | none => exact absurd el' hb'
      | some o' =>
        rcases lift_some el with e1 | ⟨f1, f2, e1⟩
        · rcases lift_some el' with e2 | ⟨g1, g2, e2⟩
          · exact s'.inj b b' x x' (by rw [e1]; simp) (by rw [e2]; simp) hx hx' ee
          · exact (key b b' x x' (by rw [e1]; simp) (by rw [e2]; simp) g2 g1 hx hx' ee).elim
        · rcases lift_some el' with e2 | ⟨g1, g2, e2⟩
          · exact (key b' b x' x (by rw [e2]; simp) (by rw [e1]; simp) f2 f1 hx' hx ee.symm).elim
          · obtain ⟨y, hy⟩ := s1.located (b := b) (by rw [e1]; simp)
            obtain ⟨y', hy'⟩ := s1.located (b := b') (by rw [e2]; simp)
            have t1 := e.le b y hy
            have t2 := e.le b' y' hy'
            rw [hx] at t1; rw [hx'] at t2
            cases t1; cases t2
            exact s1.inj b b' x x' (by rw [e1]; simp) (by rw [e2]; simp) hy hy' ee

theorem ERel.putE {m : Nat} {E : Env} {T : Tr AV} {a : Act} (r : ERel σ ρ m E T a) {d : Option Tmp} (hd : ∀ t, d = some t → t < m) {v : AV} {V : Value} (hv : conc σ ρ v = some V) :
    ERel σ ρ m (putE d v E) T (a.put d V) := by
  cases d with
  | none => exact r
  | some d => exact r.put (hd d rfl) hv

/-- One operation, from a part of the heap. -/
theorem oper_ok (hσ : Plain σ) (k : PTOk P p) {rec : Rec} (hrec : RecOk P p σ rec) (g : GlobOk p ρ) {m : Nat} {E : Env} {T : Tr AV} {a : Act} {o : Oper} (r : ERel σ ρ m E T a) (s1 : Sim P σ ρ h1 w) {In Out : Hp} (sub : ∀ b o, In.get b = some o → h1 b = some o) (fr : Fresh ρ q q')
    {res : OR} {v : AV} (he : evOp p o.op E T In q = some res)
    (hres : res = .val v Out q' ∨ (res = .skip Out q' ∧ v = undefA) ∨ ∃ f args, res = .enter f args ∧ rec (.call f args In q) = some (.call v Out q'))
    {K : Act → World → Prop} {Q : Exit → Act → World → Prop}
    (hK : ∀ ρ' V w', conc σ ρ' v = some V → Ext ρ h1 q w ρ' (lift Out.get In.get h1) q' w' → Sim P σ ρ' (lift Out.get In.get h1) w' → (∀ b, Out.get b ≠ none → In.get b ≠ none ∨ (q ≤ b ∧ b < q')) → K (a.put o.dst V) w') : o.wp P a w K Q := by
  have s0 : Sim P σ ρ In.get w := s1.sub sub
  have fr0 : Fresh ρ q (res.next q) := by
    rcases hres with rfl | ⟨rfl, _⟩ | ⟨f, args, rfl, _⟩
    · exact fr
    · exact fr
    · intro b hb hb'; simp [OR.next] at hb'; omega
  have hO := evOp_ok hσ k g r s0 fr0 he
  unfold Oper.wp
  rcases hres with rfl | ⟨rfl, rfl⟩ | ⟨f, args, rfl, hc⟩
  · obtain ⟨ρ', V, w', hR, hv, e1, s2⟩ := hO
    obtain ⟨e3, s3⟩ := s1.frame sub fr e1 s2
    rw [hR]
    exact hK ρ' V w' hv e3 s3 e1.alive
  · obtain ⟨ρ', w', hR, e1, s2⟩ := hO
    obtain ⟨e3, s3⟩ := s1.frame sub fr e1 s2
    rw [hR]
    exact hK ρ' undef w' (undefA_conc σ ρ') e3 s3 e1.alive
  · obtain ⟨L, hR, hL⟩ := hO
    obtain ⟨⟨fn, hfn, hb⟩, hcall⟩ := hrec f args In q v Out q' hc
    rw [hR fn hfn hb]
    refine Calls.mono (hcall ρ w L g s0 fr hL) ?_
    rintro e w' ⟨ρ', V, rfl, hv, e1, s2⟩
    obtain ⟨e3, s3⟩ := s1.frame sub fr e1 s2
    exact hK ρ' V w' hv e3 s3 e1.alive

/-- a guard -/
theorem wanted_ok {m : Nat} {E : Env} {T : Tr AV} {a : Act} (r : ERel σ ρ m E T a) {ops : Array Oper} {jw : Nat × Bool} {b : Bool} (hw : wanted ops.toList E T jw = some b) {o : Oper} (ho : o.guard = some jw) :
    Region.wanted o (yielded ops a.tmps) = b := by
  unfold wanted at hw
  simp only [ob_eq, nth_eq, rd_look] at hw
  obtain ⟨x, hx, d, hd, v, hv, hb⟩ := hw
  obtain ⟨V, hV, hc⟩ := r.val d v hv
  rw [Array.getElem?_toList] at hx
  obtain ⟨j, want⟩ := jw
  unfold Region.wanted
  rw [ho]
  have hy : yielded ops a.tmps j = (match (some V : Option Value) with
    | some (.bool b) => some b
    | _ => none) := by
    unfold yielded
    simp only [hx, Option.bind_some, hd, hV]
    cases V <;> rfl
  show (yielded ops a.tmps j == some want) = b
  rw [hy]
  unfold AV.isB at hb
  split at hb
  · rename_i c
    cases hb
    simp only [conc, Option.some.injEq] at hc
    subst hc
    cases c <;> cases want <;> rfl
  · cases hb
  · rename_i h1 h2
    cases hb
    have hV' : ∀ c, V ≠ .bool c := by
      rintro c rfl
      cases v <;> first
        | exact h1 _ rfl
        | exact h2 _ rfl
        | (simp [conc] at hc; done)
        | (simp [conc, Option.bind_eq_some_iff] at hc; done)
    cases V <;> first | rfl | exact absurd rfl (hV' _)

theorem guard_ok {m : Nat} {E : Env} {T : Tr AV} {a : Act} (r : ERel σ ρ m E T a) {ops : Array Oper} {o : Oper} (hg : o.guard = none ∨ ∃ jw, o.guard = some jw ∧ wanted ops.toList E T jw = some true) : Region.wanted o (yielded ops a.tmps) = true := by
  rcases hg with hg | ⟨jw, hg, hw⟩
  · unfold Region.wanted; rw [hg]
  · exact wanted_ok r hw hg

/-- A region whose order is the text's. -/
theorem evOps_ok (hσ : Plain σ) (k : PTOk P p) {rec : Rec} (hrec : RecOk P p σ rec) (hgrow : Grows rec) {m : Nat} {T : Tr AV} {ops : Array Oper} {Q : Exit → Act → World → Prop} : ∀ (l : List Oper) (i : Nat), ops.toList.drop i = l →
    ∀ {ρ : Loc} {w : World} {a : Act} {E E' : Env} {H H' : Hp} {q q' : Nat}, evOps p rec ops.toList m T l E H q = some (.mk E' H' q') → GlobOk p ρ → ERel σ ρ m E T a → Sim P σ ρ H.get w → Fresh ρ q q' →
    (∀ ρ' a' w', ERel σ ρ' m E' T a' → Ext ρ H.get q w ρ' H'.get q' w' → Sim P σ ρ' H'.get w' → Q .normal a' w') → wpOps P ops Q (List.range' i l.length) a w
  | [], i, _, ρ, w, a, E, E', H, H', q, q', h, g, r, s, fr, hQ => by
    rw [evOps_nil] at h
    cases h
    exact hQ ρ a w r (.refl _ _ _ _) s
  | o :: l, i, hl, ρ, w, a, E, E', H, H', q, q', h, g, r, s, fr, hQ => by
    have ho : ops[i]? = some o := by
      have : (ops.toList.drop i)[0]? = some o := by rw [hl]; rfl
      rw [List.getElem?_drop] at this
      simpa using this
    have hl' : ops.toList.drop (i + 1) = l := by rw [← List.drop_drop, hl]; rfl
    rw [evOps_cons, evOper_eq] at h
    rw [List.length_cons, List.range'_succ]
    unfold wpOps
    simp only [ho]
    rcases h with ⟨hg, h⟩ | ⟨⟨jw, hg, hw⟩, hd, h⟩
    · rw [if_pos (guard_ok r hg)]
      rw [runOper_eq] at h
      obtain ⟨res, hr, h⟩ := h
      rw [orK_eq] at h
      obtain ⟨v, H2, q2, h1, hd, h2⟩ := h
      have hq2 : q2 ≤ q' := evOps_grow hgrow l _ _ _ h2
      refine .inl (oper_ok hσ k hrec g r s (fun _ _ e => e) (fr.left hq2) hr h1 fun ρ' V w' hv e s' _ => ?_)
      rw [lift_same] at e s'
      exact evOps_ok hσ k hrec hgrow l (i + 1) hl' h2 (g.le e.le) ((r.le e.le).putE hd hv) s' (fr.after e) fun ρ2 a2 w2 r2 e2 s2 => hQ ρ2 a2 w2 r2 (Ext.trans s fr e e2) s2
    · rw [if_neg (by rw [wanted_ok r hw hg]; simp)]
      exact evOps_ok hσ k hrec hgrow l (i + 1) hl' h g (r.putE hd (undefA_conc σ ρ)) s fr hQ
end
end Go.Proofs.YtogmhgklmjbfaaaGreatDoor.Kv
