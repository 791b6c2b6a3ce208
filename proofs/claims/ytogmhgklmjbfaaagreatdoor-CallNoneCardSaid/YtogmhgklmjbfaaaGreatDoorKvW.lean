/-
  Regions of drawn order: sound.
-/
import Derived.Test.YtogmhgklmjbfaaaGreatDoorKvV
namespace Go.Proofs.YtogmhgklmjbfaaaGreatDoor.Kv

section
variable {P : Program} {σ : Nat → Value} {ρ ρ1 ρ2 : Loc} {h h1 h2 : HF} {q q2 r r' : Nat} {w w1 w2 : World}
/-- a step with names of its own, within a range -/
theorem Ext.join (s : Sim P σ ρ h w) (fr : Fresh ρ q q2) (a : Ext ρ h q w ρ1 h1 q2 w1) (c : Ext ρ1 h1 r w1 ρ2 h2 r' w2) (hr : q ≤ r) (hr' : r' ≤ q2) : Ext ρ h q w ρ2 h2 q2 w2 := by
  have back : ∀ b0 x0, h1 b0 ≠ none → ρ1 b0 = some x0 → w.heap.size ≤ x0.1 ∨ ∃ b x, h b ≠ none ∧ ρ b = some x ∧ x.1 = x0.1 := by
    intro b0 x0 hb hx
    rcases a.new b0 x0 hx with e | ⟨_, _, e | e⟩
    · rcases a.alive b0 hb with e' | ⟨h3, h4⟩
      · exact .inr ⟨b0, x0, e', e, rfl⟩
      · have := fr b0 h3 h4
        rw [this] at e; cases e
    · exact .inl e
    · exact .inr e
  refine ⟨a.le.trans c.le, ?_, ?_, a.qle, Nat.le_trans a.size c.size, ?_, c.env.1.trans a.env.1, c.env.2.trans a.env.2⟩
  · intro b x hx
    rcases c.new b x hx with e | ⟨h3, h4, e⟩
    · exact a.new b x e
    · refine .inr ⟨Nat.le_trans hr h3, Nat.lt_of_lt_of_le h4 hr', ?_⟩
      rcases e with e | ⟨b0, x0, hb, hx0, e⟩
      · exact .inl (Nat.le_trans a.size e)
      · rw [← e]; exact back b0 x0 hb hx0
  · intro b hb
    rcases c.alive b hb with e | ⟨h3, h4⟩
    · exact a.alive b e
    · exact .inr ⟨Nat.le_trans hr h3, Nat.lt_of_lt_of_le h4 hr'⟩
  · intro x hx hn
    rw [c.frame x (Nat.lt_of_lt_of_le hx a.size), a.frame x hx hn]
    intro b y hb hy e
    rcases back b y hb hy with e' | ⟨b', y', hb', hy', e'⟩
    · omega
    · exact hn b' y' hb' hy' (e'.trans e)
end

section
variable {p : PT} {rec : Rec} {ops : Array Oper} {m N : Nat} {T : Tr AV} {st : Nat → Ds} {rc : Nat → Rc} {dn : Nat → Bool}

theorem Tab.skip (t : Tab p rec ops m N T st rc) {i : Nat} {o : Oper} (ho : ops[i]? = some o) (hk : (rc i).k = 3) :
    (∃ jw, o.guard = some jw ∧ wanted ops.toList (st i).E T jw = some false) ∧ (rc i).v = undefA ∧ (st (i + 1)).q = (st i).q := by
  have hs := t.step i o ho
  generalize st (i + 1) = s', rc i = r at *
  generalize st i = s at *
  cases hs <;> first | (cases hk; done) | skip
  rename_i jw h1 h2 h3
  exact ⟨⟨jw, h1, h2⟩, rfl, rfl⟩
theorem Tab.make (t : Tab p rec ops m N T st rc) {i : Nat} {o : Oper} (ho : ops[i]? = some o) (hk : (rc i).k = 1) :
    (o.guard = none ∨ ∃ jw, o.guard = some jw ∧ wanted ops.toList (st i).E T jw = some true) ∧ evOp p o.op (st i).E T .nil (st i).q = some (.val (rc i).v (rc i).Ho (st (i + 1)).q) ∧ (st (i + 1)).q = (st i).q + 1 := by
  have hs := t.step i o ho
  generalize st (i + 1) = s', rc i = r at *
  generalize st i = s at *
  cases hs <;> first | (cases hk; done) | skip
  rename_i v Ho h1 h2 h3 h4
  exact ⟨h1, h3, rfl⟩
theorem Tab.kinds (t : Tab p rec ops m N T st rc) {i : Nat} {o : Oper} (ho : ops[i]? = some o) : (rc i).k = 0 ∨ (rc i).k = 1 ∨ (rc i).k = 2 ∨ (rc i).k = 3 := by
  have hs := t.step i o ho
  generalize st (i + 1) = s', rc i = r at *
  cases hs <;> simp

theorem wanted_congr {E E' : Env} {o : Oper} {jw : Nat × Bool} (hg : o.guard = some jw) (h : ∀ u ∈ looks ops.toList o, look E T u = look E' T u) : wanted ops.toList E T jw = wanted ops.toList E' T jw := by
  unfold wanted
  rw [nth_eq, Array.getElem?_toList]
  cases hx : ops[jw.1]? with
  | none => rfl
  | some x =>
    show ob x.dst _ = ob x.dst _
    cases hd : x.dst with
    | none => rfl
    | some d =>
      show rd E T d _ = rd E' T d _
      rw [rd_look, rd_look, h d (looks_guard hg hx hd)]

theorem again_env (t : Tab p rec ops m N T st rc) (hd : Down ops fun j => dn j = true) {i : Nat} {o : Oper} (hn : Next' ops dn i o) (H : Hp) (q : Nat) :
    evOp p o.op (st i).E T H q = evOp p o.op (envD ops rc dn ops.size) T H q :=
  evOp_congr fun u hu => look_agree t hd hn (looks_op hu)
theorem guard_env (t : Tab p rec ops m N T st rc) (hd : Down ops fun j => dn j = true) {i : Nat} {o : Oper} (hn : Next' ops dn i o) (h : o.guard = none ∨ ∃ jw, o.guard = some jw ∧ wanted ops.toList (st i).E T jw = some true) :
    o.guard = none ∨ ∃ jw, o.guard = some jw ∧ wanted ops.toList (envD ops rc dn ops.size) T jw = some true := by
  rcases h with h | ⟨jw, h, h'⟩
  · exact .inl h
  · exact .inr ⟨jw, h, by rw [← wanted_congr h fun u hu => look_agree t hd hn hu]; exact h'⟩

theorem ERel.same {σ : Nat → Value} {ρ : Loc} {E E' : Env} {a : Act} (r : ERel σ ρ m E T a) (h : ∀ u, look E' T u = look E T u) : ERel σ ρ m E' T a :=
  ⟨fun u v e => r.val u v (by rw [← h u]; exact e), r.room, r.defers⟩
end

/-- what holds on the way through a drawn region -/
def Inv (P : Program) (p : PT) (σ : Nat → Value) (ops : Array Oper) (m N : Nat) (T : Tr AV) (st : Nat → Ds) (rc : Nat → Rc) (ρ0 : Loc) (h0 : HF) (qs : Nat) (w0 : World) (qe : Nat) (dn : Nat → Bool) (a : Act) (w : World) : Prop :=
  ∃ ρ h, GlobOk p ρ ∧ ERel σ ρ m (envD ops rc dn ops.size) T a ∧ Sim P σ ρ h w ∧ Ext ρ0 h0 qs w0 ρ h qe w ∧ (∀ b o, (HD st rc dn ops.size).get b = some o → h b = some o) ∧
    (∀ i, i < ops.size → dn i = true → (rc i).k = 1 → (∀ o, (rc i).Ho.get (st i).q = some o → h (st i).q = some o) ∨ ∃ j, j < ops.size ∧ dn j = true ∧ (rc j).k = 2 ∧ bit (bef N j) i = true) ∧
    (∀ i, i < ops.size → dn i = false → Fresh ρ (st i).q (st (i + 1)).q)

section
variable {P : Program} {p : PT} {σ : Nat → Value} {rec : Rec} {ops : Array Oper} {m N : Nat} {T : Tr AV} {st : Nat → Ds} {rc : Nat → Rc} {dn : Nat → Bool} {ρ0 : Loc} {h0 : HF} {qs qe : Nat} {w0 : World}

theorem Inv.next (t : Tab p rec ops m N T st rc) (hd : Down ops fun j => dn j = true) (s0 : Sim P σ ρ0 h0 w0) (fr0 : Fresh ρ0 qs qe) (hqs : qs ≤ (st 0).q) (hqe : (st ops.size).q ≤ qe)
    {i : Nat} {o : Oper} (hn : Next' ops dn i o) {ρ : Loc} {h : HF} {a : Act} {w : World} (g : GlobOk p ρ) (r : ERel σ ρ m (envD ops rc dn ops.size) T a) (e0 : Ext ρ0 h0 qs w0 ρ h qe w)
    (fr : ∀ i, i < ops.size → dn i = false → Fresh ρ (st i).q (st (i + 1)).q) {ρ' : Loc} {h' : HF} {V : Value} {w' : World} (hv : conc σ ρ' (rc i).v = some V) (e : Ext ρ h (st i).q w ρ' h' (st (i + 1)).q w') (s' : Sim P σ ρ' h' w')
    (stage : ∀ b o, (HD st rc (with1 dn i) ops.size).get b = some o → h' b = some o)
    (made : ∀ j, j < ops.size → with1 dn i j = true → (rc j).k = 1 → (∀ o, (rc j).Ho.get (st j).q = some o → h' (st j).q = some o) ∨ ∃ l, l < ops.size ∧ with1 dn i l = true ∧ (rc l).k = 2 ∧ bit (bef N l) j = true) :
    Inv P p σ ops m N T st rc ρ0 h0 qs w0 qe (with1 dn i) (a.put o.dst V) w' := by
  have hi : i < ops.size := (Array.getElem?_eq_some_iff.1 hn.1).1
  obtain ⟨_, _, _, _, _, _, _, _, hroom, _⟩ := t.facts hn.1
  refine ⟨ρ', h', g.le e.le, ?_, s', ?_, stage, made, ?_⟩
  · exact ((r.le e.le).putE hroom hv).same fun u => look_after t hd hn u
  · exact Ext.join s0 fr0 e0 e (Nat.le_trans hqs (t.le 0 i (Nat.zero_le _) (by omega))) (Nat.le_trans (t.le (i + 1) ops.size hi (Nat.le_refl _)) hqe)
  · intro j hj hdj b hb hb'
    have hne : j ≠ i := fun e => by rw [e] at hdj; simp [with1] at hdj
    have hdj' : dn j = false := by simpa [with1, hne] using hdj
    cases hx : ρ' b with
    | none => rfl
    | some x =>
      rcases e.new b x hx with h3 | ⟨h3, h4, _⟩
      · rw [fr j hj hdj' b hb hb'] at h3; cases h3
      · exact (t.apart hj hi hne hb hb' h3 h4).elim

theorem Ext.refl' {ρ : Loc} {h : HF} {q q' : Nat} (hq : q ≤ q') (w : World) : Ext ρ h q w ρ h q' w :=
  ⟨.refl ρ, fun _ _ e => .inl e, fun _ e => .inl e, hq, Nat.le_refl _, fun _ _ _ => rfl, rfl, rfl⟩

def cnt (dn : Nat → Bool) : Nat → Nat
  | 0 => 0
  | i + 1 => cnt dn i + if dn i = true then 0 else 1
theorem cnt_with {i : Nat} (hi : dn i = false) : ∀ l, cnt (with1 dn i) l + (if i < l then 1 else 0) = cnt dn l
  | 0 => rfl
  | l + 1 => by
    show cnt (with1 dn i) l + (if with1 dn i l = true then 0 else 1) + _ = cnt dn l + _
    have ih := cnt_with hi l
    by_cases e : l = i
    · subst e
      rw [if_neg (Nat.lt_irrefl _)] at ih
      have : with1 dn l l = true := by simp [with1]
      rw [this, hi]
      simp; omega
    · have hw : with1 dn i l = dn l := by simp [with1, e]
      rw [hw]
      by_cases h1 : i < l
      · rw [if_pos h1] at ih; rw [if_pos (show i < l + 1 by omega)]; omega
      · rw [if_neg h1] at ih; rw [if_neg (show ¬ i < l + 1 by omega)]; omega
theorem cnt_zero : ∀ l, cnt dn l = 0 → ∀ j, j < l → dn j = true
  | 0, _, j, h => by omega
  | l + 1, h, j, hj => by
    have h : cnt dn l + (if dn l = true then 0 else 1) = 0 := h
    rcases Nat.lt_or_ge j l with h' | h'
    · exact cnt_zero l (by omega) j h'
    · have : j = l := by omega
      subst this
      cases e : dn j with
      | true => rfl
      | false => rw [e] at h; simp at h

def dnOf (listed : Array Bool) (i : Nat) : Bool := listed.getD i false
theorem dnOf_set {listed : Array Bool} {i : Nat} (hi : i < listed.size) : dnOf (listed.setIfInBounds i true) = with1 (dnOf listed) i := by
  funext j
  unfold dnOf with1
  by_cases e : j = i
  · subst e; simp [hi]
  · rw [getD_set_ne false (Ne.symm e)]
    have : (j == i) = false := by simpa using e
    rw [this, Bool.or_false]

theorem ready_next {listed : Array Bool} (hs : listed.size = ops.size) {i : Nat} : i ∈ Region.ready .any ops listed ↔ ∃ o, Next' ops (dnOf listed) i o := by
  rw [mem_ready]
  constructor
  · rintro ⟨h1, o, h2, h3⟩
    refine ⟨o, h2, ?_, h3⟩
    have hi : i < listed.size := by rw [hs]; exact (Array.getElem?_eq_some_iff.1 h2).1
    simp [dnOf, hi] at h1 ⊢
    exact h1
  · rintro ⟨o, h2, h1, h3⟩
    have hi : i < listed.size := by rw [hs]; exact (Array.getElem?_eq_some_iff.1 h2).1
    refine ⟨?_, o, h2, h3⟩
    simp [dnOf, hi] at h1 ⊢
    exact h1

theorem none_ready (t : Tab p rec ops m N T st rc) (h : ∀ i o, ¬ Next' ops dn i o) : ∀ j, j < ops.size → dn j = true := by
  intro j
  induction j using Nat.strongRecOn with
  | _ j ih =>
    intro hj
    have ho : ops[j]? = some ops[j] := Array.getElem?_eq_getElem hj
    cases e : dn j with
    | true => rfl
    | false => exact absurd ⟨ho, e, fun e he hb => ih e.on (edge_lt t.stat ho he hb) (Nat.lt_trans (edge_lt t.stat ho he hb) hj)⟩ (h j ops[j])

theorem down_with (hd : Down ops fun j => dn j = true) {i : Nat} {o : Oper} (hn : Next' ops dn i o) : Down ops fun j => with1 dn i j = true := by
  intro j x hx hj e he hb
  by_cases h : j = i
  · subst h
    have : x = o := by have := hn.1; rw [hx] at this; injection this
    subst this
    have := hn.2.2 e he hb
    simp [with1, this]
  · have hj' : dn j = true := by simpa [with1, h] using hj
    have := hd j x hx hj' e he hb
    have this : dn e.on = true := this
    simp [with1, this]

theorem drawn_any (hσ : Plain σ) (k : PTOk P p) (hrec : RecOk P p σ rec) (t : Tab p rec ops m N T st rc) (s0 : Sim P σ ρ0 h0 w0) (fr0 : Fresh ρ0 qs qe) (hqs : qs ≤ (st 0).q) (hqe : (st ops.size).q ≤ qe) {Q : Exit → Act → World → Prop}
    (hQ : ∀ dn a w, (∀ j, j < ops.size → dn j = true) → Inv P p σ ops m N T st rc ρ0 h0 qs w0 qe dn a w → Q .normal a w) : ∀ (fuel : Nat) (listed : Array Bool) (a : Act) (w : World), listed.size = ops.size →
      Down ops (fun j => dnOf listed j = true) → cnt (dnOf listed) ops.size ≤ fuel → Inv P p σ ops m N T st rc ρ0 h0 qs w0 qe (dnOf listed) a w → wpAny P .any ops Q fuel listed a w
  | 0, listed, a, w, hs, hd, hc, hI => by
    have hall := cnt_zero ops.size (Nat.le_zero.1 hc)
    refine ⟨?_, hQ _ a w hall hI⟩
    rw [List.eq_nil_iff_forall_not_mem]
    intro i hi
    obtain ⟨o, hn⟩ := (ready_next hs).1 hi
    have := hall i (Array.getElem?_eq_some_iff.1 hn.1).1
    rw [hn.2.1] at this; cases this
  | fuel + 1, listed, a, w, hs, hd, hc, hI => by
    refine ⟨fun hr => hQ _ a w (none_ready t fun i o hn => ?_) hI, fun i hi => ?_⟩
    · have := (ready_next hs).2 ⟨o, hn⟩
      rw [hr] at this; cases this
    · obtain ⟨o, hn⟩ := (ready_next hs).1 hi
      have hil : i < ops.size := (Array.getElem?_eq_some_iff.1 hn.1).1
      have hset := dnOf_set (listed := listed) (i := i) (by rw [hs]; exact hil)
      -- what remains is alike for all of them
      have go : ∀ a' w', Inv P p σ ops m N T st rc ρ0 h0 qs w0 qe (with1 (dnOf listed) i) a' w' → wpAny P .any ops Q fuel (listed.setIfInBounds i true) a' w' := by
        intro a' w' h'
        refine drawn_any hσ k hrec t s0 fr0 hqs hqe hQ fuel _ a' w' (by simp [hs]) ?_ ?_ (by rw [hset]; exact h')
        · rw [hset]; exact down_with hd hn
        · rw [hset]
          have := cnt_with (dn := dnOf listed) hn.2.1 ops.size
          rw [if_pos hil] at this
          omega
      obtain ⟨ρ, h, g, r, s, e0, stage, made, fr⟩ := hI
      obtain ⟨f1, f2, f3, f4, f5, f6, f7, f8, f9, _⟩ := t.facts hn.1
      unfold wpOp
      simp only [hn.1]
      have frI := fr i hil hn.2.1
      rcases t.kinds hn.1 with hk | hk | hk | hk
      · -- it only looks
        obtain ⟨hg, hkd, hq, _⟩ := t.look hn.1 hk
        have hev := look_at t hd hn hk
        rw [again_env t hd hn] at hev
        rw [if_pos (guard_ok r (guard_env t hd hn hg))]
        refine .inl (oper_ok (q' := (st i).q) hσ k hrec g r s stage (by rw [hq] at frI; exact frI) hev (.inl rfl) fun ρ' V w' hv e s' _ => go _ _ ?_)
        have hsame : lift (HD st rc (dnOf listed) ops.size).get (HD st rc (dnOf listed) ops.size).get h = h := by
          funext b
          unfold lift
          cases hb : (HD st rc (dnOf listed) ops.size).get b with
          | none => rfl
          | some o' => simp [stage b o' hb]
        rw [hsame] at e s'
        refine Inv.next t hd s0 fr0 hqs hqe hn g r e0 fr hv (by rw [hq]; exact e) s' ?_ ?_
        · rw [HD_with (by rw [hk]; decide)]; exact stage
        · intro j hj hdj hkj
          have hne : j ≠ i := fun e => by rw [e, hk] at hkj; cases hkj
          rcases made j hj (by simpa [with1, hne] using hdj) hkj with h1 | ⟨l, h1, h2, h3, h4⟩
          · exact .inl h1
          · exact .inr ⟨l, h1, by simp [with1, h2], h3, h4⟩
      · -- it makes a block
        obtain ⟨hg, hev, hq⟩ := t.make hn.1 hk
        rw [again_env t hd hn] at hev
        rw [if_pos (guard_ok r (guard_env t hd hn hg))]
        refine .inl (oper_ok hσ k hrec g r s (In := .nil) (fun b o hb => by cases hb) frI hev (.inl rfl) fun ρ' V w' hv e s' al => go _ _ ?_)
        have only : ∀ b, (rc i).Ho.get b ≠ none → (st i).q ≤ b ∧ b < (st (i + 1)).q := by
          intro b hb
          rcases al b hb with h1 | h1
          · exact absurd rfl h1
          · exact h1
        have keep : ∀ b o', h b = some o' → lift (rc i).Ho.get (Tr.nil : Hp).get h b = some o' := by
          intro b o' hb
          have hno : (rc i).Ho.get b = none := by
            cases hx : (rc i).Ho.get b with
            | none => rfl
            | some x =>
              obtain ⟨h1, h2⟩ := only b (by rw [hx]; simp)
              obtain ⟨y, hy⟩ := s.located (b := b) (by rw [hb]; simp)
              rw [frI b h1 h2] at hy; cases hy
          rw [lift_out hno rfl]; exact hb
        refine Inv.next t hd s0 fr0 hqs hqe hn g r e0 fr hv e s' ?_ ?_
        · rw [HD_with (by rw [hk]; decide)]
          intro b o' hb
          exact keep b o' (stage b o' hb)
        · intro j hj hdj hkj
          by_cases hne : j = i
          · subst hne
            exact .inl fun o' ho' => lift_up ho'
          · rcases made j hj (by simpa [with1, hne] using hdj) hkj with h1 | ⟨l, h1, h2, h3, h4⟩
            · exact .inl fun o' ho' => keep _ _ (h1 o' ho')
            · exact .inr ⟨l, h1, by simp [with1, h2], h3, h4⟩
      · -- it acts
        obtain ⟨hg, _, hHi, res, hev, hres⟩ := t.act hn.1 hk
        obtain ⟨e1, e2⟩ := act_at t hd hn hk
        rw [again_env t hd hn] at hev
        rw [if_pos (guard_ok r (guard_env t hd hn hg))]
        have sub : ∀ b o', (rc i).Hi.get b = some o' → h b = some o' := by
          intro b o' hb
          rw [hHi] at hb
          rcases merge_some hb with h1 | ⟨x, hx, hbx, rfl, h1⟩
          · rw [← e1] at h1; exact stage b o' h1
          · obtain ⟨a1, a2, a3, a4, a5⟩ := t.pend i (by omega) x hx
            have hdx := bef_done t hd hn hbx
            rw [a3] at h1 ⊢
            rw [a4] at h1
            rcases made x.1 (by omega) hdx a2 with h2 | ⟨l, h2, h3, h4, h5⟩
            · exact h2 o' h1
            · have hol : ops[l]? = some ops[l] := Array.getElem?_eq_getElem h2
              have hlx := bef_lt t.stat hol h5
              have hli : l < i := by
                rcases Nat.lt_or_ge l i with h6 | h6
                · exact h6
                · rcases Nat.lt_or_ge i l with h7 | h7
                  · have := acts_down t hd l hol h4 (fun hb => bef_done' t hd hol h3 hb) i h7 hk
                    rw [hn.2.1] at this; cases this
                  · have : l = i := by omega
                    rw [this, hn.2.1] at h3; cases h3
              have := a5 l hlx hli h4
              rw [this] at h5; cases h5
        refine .inl (oper_ok hσ k hrec g r s sub frI hev hres fun ρ' V w' hv e s' al => go _ _ ?_)
        refine Inv.next t hd s0 fr0 hqs hqe hn g r e0 fr hv e s' ?_ ?_
        · rw [e2]
          intro b o' hb
          exact lift_up hb
        · intro j hj hdj hkj
          have hne : j ≠ i := fun e => by rw [e, hk] at hkj; cases hkj
          cases hb : bit (bef N i) j with
          | true => exact .inr ⟨i, hil, by simp [with1], hk, hb⟩
          | false =>
            rcases made j hj (by simpa [with1, hne] using hdj) hkj with h1 | ⟨l, h1, h2, h3, h4⟩
            · refine .inl fun o' ho' => ?_
              have hp := t.pairs i j hil hj hk
              unfold pairOk at hp
              have hoj : ops[j]? = some ops[j] := Array.getElem?_eq_getElem hj
              obtain ⟨g1, _, _, g4, _⟩ := t.facts hoj
              rw [hkj, f1, g1, g4, hb] at hp
              have hp : (Option.casesOn (motive := fun _ => Bool) ((rc i).Hi.get (st j).q) true (fun _ => false)) = true := hp
              have hno : (rc i).Hi.get (st j).q = none := by
                cases hx : (rc i).Hi.get (st j).q with
                | none => rfl
                | some x => rw [hx] at hp; cases hp
              have hno' : (rc i).Ho.get (st j).q = none := by
                cases hx : (rc i).Ho.get (st j).q with
                | none => rfl
                | some x =>
                  rcases al _ (by rw [hx]; simp) with h5 | ⟨h5, h6⟩
                  · exact absurd hno h5
                  · have := (t.make hoj hkj).2.2
                    exact (t.apart hj hil hne (Nat.le_refl _) (by omega) h5 h6).elim
              rw [lift_out hno' hno]
              exact h1 o' ho'
            · exact .inr ⟨l, h1, by simp [with1, h2], h3, h4⟩
      · -- it is not wanted
        obtain ⟨⟨jw, hg, hw⟩, hv, hq⟩ := t.skip hn.1 hk
        rw [wanted_congr hg fun u hu => look_agree t hd hn hu] at hw
        rw [if_neg (by rw [wanted_ok r hw hg]; simp)]
        refine go _ _ (Inv.next t hd s0 fr0 hqs hqe hn g r e0 fr (V := undef) (by rw [hv]; exact undefA_conc σ ρ) (by rw [hq]; exact Ext.refl _ _ _ _) s ?_ ?_)
        · rw [HD_with (by rw [hk]; decide)]; exact stage
        · intro j hj hdj hkj
          have hne : j ≠ i := fun e => by rw [e, hk] at hkj; cases hkj
          rcases made j hj (by simpa [with1, hne] using hdj) hkj with h1 | ⟨l, h1, h2, h3, h4⟩
          · exact .inl h1
          · exact .inr ⟨l, h1, by simp [with1, h2], h3, h4⟩

/-- A drawn region comes to what the evaluator says. -/
theorem dRegion_ok (hσ : Plain σ) (k : PTOk P p) (hrec : RecOk P p σ rec) (hm : P.follows .mixedOrders = true) {id : Nat} {E' : Env} {H H' : Hp} {q q' : Nat} {ρ : Loc} {a : Act} {w : World} {Q : Exit → Act → World → Prop}
    (h : dRegion p rec ops.toList m (befs ops.toList) T H q = some (.mk E' H' q')) (g : GlobOk p ρ) (r : ERel σ ρ m .nil T a) (s : Sim P σ ρ H.get w) (fr : Fresh ρ q q')
    (hQ : ∀ ρ' a' w', ERel σ ρ' m E' T a' → Ext ρ H.get q w ρ' H'.get q' w' → Sim P σ ρ' H'.get w' → Q .normal a' w') : (Code.region id ops true).wp P Q a w := by
  obtain ⟨hst, tr, se, hrun, hpairs, e⟩ := dRegion_eq h
  injection e with e1 e2 e3
  subst e1 e2 e3
  obtain ⟨st, rc, c1, c2, c3⟩ := hrun.seq
  have hlen : ops.toList.length = ops.size := by simp
  rw [hlen] at c2
  have t : Tab p rec ops m (befs ops.toList) T st rc := by
    refine ⟨hst, fun i o ho => (c3 i o (by rw [Array.getElem?_toList]; exact ho)).1, fun i j hi hj hk => ?_, by rw [c1], by rw [c1], by rw [c1], by rw [c1]⟩
    have hmem : ∀ i, i < ops.size → rc i ∈ tr := fun i hi => (c3 i ops[i] (by rw [Array.getElem?_toList]; exact Array.getElem?_eq_getElem hi)).2
    unfold pairsOk at hpairs
    have := allB_mem hpairs _ (hmem i hi)
    rw [show Nat.beq (rc i).k 2 = true by rw [hk]; rfl] at this
    exact allB_mem this _ (hmem j hj)
  refine wp_region_any hm ?_
  have s' : Sim P σ ρ H.get { w with drawn := w.drawn + 1 } := Sim.of_heap (w := w) (w' := { w with drawn := w.drawn + 1 }) rfl s
  refine drawn_any hσ k hrec t s' fr (by rw [c1]; exact Nat.le_refl _) (by rw [c2]; exact Nat.le_refl _) ?_ ops.size _ a _ (by simp) ?_ ?_ ?_
  · rintro dn a' w' hall ⟨ρ', h', g', r', s2, e0, stage, made, _⟩
    have hE := env_all (dn := dn) t hall ops.size (Nat.le_refl _)
    have hH := HD_all (dn := dn) t ops.size (Nat.le_refl _) fun j hj _ => hall j hj
    rw [hE, c2] at r'
    rw [hH, c2] at stage
    have sub : ∀ b o, (mergeAll se.pend se.H).get b = some o → h' b = some o := by
      intro b o hb
      rcases mergeAll_some hb with h1 | ⟨x, hx, rfl, h1⟩
      · exact stage b o h1
      · rw [← c2] at hx
        obtain ⟨a1, a2, a3, a4, a5⟩ := t.pend ops.size (Nat.le_refl _) x hx
        rw [a3] at h1 ⊢
        rw [a4] at h1
        rcases made x.1 a1 (hall _ a1) a2 with h2 | ⟨l, h2, _, h4, h5⟩
        · exact h2 o h1
        · have hol : ops[l]? = some ops[l] := Array.getElem?_eq_getElem h2
          have := a5 l (bef_lt t.stat hol h5) h2 h4
          rw [this] at h5; cases h5
    refine hQ ρ' a' w' r' ?_ (s2.sub sub)
    refine (Ext.from_heap (w := { w with drawn := w.drawn + 1 }) (w' := w) rfl e0).sub fun b hb => ?_
    cases hx : (mergeAll se.pend se.H).get b with
    | none => exact absurd hx hb
    | some o => rw [sub b o hx]; simp
  · intro j o ho hj
    simp [dnOf] at hj
    rcases Nat.lt_or_ge j ops.size with h' | h'
    · simp [h'] at hj
    · simp [Array.getElem?_eq_none h'] at ho
  · have : ∀ l, cnt (dnOf (Array.replicate ops.size false)) l ≤ l := by
      intro l
      induction l with
      | zero => exact Nat.le_refl _
      | succ l ih =>
        show cnt _ l + _ ≤ _
        split <;> omega
    exact this _
  · have hnone : ∀ j, dnOf (Array.replicate ops.size false) j = false := by
      intro j
      unfold dnOf
      rcases Nat.lt_or_ge j ops.size with h' | h'
      · simp [h']
      · simp [Nat.not_lt.2 h']
    have hE : ∀ l, envD ops rc (dnOf (Array.replicate ops.size false)) l = .nil := by
      intro l
      induction l with
      | zero => rfl
      | succ l ih =>
        show (if _ then _ else _) = _
        rw [if_neg (by rw [hnone]; simp), ih]
    refine ⟨ρ, H.get, g, by rw [hE]; exact r, s', Ext.refl' (hrun.grow) _, ?_, ?_, ?_⟩
    · rw [HD_none ops.size 0 (Nat.zero_le _) fun j _ _ _ => hnone j]
      show ∀ b o, (st 0).H.get b = some o → _
      rw [c1]
      exact fun _ _ h => h
    · intro i hi hdi
      rw [hnone] at hdi; cases hdi
    · intro i hi _ b hb hb'
      refine fr b (Nat.le_trans ?_ hb) (Nat.lt_of_lt_of_le hb' ?_)
      · have := t.le 0 i (Nat.zero_le _) (by omega)
        rw [c1] at this; exact this
      · have := t.le (i + 1) ops.size hi (Nat.le_refl _)
        rw [c2] at this; exact this
end
end Go.Proofs.YtogmhgklmjbfaaaGreatDoor.Kv
