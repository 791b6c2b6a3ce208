/-
  The evaluator's text, opened; names only grow, over whole tasks.
-/
import Derived.Test.YtogmhgklmjbfaaaGreatDoorKvQ
namespace Go.Proofs.YtogmhgklmjbfaaaGreatDoor.Kv

def Task.q : Task → Nat
  | .code _ _ _ _ _ q => q
  | .sc _ _ _ _ _ _ q => q
  | .call _ _ _ q => q
def Res.q : Res → Nat
  | .code _ _ _ q => q
  | .call _ _ q => q

def putE (d : Option Tmp) (v : AV) (E : Env) : Env := match d with
  | none => E
  | some t => .cons t v E

section
variable {p : PT} {rec : Rec} {m mask : Nat} {T : Tr AV}

theorem putD_eq {d : Option Tmp} {k : Env → Hp → Nat → Option St} {E : Env} {v : AV} {H : Hp} {q : Nat} {s : St} : putD d m k E v H q = some s ↔ (∀ t, d = some t → t < m) ∧ k (putE d v E) H q = some s := by
  cases d with
  | none => exact ⟨fun h => ⟨(fun _ e => by cases e), h⟩, fun h => h.2⟩
  | some d =>
    show chk (Nat.ble (Nat.succ d) m) (k (.cons d v E) H q) = some s ↔ _
    rw [chk_eq]
    constructor
    · rintro ⟨h1, h2⟩
      exact ⟨fun t e => by cases e; exact Nat.le_of_ble_eq_true h1, h2⟩
    · rintro ⟨h1, h2⟩
      exact ⟨Nat.ble_eq_true_of_le (h1 d rfl), h2⟩

theorem callK_eq {r : Option Res} {k : AV → Hp → Nat → Option St} {s : St} : callK r k = some s ↔ ∃ v H q, r = some (.call v H q) ∧ k v H q = some s := by
  unfold callK
  rw [ob_eq]
  constructor
  · rintro ⟨x, rfl, h⟩
    cases x with
    | code e T H q => cases h
    | call v H q => exact ⟨v, H, q, rfl, h⟩
  · rintro ⟨v, H, q, rfl, h⟩
    exact ⟨_, rfl, h⟩

theorem codeK_eq {r : Option Res} {k : Ex → Tr AV → Hp → Nat → Option Res} {s : Res} : codeK r k = some s ↔ ∃ e T H q, r = some (.code e T H q) ∧ k e T H q = some s := by
  unfold codeK
  rw [ob_eq]
  constructor
  · rintro ⟨x, rfl, h⟩
    cases x with
    | code e T H q => exact ⟨e, T, H, q, rfl, h⟩
    | call v H q => cases h
  · rintro ⟨e, T, H, q, rfl, h⟩
    exact ⟨_, rfl, h⟩

theorem stK_eq {β : Type} {r : Option St} {k : Env → Hp → Nat → Option β} {s : β} : stK r k = some s ↔ ∃ E H q, r = some (.mk E H q) ∧ k E H q = some s := by
  unfold stK
  rw [ob_eq]
  constructor
  · rintro ⟨x, rfl, h⟩
    cases x with
    | mk E H q => exact ⟨E, H, q, rfl, h⟩
  · rintro ⟨E, H, q, rfl, h⟩
    exact ⟨_, rfl, h⟩

/-- what an operation's end goes on with -/
theorem orK_eq {d : Option Tmp} {k : Env → Hp → Nat → Option St} {E : Env} {H : Hp} {q : Nat} {r : OR} {s : St} : orK d m rec k E H q r = some s ↔
    ∃ v H' q', (r = .val v H' q' ∨ (r = .skip H' q' ∧ v = undefA) ∨ ∃ f args, r = .enter f args ∧ rec (.call f args H q) = some (.call v H' q')) ∧ (∀ t, d = some t → t < m) ∧ k (putE d v E) H' q' = some s := by
  cases r with
  | val v H' q' =>
    show putD d m k E v H' q' = some s ↔ _
    rw [putD_eq]
    constructor
    · rintro h; exact ⟨v, H', q', .inl rfl, h⟩
    · rintro ⟨v', H2, q2, h | ⟨h, _⟩ | ⟨f, args, h, _⟩, h'⟩
      · cases h; exact h'
      · cases h
      · cases h
  | skip H' q' =>
    show putD d m k E undefA H' q' = some s ↔ _
    rw [putD_eq]
    constructor
    · rintro h; exact ⟨undefA, H', q', .inr (.inl ⟨rfl, rfl⟩), h⟩
    · rintro ⟨v', H2, q2, h | ⟨h, h2⟩ | ⟨f, args, h, _⟩, h'⟩
      · cases h
      · cases h; subst h2; exact h'
      · cases h
  | enter f args =>
    show callK (rec (.call f args H q)) (putD d m k E) = some s ↔ _
    rw [callK_eq]
    constructor
    · rintro ⟨v, H', q', hr, h⟩
      rw [putD_eq] at h
      exact ⟨v, H', q', .inr (.inr ⟨f, args, rfl, hr⟩), h⟩
    · rintro ⟨v', H2, q2, h | ⟨h, h2⟩ | ⟨f, args, h, hr⟩, h'⟩
      · cases h
      · cases h
      · cases h
        exact ⟨v', H2, q2, hr, putD_eq.2 h'⟩

theorem runOper_eq {o : Oper} {k : Env → Hp → Nat → Option St} {E : Env} {H : Hp} {q : Nat} {s : St} : runOper p rec m o k E T H q = some s ↔ ∃ r, evOp p o.op E T H q = some r ∧ orK o.dst m rec k E H q r = some s := by
  unfold runOper
  rw [ob_eq]

theorem evOper_eq {ops : List Oper} {o : Oper} {k : Env → Hp → Nat → Option St} {E : Env} {H : Hp} {q : Nat} {s : St} : evOper p rec ops m T o k E H q = some s ↔
    ((o.guard = none ∨ ∃ jw, o.guard = some jw ∧ wanted ops E T jw = some true) ∧ runOper p rec m o k E T H q = some s) ∨
      (∃ jw, o.guard = some jw ∧ wanted ops E T jw = some false) ∧ (∀ t, o.dst = some t → t < m) ∧ k (putE o.dst undefA E) H q = some s := by
  unfold evOper
  cases hg : o.guard with
  | none =>
    show runOper p rec m o k E T H q = some s ↔ _
    simp
  | some jw =>
    show ob (wanted ops E T jw) (fun w => bt w (runOper p rec m o k E T H q) (putD o.dst m k E undefA H q)) = some s ↔ _
    rw [ob_eq]
    simp only [bt_eq, putD_eq]
    constructor
    · rintro ⟨b, hb, ⟨rfl, h⟩ | ⟨rfl, h⟩⟩
      · exact .inl ⟨.inr ⟨jw, rfl, hb⟩, h⟩
      · exact .inr ⟨⟨jw, rfl, hb⟩, h⟩
    · rintro (⟨h | ⟨jw', h, hw⟩, h'⟩ | ⟨⟨jw', h, hw⟩, h'⟩)
      · cases h
      · cases h; exact ⟨true, hw, .inl ⟨rfl, h'⟩⟩
      · cases h; exact ⟨false, hw, .inr ⟨rfl, h'⟩⟩

theorem evOps_nil {ops : List Oper} {E : Env} {H : Hp} {q : Nat} : evOps p rec ops m T [] E H q = some (.mk E H q) := rfl
theorem evOps_cons {ops l : List Oper} {o : Oper} {E : Env} {H : Hp} {q : Nat} : evOps p rec ops m T (o :: l) E H q = evOper p rec ops m T o (evOps p rec ops m T l) E H q := rfl

/-- names only grow in the tasks below -/
def Grows (rec : Rec) : Prop := ∀ t r, rec t = some r → t.q ≤ r.q

theorem runs_grow (hrec : Grows rec) {o : Oper} {E : Env} {H : Hp} {q : Nat} {r : OR} (hr : evOp p o.op E T H q = some r) {v : AV} {H' : Hp} {q' : Nat}
    (h : r = .val v H' q' ∨ (r = .skip H' q' ∧ v = undefA) ∨ ∃ f args, r = .enter f args ∧ rec (.call f args H q) = some (.call v H' q')) : q ≤ q' := by
  have := evOp_mono hr
  rcases h with rfl | ⟨rfl, _⟩ | ⟨f, args, rfl, h⟩
  · exact this
  · exact this
  · exact hrec _ _ h

theorem evOps_grow (hrec : Grows rec) {ops : List Oper} : ∀ (l : List Oper) (E : Env) (H : Hp) (q : Nat) {E' : Env} {H' : Hp} {q' : Nat}, evOps p rec ops m T l E H q = some (.mk E' H' q') → q ≤ q'
  | [], E, H, q, E', H', q', h => by
    rw [evOps_nil] at h; cases h; exact Nat.le_refl _
  | o :: l, E, H, q, E', H', q', h => by
    rw [evOps_cons, evOper_eq] at h
    rcases h with ⟨_, h⟩ | ⟨_, _, h⟩
    · rw [runOper_eq] at h
      obtain ⟨r, hr, h⟩ := h
      rw [orK_eq] at h
      obtain ⟨v, H2, q2, h1, _, h2⟩ := h
      exact Nat.le_trans (runs_grow hrec hr h1) (evOps_grow hrec l _ _ _ h2)
    · exact evOps_grow hrec l _ _ _ h

/-! ### drawn regions -/
theorem dPut_eq {o : Oper} {E : Env} {v : AV} {k : Env → Option (List Rc × Ds)} {x : List Rc × Ds} : dPut m o E v k = some x ↔ (∀ t, o.dst = some t → t < m) ∧ k (putE o.dst v E) = some x := by
  unfold dPut
  cases o.dst with
  | none => exact ⟨fun h => ⟨(fun _ e => by cases e), h⟩, fun h => h.2⟩
  | some d =>
    show chk (Nat.ble (Nat.succ d) m) (k (.cons d v E)) = some x ↔ _
    rw [chk_eq]
    constructor
    · rintro ⟨h1, h2⟩
      exact ⟨fun t e => by cases e; exact Nat.le_of_ble_eq_true h1, h2⟩
    · rintro ⟨h1, h2⟩
      exact ⟨Nat.ble_eq_true_of_le (h1 d rfl), h2⟩

theorem dCons_eq {r : Rc} {x : Option (List Rc × Ds)} {y : List Rc × Ds} : dCons r x = some y ↔ ∃ z, x = some z ∧ y = (r :: z.1, z.2) := by
  unfold dCons
  rw [ob_eq]
  constructor
  · rintro ⟨z, hz, h⟩; cases h; exact ⟨z, hz, rfl⟩
  · rintro ⟨z, hz, rfl⟩; exact ⟨z, hz, rfl⟩

/-- One step of a drawn region: the record it leaves, and the state it goes on with. -/
inductive DStep (p : PT) (rec : Rec) (ops : List Oper) (m N : Nat) (T : Tr AV) (o : Oper) (s : Ds) : Rc → Ds → Prop
  | skip (jw : Nat × Bool) : o.guard = some jw → wanted ops s.E T jw = some false → (∀ t, o.dst = some t → t < m) →
      DStep p rec ops m N T o s ⟨s.i, o, s.E, s.q, s.q, undefA, 3, s.H, s.H, s.H⟩ ⟨s.i + 1, putE o.dst undefA s.E, s.H, s.pend, s.q, s.le⟩
  | look (v : AV) (H' : Hp) (q' : Nat) : (o.guard = none ∨ ∃ jw, o.guard = some jw ∧ wanted ops s.E T jw = some true) → kindOf p o.op = 0 → evOp p o.op s.E T s.H s.q = some (.val v H' q') → (∀ t, o.dst = some t → t < m) →
      DStep p rec ops m N T o s ⟨s.i, o, s.E, s.q, s.q, v, 0, s.H, s.H, s.H⟩ ⟨s.i + 1, putE o.dst v s.E, s.H, s.pend, s.q, s.le⟩
  | make (v : AV) (Ho : Hp) : (o.guard = none ∨ ∃ jw, o.guard = some jw ∧ wanted ops s.E T jw = some true) → kindOf p o.op = 1 → evOp p o.op s.E T .nil s.q = some (.val v Ho (s.q + 1)) → (∀ t, o.dst = some t → t < m) →
      DStep p rec ops m N T o s ⟨s.i, o, s.E, s.q, s.q + 1, v, 1, s.H, .nil, Ho⟩ ⟨s.i + 1, putE o.dst v s.E, s.H, (s.i, s.q, Ho) :: s.pend, s.q + 1, s.le⟩
  | act (r : OR) (v : AV) (Ho : Hp) (q' : Nat) : (o.guard = none ∨ ∃ jw, o.guard = some jw ∧ wanted ops s.E T jw = some true) → (s.le = 0 ∨ ∃ j, s.le = j + 1 ∧ bit (bef N s.i) j = true) →
      evOp p o.op s.E T (merge (bef N s.i) s.pend s.H) s.q = some r →
      (r = .val v Ho q' ∨ (r = .skip Ho q' ∧ v = undefA) ∨ ∃ f args, r = .enter f args ∧ rec (.call f args (merge (bef N s.i) s.pend s.H) s.q) = some (.call v Ho q')) → s.q ≤ q' → (∀ t, o.dst = some t → t < m) →
      DStep p rec ops m N T o s ⟨s.i, o, s.E, s.q, q', v, 2, s.H, merge (bef N s.i) s.pend s.H, Ho⟩ ⟨s.i + 1, putE o.dst v s.E, Ho, remain (bef N s.i) s.pend, q', s.i + 1⟩

theorem dDid_eq {N : Nat} {o : Oper} {k : DsK} {s : Ds} {Hi Ho : Hp} {v : AV} {q' : Nat} {y : List Rc × Ds} : dDid m N o k s Hi v Ho q' = some y ↔
    s.q ≤ q' ∧ (∀ t, o.dst = some t → t < m) ∧ ∃ z, k ⟨s.i + 1, putE o.dst v s.E, Ho, remain (bef N s.i) s.pend, q', s.i + 1⟩ = some z ∧ y = (⟨s.i, o, s.E, s.q, q', v, 2, s.H, Hi, Ho⟩ :: z.1, z.2) := by
  unfold dDid
  rw [chk_eq, dPut_eq, dCons_eq]
  constructor
  · rintro ⟨h1, h2, h3⟩; exact ⟨Nat.le_of_ble_eq_true h1, h2, h3⟩
  · rintro ⟨h1, h2, h3⟩; exact ⟨Nat.ble_eq_true_of_le h1, h2, h3⟩

theorem dRun_step {ops : List Oper} {N : Nat} {o : Oper} {k : DsK} {s : Ds} {y : List Rc × Ds} (hg : o.guard = none ∨ ∃ jw, o.guard = some jw ∧ wanted ops s.E T jw = some true) (h : dRun p rec m N T o k s = some y) :
    ∃ rc s' z, DStep p rec ops m N T o s rc s' ∧ k s' = some z ∧ y = (rc :: z.1, z.2) := by
  unfold dRun at h
  cases hk : kindOf p o.op with
  | zero =>
    rw [hk] at h
    have h : dLook p m T o k s = some y := h
    unfold dLook at h
    rw [ob_eq] at h
    obtain ⟨r, hr, h⟩ := h
    cases r with
    | val v H' q' =>
      have h : dPut m o s.E v (fun E => dCons ⟨s.i, o, s.E, s.q, s.q, v, 0, s.H, s.H, s.H⟩ (k ⟨Nat.succ s.i, E, s.H, s.pend, s.q, s.le⟩)) = some y := h
      rw [dPut_eq, dCons_eq] at h
      obtain ⟨h1, z, hz, rfl⟩ := h
      exact ⟨_, _, z, .look v H' q' hg hk hr h1, hz, rfl⟩
    | skip => cases h
    | enter => cases h
  | succ j =>
    rw [hk] at h
    cases j with
    | zero =>
      have h : dMake p m T o k s = some y := h
      unfold dMake at h
      rw [ob_eq] at h
      obtain ⟨r, hr, h⟩ := h
      cases r with
      | val v Ho q' =>
        have h : chk (Nat.beq q' (Nat.succ s.q)) (dPut m o s.E v (fun E => dCons ⟨s.i, o, s.E, s.q, q', v, 1, s.H, .nil, Ho⟩ (k ⟨Nat.succ s.i, E, s.H, (s.i, s.q, Ho) :: s.pend, q', s.le⟩))) = some y := h
        rw [chk_eq, dPut_eq, dCons_eq] at h
        obtain ⟨h0, h1, z, hz, rfl⟩ := h
        cases Nat.eq_of_beq_eq_true h0
        exact ⟨_, _, z, .make v Ho hg hk hr h1, hz, rfl⟩
      | skip => cases h
      | enter => cases h
    | succ j =>
      have h : dAct p rec m N T o k s = some y := h
      unfold dAct at h
      rw [chk_eq] at h
      obtain ⟨hle, h⟩ := h
      have hle : s.le = 0 ∨ ∃ j, s.le = j + 1 ∧ bit (bef N s.i) j = true := by
        cases e : s.le with
        | zero => exact .inl rfl
        | succ j => rw [e] at hle; exact .inr ⟨j, rfl, hle⟩
      unfold dAct' at h
      rw [ob_eq] at h
      obtain ⟨r, hr, h⟩ := h
      cases r with
      | val v Ho q' =>
        have h : dDid m N o k s _ v Ho q' = some y := h
        rw [dDid_eq] at h
        obtain ⟨h0, h1, z, hz, rfl⟩ := h
        exact ⟨_, _, z, .act _ v Ho q' hg hle hr (.inl rfl) h0 h1, hz, rfl⟩
      | skip Ho q' =>
        have h : dDid m N o k s _ undefA Ho q' = some y := h
        rw [dDid_eq] at h
        obtain ⟨h0, h1, z, hz, rfl⟩ := h
        exact ⟨_, _, z, .act _ undefA Ho q' hg hle hr (.inr (.inl ⟨rfl, rfl⟩)) h0 h1, hz, rfl⟩
      | enter f args =>
        have h : dCall rec m N o k s _ f args = some y := h
        unfold dCall at h
        rw [ob_eq] at h
        obtain ⟨x, hx, h⟩ := h
        cases x with
        | code => cases h
        | call v Ho q' =>
          have h : dDid m N o k s _ v Ho q' = some y := h
          rw [dDid_eq] at h
          obtain ⟨h0, h1, z, hz, rfl⟩ := h
          exact ⟨_, _, z, .act _ v Ho q' hg hle hr (.inr (.inr ⟨f, args, rfl, hx⟩)) h0 h1, hz, rfl⟩

theorem dOper_step {ops : List Oper} {N : Nat} {o : Oper} {k : DsK} {s : Ds} {y : List Rc × Ds} (h : dOper p rec ops m N T o k s = some y) :
    ∃ rc s' z, DStep p rec ops m N T o s rc s' ∧ k s' = some z ∧ y = (rc :: z.1, z.2) := by
  unfold dOper at h
  cases hg : o.guard with
  | none =>
    rw [hg] at h
    exact dRun_step (.inl hg) h
  | some jw =>
    rw [hg] at h
    have h : ob (wanted ops s.E T jw) (fun w => bt w (dRun p rec m N T o k s) (dSkip m o k s)) = some y := h
    rw [ob_eq] at h
    obtain ⟨b, hb, h⟩ := h
    rw [bt_eq] at h
    rcases h with ⟨rfl, h⟩ | ⟨rfl, h⟩
    · exact dRun_step (.inr ⟨jw, hg, hb⟩) h
    · unfold dSkip at h
      rw [dPut_eq, dCons_eq] at h
      obtain ⟨h1, z, hz, rfl⟩ := h
      exact ⟨_, _, z, .skip jw hg hb h1, hz, rfl⟩

/-- the steps of a drawn region, in the order of the text -/
inductive DRun (p : PT) (rec : Rec) (ops : List Oper) (m N : Nat) (T : Tr AV) : List Oper → Ds → List Rc → Ds → Prop
  | nil (s : Ds) : DRun p rec ops m N T [] s [] s
  | cons {o : Oper} {l : List Oper} {s s' s'' : Ds} {rc : Rc} {tr : List Rc} : DStep p rec ops m N T o s rc s' → DRun p rec ops m N T l s' tr s'' → DRun p rec ops m N T (o :: l) s (rc :: tr) s''

theorem dOps_run {ops : List Oper} {N : Nat} : ∀ (l : List Oper) (s : Ds) {y : List Rc × Ds}, dOps p rec ops m N T l s = some y → DRun p rec ops m N T l s y.1 y.2
  | [], s, y, h => by
    have h : some ([], s) = some y := h
    cases h
    exact .nil s
  | o :: l, s, y, h => by
    have h : dOper p rec ops m N T o (dOps p rec ops m N T l) s = some y := h
    obtain ⟨rc, s', z, h1, h2, rfl⟩ := dOper_step h
    exact .cons h1 (dOps_run l s' h2)

theorem DStep.grow {ops : List Oper} {N : Nat} {o : Oper} {s s' : Ds} {rc : Rc} (h : DStep p rec ops m N T o s rc s') : s.q ≤ s'.q := by
  cases h <;> simp <;> assumption
theorem DRun.grow {ops l : List Oper} {N : Nat} {s s' : Ds} {tr : List Rc} (h : DRun p rec ops m N T l s tr s') : s.q ≤ s'.q := by
  induction h with
  | nil => exact Nat.le_refl _
  | cons h _ ih => exact Nat.le_trans h.grow ih

theorem dRegion_eq {ops : List Oper} {N : Nat} {H : Hp} {q : Nat} {st : St} : dRegion p rec ops m N T H q = some st → statOk ops N = true ∧ ∃ tr s, DRun p rec ops m N T ops ⟨0, .nil, H, [], q, 0⟩ tr s ∧ pairsOk p N T tr = true ∧
    st = .mk s.E (mergeAll s.pend s.H) s.q := by
  intro h
  unfold dRegion at h
  rw [chk_eq, ob_eq] at h
  obtain ⟨h1, y, hy, h⟩ := h
  unfold dDone at h
  rw [chk_eq] at h
  obtain ⟨h2, h⟩ := h
  cases h
  exact ⟨h1, y.1, y.2, dOps_run _ _ hy, h2, rfl⟩

/-! ### tasks -/
theorem stepF_grow (hrec : Grows rec) : Grows (stepF p rec) := by
  intro t r h
  cases t with
  | code c m mask T H q =>
    have h : evCode p c rec m mask T H q = some r := h
    cases c with
    | skip =>
      have h : some (Res.code .normal T H q) = some r := h
      cases h; exact Nat.le_refl _
    | region id ops d =>
      have h : cRegion p ops d rec m mask T H q = some r := h
      unfold cRegion at h
      rw [stK_eq] at h
      obtain ⟨E', H', q', h2, h3⟩ := h
      injection h3 with h3
      subst h3
      cases d with
      | false => exact evOps_grow hrec _ _ _ _ h2
      | true =>
        obtain ⟨_, tr, s, hr, _, e⟩ := dRegion_eq (show dRegion p rec ops.toList m (befs ops.toList) T H q = some (.mk E' H' q') from h2)
        injection e with e1 e2 e3
        subst e3
        exact hr.grow
    | seq a b =>
      have h : cSeq a b rec m mask T H q = some r := h
      unfold cSeq at h
      rw [codeK_eq] at h
      obtain ⟨e, T1, H1, q1, h1, h⟩ := h
      have g1 : q ≤ q1 := hrec _ _ h1
      cases e with
      | normal => exact Nat.le_trans g1 (hrec _ _ h)
      | exit i => have h : some (Res.code (.exit i) T1 H1 q1) = some r := h; cases h; exact g1
      | goto l => have h : some (Res.code (.goto l) T1 H1 q1) = some r := h; cases h; exact g1
      | ret => have h : some (Res.code .ret T1 H1 q1) = some r := h; cases h; exact g1
    | cond x a b =>
      have h : opdK p x .nil T (fun c => c.boolK fun g => rec (.code (Bool.rec b a g) m mask T H q)) = some r := h
      have : ∃ g, rec (.code (Bool.rec b a g) m mask T H q) = some r := by
        cases x with
        | tmp t =>
          have h : rd .nil T t _ = some r := h
          rw [rd_look, ob_eq] at h
          obtain ⟨v, _, h⟩ := h
          rw [AV.boolK_eq] at h
          obtain ⟨g, _, h⟩ := h
          exact ⟨g, h⟩
        | const V =>
          have h : ob (ofV V) _ = some r := h
          rw [ob_eq] at h
          obtain ⟨v, _, h⟩ := h
          rw [AV.boolK_eq] at h
          obtain ⟨g, _, h⟩ := h
          exact ⟨g, h⟩
        | global i =>
          have h : chk _ _ = some r := h
          rw [chk_eq] at h
          obtain ⟨_, h⟩ := h
          cases h
        | func f => cases h
      obtain ⟨g, h⟩ := this
      exact hrec (.code (Bool.rec b a g) m mask T H q) r h
    | block i b =>
      have h : cBlock i b rec m mask T H q = some r := h
      unfold cBlock at h
      rw [codeK_eq] at h
      obtain ⟨e, T1, H1, q1, h1, h⟩ := h
      have g1 : q ≤ q1 := hrec _ _ h1
      cases e with
      | normal => have h : some (Res.code .normal T1 H1 q1) = some r := h; cases h; exact g1
      | exit j => have h : some (Res.code _ T1 H1 q1) = some r := h; cases h; exact g1
      | goto l => have h : some (Res.code (.goto l) T1 H1 q1) = some r := h; cases h; exact g1
      | ret => have h : some (Res.code .ret T1 H1 q1) = some r := h; cases h; exact g1
    | loop b =>
      have h : cLoop b rec m mask T H q = some r := h
      unfold cLoop at h
      rw [codeK_eq] at h
      obtain ⟨e, T1, H1, q1, h1, h⟩ := h
      have g1 : q ≤ q1 := hrec _ _ h1
      cases e with
      | normal => exact Nat.le_trans g1 (hrec _ _ h)
      | exit i => have h : some (Res.code (.exit i) T1 H1 q1) = some r := h; cases h; exact g1
      | goto l => have h : some (Res.code (.goto l) T1 H1 q1) = some r := h; cases h; exact g1
      | ret => have h : some (Res.code .ret T1 H1 q1) = some r := h; cases h; exact g1
    | exit i => have h : some (Res.code (.exit i) T H q) = some r := h; cases h; exact Nat.le_refl _
    | scope b => exact hrec (.sc b b m mask T H q) r h
    | label l => have h : some (Res.code .normal T H q) = some r := h; cases h; exact Nat.le_refl _
    | goto l => have h : some (Res.code (.goto l) T H q) = some r := h; cases h; exact Nat.le_refl _
    | ret => have h : some (Res.code .ret T H q) = some r := h; cases h; exact Nat.le_refl _
    | _ => cases h
  | sc b c m mask T H q =>
    have h : codeK (rec (.code c m mask T H q)) (scK b rec m mask) = some r := h
    rw [codeK_eq] at h
    obtain ⟨e, T1, H1, q1, h1, h⟩ := h
    have g1 : q ≤ q1 := hrec _ _ h1
    cases e with
    | normal => have h : some (Res.code .normal T1 H1 q1) = some r := h; cases h; exact g1
    | exit i => have h : some (Res.code (.exit i) T1 H1 q1) = some r := h; cases h; exact g1
    | ret => have h : some (Res.code .ret T1 H1 q1) = some r := h; cases h; exact g1
    | goto l =>
      have h : gotoK b rec m mask l T1 H1 q1 = some r := h
      unfold gotoK at h
      cases hl : findLabel b l with
      | none =>
        rw [hl] at h
        have h : some (Res.code (.goto l) T1 H1 q1) = some r := h; cases h; exact g1
      | some c' =>
        rw [hl] at h
        exact Nat.le_trans g1 (hrec (.sc b c' m mask T1 H1 q1) r h)
  | call f args H q =>
    have h : evCall p f args H q rec = some r := h
    unfold evCall at h
    simp only [ob_eq, chk_eq] at h
    obtain ⟨fn, _, c, _, _, _, h⟩ := h
    rw [codeK_eq] at h
    obtain ⟨e, T1, H1, q1, h1, h⟩ := h
    have g1 : q ≤ q1 := hrec _ _ h1
    have hres : results p fn T1 H1 q1 = some r → q ≤ r.q := by
      intro h
      unfold results at h
      rw [ob_eq] at h
      obtain ⟨l, _, h⟩ := h
      cases h; exact g1
    cases e with
    | normal => exact hres h
    | exit i => cases h
    | goto l => cases h
    | ret => exact hres h

theorem ev_grow : ∀ n, Grows (ev p n)
  | 0 => fun t r h => by cases h
  | n + 1 => stepF_grow (ev_grow n)
end
end Go.Proofs.YtogmhgklmjbfaaaGreatDoor.Kv
