/-
  Regions of drawn order: any order comes to what the text's comes to.
-/
import Derived.Test.YtogmhgklmjbfaaaGreatDoorKvU
namespace Go.Proofs.YtogmhgklmjbfaaaGreatDoor.Kv

theorem and2 {a b : Bool} (h : (a && b) = true) : a = true ∧ b = true := by cases a <;> cases b <;> simp_all

mutual
theorem avEq_eq : ∀ (a b : AV), avEq a b = true → a = b
  | .bool x, b, h => by
    cases b <;> simp only [avEq, Bool.false_eq_true] at h
    rw [eq_of_beq h]
  | .int k m, b, h => by
    cases b <;> simp only [avEq, Bool.false_eq_true] at h
    rename_i k' n
    cases e : kBeq k k' with
    | false => rw [e] at h; cases h
    | true =>
      rw [e] at h
      have h : intBeq m n = true := h
      rw [intBeq_eq] at h
      rw [(kBeq_eq _ _).1 e, eq_of_beq h]
  | .flt _ _, b, h => by cases b <;> simp only [avEq, Bool.false_eq_true] at h
  | .cx k m n, b, h => by
    cases b <;> simp only [avEq, Bool.false_eq_true] at h
    obtain ⟨h1, h2⟩ := and2 h
    obtain ⟨h2, h3⟩ := and2 h2
    rw [of_decide_eq_true h1, Nat.eq_of_beq_eq_true h2, Nat.eq_of_beq_eq_true h3]
  | .str x, b, h => by
    cases b <;> simp only [avEq, Bool.false_eq_true] at h
    rw [strBeq_eq] at h
    rw [eq_of_beq h]
  | .nilp, b, h => by cases b <;> simp only [avEq, Bool.false_eq_true] at h; rfl
  | .ptr x o, b, h => by
    cases b <;> simp only [avEq, Bool.false_eq_true] at h
    rename_i x' o'
    cases e : Nat.beq x x' with
    | false => rw [e] at h; cases h
    | true =>
      rw [e] at h
      rw [Nat.eq_of_beq_eq_true e, Nat.eq_of_beq_eq_true h]
  | .nils, b, h => by cases b <;> simp only [avEq, Bool.false_eq_true] at h; rfl
  | .slc x o n c, b, h => by
    cases b <;> simp only [avEq, Bool.false_eq_true] at h
    obtain ⟨h1, h2⟩ := and2 h
    obtain ⟨h2, h3⟩ := and2 h2
    obtain ⟨h3, h4⟩ := and2 h3
    rw [Nat.eq_of_beq_eq_true h1, Nat.eq_of_beq_eq_true h2, Nat.eq_of_beq_eq_true h3, Nat.eq_of_beq_eq_true h4]
  | .slo x o n c, b, h => by
    cases b <;> simp only [avEq, Bool.false_eq_true] at h
    obtain ⟨h1, h2⟩ := and2 h
    obtain ⟨h2, h3⟩ := and2 h2
    obtain ⟨h3, h4⟩ := and2 h3
    rw [Nat.eq_of_beq_eq_true h1, Nat.eq_of_beq_eq_true h2, Nat.eq_of_beq_eq_true h3, Nat.eq_of_beq_eq_true h4]
  | .nilm, b, h => by cases b <;> simp only [avEq, Bool.false_eq_true] at h; rfl
  | .mp x, b, h => by
    cases b <;> simp only [avEq, Bool.false_eq_true] at h
    rw [Nat.eq_of_beq_eq_true h]
  | .fn f l c, b, h => by
    cases b <;> try (simp only [avEq, Bool.false_eq_true] at h; done)
    rename_i f' l' c'
    cases f <;> try (simp only [avEq, Bool.false_eq_true] at h; done)
    cases l <;> try (simp only [avEq, Bool.false_eq_true] at h; done)
    cases f' <;> try (simp only [avEq, Bool.false_eq_true] at h; done)
    cases l' <;> try (simp only [avEq, Bool.false_eq_true] at h; done)
    simp only [avEq] at h
    obtain ⟨h1, h2⟩ := and2 h
    rw [Nat.eq_of_beq_eq_true h1, avsEq_eq c c' h2]
  | .nilf, b, h => by cases b <;> simp only [avEq, Bool.false_eq_true] at h; rfl
  | .nili, b, h => by cases b <;> simp only [avEq, Bool.false_eq_true] at h; rfl
  | .ifc t x, b, h => by
    cases b <;> simp only [avEq, Bool.false_eq_true] at h
    obtain ⟨h1, h2⟩ := and2 h
    rw [Nat.eq_of_beq_eq_true h1, avEq_eq x _ h2]
  | .agg l, b, h => by
    cases b <;> simp only [avEq, Bool.false_eq_true] at h
    rw [avsEq_eq l _ h]
  | .tup l, b, h => by
    cases b <;> simp only [avEq, Bool.false_eq_true] at h
    rw [avsEq_eq l _ h]
  | .raw i, b, h => by
    cases b <;> simp only [avEq, Bool.false_eq_true] at h
    rw [Nat.eq_of_beq_eq_true h]
theorem avsEq_eq : ∀ (l r : List AV), avsEq l r = true → l = r
  | [], [], _ => rfl
  | [], _ :: _, h => by simp only [avsEq, Bool.false_eq_true] at h
  | _ :: _, [], h => by simp only [avsEq, Bool.false_eq_true] at h
  | x :: l, y :: r, h => by
    simp only [avsEq] at h
    obtain ⟨h1, h2⟩ := and2 h
    rw [avEq_eq x y h1, avsEq_eq l r h2]
end

section
variable {p : PT} {T : Tr AV}
theorem again_ok {r : Rc} {H : Hp} (hk : kindOf p r.o.op = 0) (h : again p T r H = true) : evOp p r.o.op r.E T H r.q = some (.val r.v H r.q) := by
  unfold again at h
  cases e : evOp p r.o.op r.E T H r.q with
  | none => rw [e] at h; cases h
  | some x =>
    obtain ⟨v, rfl⟩ := look_only hk e
    rw [e] at h
    have h : avEq v r.v = true := h
    rw [avEq_eq _ _ h]

theorem look_putE (d : Option Tmp) (v : AV) (E : Env) (t : Nat) : look (putE d v E) T t = if d = some t then some v else look E T t := by
  cases d with
  | none => simp [putE]
  | some d =>
    show look (.cons d v E) T t = _
    rw [look_cons]
    simp
end

def dstAt (ops : Array Oper) (i : Nat) : Option Tmp := (ops[i]?).bind (·.dst)
/-- what is known once the operations in dn are done -/
def envD (ops : Array Oper) (rc : Nat → Rc) (dn : Nat → Bool) : Nat → Env
  | 0 => .nil
  | i + 1 => if dn i = true then putE (dstAt ops i) (rc i).v (envD ops rc dn i) else envD ops rc dn i
/-- the heap once they are -/
noncomputable def HD (st : Nat → Ds) (rc : Nat → Rc) (dn : Nat → Bool) : Nat → Hp
  | 0 => (st 0).H
  | i + 1 => if dn i = true ∧ (rc i).k = 2 then (rc i).Ho else HD st rc dn i
def with1 (dn : Nat → Bool) (i : Nat) : Nat → Bool := fun j => dn j || j == i

section
variable {p : PT} {rec : Rec} {ops : Array Oper} {m N : Nat} {T : Tr AV} {st : Nat → Ds} {rc : Nat → Rc} {dn : Nat → Bool}

/-- i may be done next -/
def Next' (ops : Array Oper) (dn : Nat → Bool) (i : Nat) (o : Oper) : Prop := ops[i]? = some o ∧ dn i = false ∧ ∀ e ∈ o.after, Region.binds .any e = true → dn e.on = true

theorem bef_done (t : Tab p rec ops m N T st rc) (hd : Down ops fun j => dn j = true) {i : Nat} {o : Oper} (hn : Next' ops dn i o) {j : Nat} (hj : bit (bef N i) j = true) : dn j = true :=
  (hd.bef t.stat i hn.1 hn.2.2 hj).1
theorem bef_done' (t : Tab p rec ops m N T st rc) (hd : Down ops fun j => dn j = true) {i : Nat} {o : Oper} (ho : ops[i]? = some o) (hi : dn i = true) {j : Nat} (hj : bit (bef N i) j = true) : dn j = true :=
  (hd.bef t.stat i ho (hd i o ho hi) hj).1

theorem look_agree (t : Tab p rec ops m N T st rc) (hd : Down ops fun j => dn j = true) {i : Nat} {o : Oper} (hn : Next' ops dn i o) {u : Nat} (hu : u ∈ looks ops.toList o) : look (st i).E T u = look (envD ops rc dn ops.size) T u := by
  have hi : i < ops.size := (Array.getElem?_eq_some_iff.1 hn.1).1
  have a : ∀ l, l ≤ i → look (st l).E T u = look (envD ops rc dn l) T u := by
    intro l
    induction l with
    | zero => intro _; rw [t.E0]; rfl
    | succ l ih =>
      intro hl
      have ho : ops[l]? = some ops[l] := Array.getElem?_eq_getElem (by omega)
      have hf := (t.facts ho).2.2.2.2.2.2.2.1
      rw [hf, look_putE]
      show _ = look (if dn l = true then putE (dstAt ops l) (rc l).v (envD ops rc dn l) else envD ops rc dn l) T u
      have hdst : dstAt ops l = ops[l].dst := by simp [dstAt, ho]
      by_cases hw : ops[l].dst = some u
      · have hb := bef_done t hd hn (clash_bef t.stat hn.1 ho (by omega) (clash_reads hw hu))
        rw [if_pos hw, if_pos hb, look_putE, hdst, if_pos hw]
      · rw [if_neg hw, ih (by omega)]
        split
        · rw [look_putE, hdst, if_neg hw]
        · rfl
  have b : ∀ l, i ≤ l → l ≤ ops.size → look (envD ops rc dn l) T u = look (envD ops rc dn i) T u := by
    intro l
    induction l with
    | zero => intro h _; cases Nat.le_zero.1 h; rfl
    | succ l ih =>
      intro h1 h2
      rcases Nat.lt_or_ge i (l + 1) with h | h
      · have ho : ops[l]? = some ops[l] := Array.getElem?_eq_getElem (by omega)
        have hdst : dstAt ops l = ops[l].dst := by simp [dstAt, ho]
        show look (if dn l = true then putE (dstAt ops l) (rc l).v (envD ops rc dn l) else envD ops rc dn l) T u = _
        split
        · rename_i hl
          have hne : l ≠ i := fun e => by rw [e, hn.2.1] at hl; cases hl
          rw [look_putE, hdst]
          by_cases hw : ops[l].dst = some u
          · have hb := bef_done' t hd ho hl (clash_bef t.stat ho hn.1 (by omega) (clash_read hw hu))
            rw [hn.2.1] at hb; cases hb
          · rw [if_neg hw, ih (by omega) (by omega)]
        · exact ih (by omega) (by omega)
      · have : i = l + 1 := by omega
        rw [this]
  rw [a i (Nat.le_refl _), b ops.size (by omega) (Nat.le_refl _)]

theorem look_after (t : Tab p rec ops m N T st rc) (hd : Down ops fun j => dn j = true) {i : Nat} {o : Oper} (hn : Next' ops dn i o) (u : Nat) :
    look (envD ops rc (with1 dn i) ops.size) T u = look (putE o.dst (rc i).v (envD ops rc dn ops.size)) T u := by
  have hi : i < ops.size := (Array.getElem?_eq_some_iff.1 hn.1).1
  have hdi : dstAt ops i = o.dst := by simp [dstAt, hn.1]
  have a : ∀ l, l ≤ i → envD ops rc (with1 dn i) l = envD ops rc dn l := by
    intro l
    induction l with
    | zero => intro _; rfl
    | succ l ih =>
      intro hl
      have : with1 dn i l = dn l := by unfold with1; have : l ≠ i := by omega
                                       simp [this]
      show (if with1 dn i l = true then _ else _) = (if dn l = true then _ else _)
      rw [this, ih (by omega)]
  have b : ∀ l, i < l → l ≤ ops.size → look (envD ops rc (with1 dn i) l) T u = look (putE o.dst (rc i).v (envD ops rc dn l)) T u := by
    intro l
    induction l with
    | zero => intro h _; omega
    | succ l ih =>
      intro h1 h2
      show look (if with1 dn i l = true then putE (dstAt ops l) (rc l).v (envD ops rc (with1 dn i) l) else envD ops rc (with1 dn i) l) T u = look (putE o.dst (rc i).v (if dn l = true then putE (dstAt ops l) (rc l).v (envD ops rc dn l) else envD ops rc dn l)) T u
      by_cases e : l = i
      · subst e
        rw [if_pos (by simp [with1]), if_neg (by rw [hn.2.1]; simp), a l (Nat.le_refl _), hdi]
      · have hw : with1 dn i l = dn l := by simp [with1, e]
        have ho : ops[l]? = some ops[l] := Array.getElem?_eq_getElem (by omega)
        have hdst : dstAt ops l = ops[l].dst := by simp [dstAt, ho]
        rw [hw]
        split
        · rename_i hl
          rw [look_putE, look_putE, look_putE, ih (by omega) (by omega), look_putE, hdst]
          by_cases hw : ops[l].dst = some u
          · by_cases hw' : o.dst = some u
            · have hb := bef_done' t hd ho hl (clash_bef t.stat ho hn.1 (by omega) (clash_both hw' hw))
              rw [hn.2.1] at hb; cases hb
            · simp [hw, hw']
          · simp [hw]
        · exact ih (by omega) (by omega)
  exact b ops.size hi (Nat.le_refl _)

theorem env_all (t : Tab p rec ops m N T st rc) (hall : ∀ j, j < ops.size → dn j = true) : ∀ l, l ≤ ops.size → envD ops rc dn l = (st l).E
  | 0, _ => t.E0.symm
  | l + 1, h => by
    have ho : ops[l]? = some ops[l] := Array.getElem?_eq_getElem (by omega)
    have hf := (t.facts ho).2.2.2.2.2.2.2.1
    have hdst : dstAt ops l = ops[l].dst := by simp [dstAt, ho]
    show (if dn l = true then putE (dstAt ops l) (rc l).v (envD ops rc dn l) else envD ops rc dn l) = _
    rw [if_pos (hall l (by omega)), hdst, env_all t hall l (by omega), hf]

/-! ### the heap on the way -/
theorem Tab.act (t : Tab p rec ops m N T st rc) {i : Nat} {o : Oper} (ho : ops[i]? = some o) (hk : (rc i).k = 2) :
    (o.guard = none ∨ ∃ jw, o.guard = some jw ∧ wanted ops.toList (st i).E T jw = some true) ∧ ((st i).le = 0 ∨ ∃ j, (st i).le = j + 1 ∧ bit (bef N i) j = true) ∧ (rc i).Hi = merge (bef N i) (st i).pend (st i).H ∧
      ∃ r, evOp p o.op (st i).E T (rc i).Hi (st i).q = some r ∧
        (r = .val (rc i).v (rc i).Ho (st (i + 1)).q ∨ (r = .skip (rc i).Ho (st (i + 1)).q ∧ (rc i).v = undefA) ∨ ∃ f args, r = .enter f args ∧ rec (.call f args (rc i).Hi (st i).q) = some (.call (rc i).v (rc i).Ho (st (i + 1)).q)) := by
  have e := t.idx i (Nat.le_of_lt (Array.getElem?_eq_some_iff.1 ho).1)
  have hs := t.step i o ho
  generalize st (i + 1) = s', rc i = r at *
  generalize st i = s at *
  cases hs <;> first | (cases hk; done) | skip
  rename_i r v Ho q' h1 h2 h3 h4 h5 h6
  subst e
  exact ⟨h1, h2, rfl, r, h3, h4⟩

theorem Tab.lastE (t : Tab p rec ops m N T st rc) : ∀ i, i ≤ ops.size → ((st i).le = 0 ∧ ∀ j, j < i → (rc j).k ≠ 2) ∨ ∃ j, (st i).le = j + 1 ∧ j < i ∧ (rc j).k = 2 ∧ ∀ j', j < j' → j' < i → (rc j').k ≠ 2
  | 0, _ => .inl ⟨t.l0, fun j h => by omega⟩
  | i + 1, h => by
    have ho : ops[i]? = some ops[i] := Array.getElem?_eq_getElem h
    have hf := (t.facts ho).2.2.2.2.2.2.2.2.2.2.1
    by_cases hk : (rc i).k = 2
    · rw [if_pos hk] at hf
      exact .inr ⟨i, hf, by omega, hk, fun j' h1 h2 => by omega⟩
    · rw [if_neg hk] at hf
      rw [hf]
      rcases t.lastE i (by omega) with ⟨h1, h2⟩ | ⟨j, h1, h2, h3, h4⟩
      · exact .inl ⟨h1, fun j hj => by
          rcases Nat.lt_or_ge j i with h | h
          · exact h2 j h
          · have : j = i := by omega
            rw [this]; exact hk⟩
      · exact .inr ⟨j, h1, by omega, h3, fun j' h5 h6 => by
          rcases Nat.lt_or_ge j' i with h | h
          · exact h4 j' h5 h
          · have : j' = i := by omega
            rw [this]; exact hk⟩

/-- those that act are done in the order of the text -/
theorem acts_down (t : Tab p rec ops m N T st rc) (hd : Down ops fun j => dn j = true) : ∀ (i : Nat) {o : Oper}, ops[i]? = some o → (rc i).k = 2 → (∀ {j : Nat}, bit (bef N i) j = true → dn j = true) → ∀ j, j < i → (rc j).k = 2 → dn j = true := by
  intro i
  induction i using Nat.strongRecOn with
  | _ i ih =>
    intro o ho hk hb j hj hkj
    have hi : i < ops.size := (Array.getElem?_eq_some_iff.1 ho).1
    rcases t.lastE i (by omega) with ⟨_, h2⟩ | ⟨j0, h1, h2, h3, h4⟩
    · exact absurd hkj (h2 j hj)
    · have hj0 : dn j0 = true := by
        rcases (t.act ho hk).2.1 with h | ⟨j1, h, h'⟩
        · omega
        · have : j1 = j0 := by omega
          subst this
          exact hb h'
      rcases Nat.lt_or_ge j j0 with h | h
      · have ho0 : ops[j0]? = some ops[j0] := Array.getElem?_eq_getElem (by omega)
        exact ih j0 h2 ho0 h3 (fun hb' => bef_done' t hd ho0 hj0 hb') j h hkj
      · rcases Nat.lt_or_ge j0 j with h' | h'
        · exact absurd hkj (h4 j h' hj)
        · have : j = j0 := by omega
          rw [this]; exact hj0

theorem HD_all (t : Tab p rec ops m N T st rc) : ∀ i, i ≤ ops.size → (∀ j, j < i → (rc j).k = 2 → dn j = true) → HD st rc dn i = (st i).H
  | 0, _, _ => rfl
  | i + 1, h, ha => by
    have ho : ops[i]? = some ops[i] := Array.getElem?_eq_getElem h
    have hf := (t.facts ho).2.2.2.2.2.2.2.2.2.1
    show (if dn i = true ∧ (rc i).k = 2 then (rc i).Ho else HD st rc dn i) = _
    rw [hf]
    by_cases hk : (rc i).k = 2
    · rw [if_pos ⟨ha i (by omega) hk, hk⟩, if_pos hk]
    · rw [if_neg (fun h => hk h.2), if_neg hk]
      exact HD_all t i (by omega) fun j hj => ha j (by omega)
theorem HD_none : ∀ l i, i ≤ l → (∀ j, i ≤ j → j < l → (rc j).k = 2 → dn j = false) → HD st rc dn l = HD st rc dn i
  | 0, i, h, _ => by cases Nat.le_zero.1 h; rfl
  | l + 1, i, h, ha => by
    rcases Nat.lt_or_ge i (l + 1) with h' | h'
    · show (if dn l = true ∧ (rc l).k = 2 then (rc l).Ho else HD st rc dn l) = _
      rw [if_neg (fun h => by rw [ha l (by omega) (by omega) h.2] at h; cases h.1)]
      exact HD_none l i (by omega) fun j h1 h2 => ha j h1 (by omega)
    · have : i = l + 1 := by omega
      rw [this]
theorem HD_or : ∀ l i, i ≤ l → HD st rc dn l = HD st rc dn i ∨ ∃ e, i ≤ e ∧ e < l ∧ dn e = true ∧ (rc e).k = 2 ∧ HD st rc dn l = (rc e).Ho
  | 0, i, h => by cases Nat.le_zero.1 h; exact .inl rfl
  | l + 1, i, h => by
    rcases Nat.lt_or_ge i (l + 1) with h' | h'
    · by_cases hk : dn l = true ∧ (rc l).k = 2
      · refine .inr ⟨l, by omega, by omega, hk.1, hk.2, ?_⟩
        show (if dn l = true ∧ (rc l).k = 2 then (rc l).Ho else HD st rc dn l) = _
        rw [if_pos hk]
      · have e : HD st rc dn (l + 1) = HD st rc dn l := by
          show (if dn l = true ∧ (rc l).k = 2 then (rc l).Ho else HD st rc dn l) = _
          rw [if_neg hk]
        rw [e]
        rcases HD_or l i (by omega) with h1 | ⟨e', h1, h2, h3⟩
        · exact .inl h1
        · exact .inr ⟨e', h1, by omega, h3⟩
    · have : i = l + 1 := by omega
      rw [this]; exact .inl rfl
theorem HD_with {i : Nat} (hi : (rc i).k ≠ 2) : ∀ l, HD st rc (with1 dn i) l = HD st rc dn l
  | 0 => rfl
  | l + 1 => by
    show (if with1 dn i l = true ∧ (rc l).k = 2 then (rc l).Ho else HD st rc (with1 dn i) l) = (if dn l = true ∧ (rc l).k = 2 then (rc l).Ho else HD st rc dn l)
    rw [HD_with hi l]
    by_cases e : l = i
    · subst e
      rw [if_neg (fun h => hi h.2), if_neg (fun h => hi h.2)]
    · have hw : with1 dn i l = dn l := by simp [with1, e]
      rw [hw]

theorem Tab.look (t : Tab p rec ops m N T st rc) {i : Nat} {o : Oper} (ho : ops[i]? = some o) (hk : (rc i).k = 0) :
    (o.guard = none ∨ ∃ jw, o.guard = some jw ∧ wanted ops.toList (st i).E T jw = some true) ∧ kindOf p o.op = 0 ∧ (st (i + 1)).q = (st i).q ∧ evOp p o.op (st i).E T (st i).H (st i).q = some (.val (rc i).v (st i).H (st i).q) := by
  have hs := t.step i o ho
  generalize st (i + 1) = s', rc i = r at *
  generalize st i = s at *
  cases hs <;> first | (cases hk; done) | skip
  rename_i v H' q' h1 h2 h3 h4
  refine ⟨h1, h2, rfl, ?_⟩
  obtain ⟨v', e⟩ := look_only h2 h3
  cases e
  exact h3

/-- what only looks, looks the same wherever it may be done -/
theorem look_at (t : Tab p rec ops m N T st rc) (hd : Down ops fun j => dn j = true) {i : Nat} {o : Oper} (hn : Next' ops dn i o) (hk : (rc i).k = 0) :
    evOp p o.op (st i).E T (HD st rc dn ops.size) (st i).q = some (.val (rc i).v (HD st rc dn ops.size) (st i).q) := by
  obtain ⟨ho, hu, hr⟩ := hn
  have hi : i < ops.size := (Array.getElem?_eq_some_iff.1 ho).1
  obtain ⟨f1, f2, f3, f4, f5, f6, _⟩ := t.facts ho
  obtain ⟨_, hkd, _, hev⟩ := t.look ho hk
  have hag : ∀ H, again p T (rc i) H = true → evOp p o.op (st i).E T H (st i).q = some (.val (rc i).v H (st i).q) := by
    intro H h
    have := again_ok (r := rc i) (by rw [f2]; exact hkd) h
    rw [f2, f3, f4] at this
    exact this
  by_cases hall : ∀ j, j < i → (rc j).k = 2 → dn j = true
  · have e1 := HD_all t i (by omega) hall
    rcases HD_or (st := st) (rc := rc) (dn := dn) ops.size i (by omega) with h | ⟨e, h1, h2, h3, h4, h5⟩
    · rw [h, e1]; exact hev
    · have hne : e ≠ i := fun h => by rw [h, hk] at h4; cases h4
      have hp := t.pairs e i h2 hi h4
      have he : ops[e]? = some ops[e] := Array.getElem?_eq_getElem h2
      rw [h5]
      apply hag
      unfold pairOk at hp
      rw [hk, f1, (t.facts he).1, show Nat.blt i e = true from Nat.ble_eq_true_of_le (by omega)] at hp
      have hp : (Bool.rec (again p T (rc i) (rc e).Ho) true (bit (bef N e) i) : Bool) = true := hp
      cases hb : bit (bef N e) i with
      | true =>
        have := bef_done' t hd he h3 hb
        rw [hu] at this; cases this
      | false => rw [hb] at hp; exact hp
  · -- the first that acts and is not done
    have hex : ∃ j, j < i ∧ (rc j).k = 2 ∧ dn j = false := by
      apply Classical.byContradiction
      intro hc
      apply hall
      intro j hj hkj
      cases hdj : dn j with
      | true => rfl
      | false => exact absurd ⟨j, hj, hkj, hdj⟩ hc
    obtain ⟨j0, ⟨h1, h2, h3⟩, hmin⟩ : ∃ j, (j < i ∧ (rc j).k = 2 ∧ dn j = false) ∧ ∀ j', j' < j → ¬ (j' < i ∧ (rc j').k = 2 ∧ dn j' = false) := by
      obtain ⟨j, hj⟩ := hex
      induction j using Nat.strongRecOn with
      | _ j ih =>
        by_cases h : ∃ j', j' < j ∧ j' < i ∧ (rc j').k = 2 ∧ dn j' = false
        · obtain ⟨j', h1, h2⟩ := h
          exact ih j' h1 h2
        · exact ⟨j, hj, fun j' h1 h2 => h ⟨j', h1, h2⟩⟩
    have hj0 : ops[j0]? = some ops[j0] := Array.getElem?_eq_getElem (by omega)
    have e1 : HD st rc dn j0 = (st j0).H := HD_all t j0 (by omega) fun j hj hkj => by
      cases hdj : dn j with
      | true => rfl
      | false => exact absurd ⟨by omega, hkj, hdj⟩ (hmin j hj)
    have e2 : HD st rc dn ops.size = HD st rc dn j0 := HD_none ops.size j0 (by omega) fun j h4 h5 hkj => by
      cases hdj : dn j with
      | false => rfl
      | true =>
        have hoj : ops[j]? = some ops[j] := Array.getElem?_eq_getElem h5
        rcases Nat.lt_or_ge j0 j with h | h
        · have := acts_down t hd j hoj hkj (fun hb => bef_done' t hd hoj hdj hb) j0 h h2
          rw [h3] at this; cases this
        · have : j = j0 := by omega
          rw [this, h3] at hdj; cases hdj
    have hp := t.pairs j0 i (by omega) hi h2
    rw [e2, e1, ← (t.facts hj0).2.2.2.2.2.1]
    apply hag
    unfold pairOk at hp
    rw [hk, f1, (t.facts hj0).1] at hp
    have hlt : Nat.blt i j0 = false := by
      cases e : Nat.blt i j0 with
      | false => rfl
      | true => have := Nat.le_of_ble_eq_true e; omega
    rw [hlt] at hp
    have hp : (Bool.rec (again p T (rc i) (rc j0).Hb) true (bit (bef N i) j0) : Bool) = true := hp
    cases hb : bit (bef N i) j0 with
    | true =>
      have := (hd.bef t.stat i ho hr hb).1
      rw [h3] at this; cases this
    | false => rw [hb] at hp; exact hp

/-- what acts, acts on the heap at hand -/
theorem act_at (t : Tab p rec ops m N T st rc) (hd : Down ops fun j => dn j = true) {i : Nat} {o : Oper} (hn : Next' ops dn i o) (hk : (rc i).k = 2) : HD st rc dn ops.size = (st i).H ∧ HD st rc (with1 dn i) ops.size = (rc i).Ho := by
  have hi : i < ops.size := (Array.getElem?_eq_some_iff.1 hn.1).1
  have hlt : ∀ j, j < i → (rc j).k = 2 → dn j = true := acts_down t hd i hn.1 hk fun hb => bef_done t hd hn hb
  have hge : ∀ j, i ≤ j → j < ops.size → (rc j).k = 2 → dn j = false := by
    intro j h4 h5 hkj
    cases hdj : dn j with
    | false => rfl
    | true =>
      have hoj : ops[j]? = some ops[j] := Array.getElem?_eq_getElem h5
      rcases Nat.lt_or_ge i j with h | h
      · have := acts_down t hd j hoj hkj (fun hb => bef_done' t hd hoj hdj hb) i h hk
        rw [hn.2.1] at this; cases this
      · have : j = i := by omega
        rw [this, hn.2.1] at hdj; cases hdj
  constructor
  · rw [HD_none ops.size i (by omega) hge]
    exact HD_all t i (by omega) hlt
  · rw [HD_none (dn := with1 dn i) ops.size (i + 1) (by omega) fun j h1 h2 hkj => by
      have : j ≠ i := by omega
      have hw : with1 dn i j = dn j := by simp [with1, this]
      rw [hw]; exact hge j (by omega) h2 hkj]
    show (if with1 dn i i = true ∧ (rc i).k = 2 then (rc i).Ho else _) = _
    rw [if_pos ⟨by simp [with1], hk⟩]
end
end Go.Proofs.YtogmhgklmjbfaaaGreatDoor.Kv
