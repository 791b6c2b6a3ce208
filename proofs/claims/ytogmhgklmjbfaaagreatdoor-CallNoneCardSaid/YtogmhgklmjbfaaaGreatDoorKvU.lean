/-
  Regions of drawn order: the static facts, and the record of a region's reckoning.
-/
import Derived.Test.YtogmhgklmjbfaaaGreatDoorKvT
namespace Go.Proofs.YtogmhgklmjbfaaaGreatDoor.Kv

theorem bit_eq (M i : Nat) : bit M i = M.testBit i := by
  rw [Bool.eq_iff_iff]
  unfold bit
  rw [Nat.testBit_eq_decide_div_mod_eq, decide_eq_true_iff, ← Nat.shiftRight_eq_div_pow]
  exact ⟨Nat.eq_of_beq_eq_true, fun h => by rw [show Nat.mod (Nat.shiftRight M i) 2 = 1 from h]; rfl⟩

theorem bindsA_eq (e : Edge) : bindsA e = Region.binds .any e := by
  unfold bindsA Region.binds
  cases e.ground <;> rfl

theorem maskOf_bit {N : Nat} {j : Nat} : ∀ {l : List Edge}, bit (maskOf N l) j = true → ∃ e ∈ l, bindsA e = true ∧ (j = e.on ∨ bit (bef N e.on) j = true)
  | [], h => by
    have h : bit 0 j = true := h
    rw [bit_eq] at h
    simp at h
  | e :: l, h => by
    have h : bit (Bool.rec (maskOf N l) (Nat.lor (Nat.lor (bef N e.on) (Nat.pow 2 e.on)) (maskOf N l)) (bindsA e)) j = true := h
    cases hb : bindsA e with
    | false =>
      rw [hb] at h
      obtain ⟨e', he, h'⟩ := maskOf_bit (l := l) h
      exact ⟨e', by simp [he], h'⟩
    | true =>
      rw [hb] at h
      have h : bit (bef N e.on ||| 2 ^ e.on ||| maskOf N l) j = true := h
      rw [bit_eq, Nat.testBit_or, Nat.testBit_or, Nat.testBit_two_pow, Bool.or_eq_true, Bool.or_eq_true] at h
      rcases h with (h | h) | h
      · exact ⟨e, by simp, hb, .inr (by rw [bit_eq]; exact h)⟩
      · exact ⟨e, by simp, hb, .inl (by simpa using (of_decide_eq_true h).symm)⟩
      · obtain ⟨e', he, h'⟩ := maskOf_bit (l := l) (by rw [bit_eq]; exact h)
        exact ⟨e', by simp [he], h'⟩

theorem allB_mem {α : Type} {f : α → Bool} : ∀ {l : List α}, allB f l = true → ∀ x ∈ l, f x = true
  | [], _, x, hx => by cases hx
  | y :: l, h, x, hx => by
    have h : (Bool.rec false (allB f l) (f y) : Bool) = true := h
    cases e : f y with
    | false => rw [e] at h; cases h
    | true =>
      rw [e] at h
      rcases List.mem_cons.1 hx with rfl | hx
      · exact e
      · exact allB_mem h x hx
theorem allI_get {α : Type} {f : Nat → α → Bool} : ∀ {l : List α} {i0 : Nat}, allI f l i0 = true → ∀ (i : Nat) x, l[i]? = some x → f (i0 + i) x = true
  | [], i0, _, i, x, hx => by simp at hx
  | y :: l, i0, h, i, x, hx => by
    have h : (Bool.rec false (allI f l (i0 + 1)) (f i0 y) : Bool) = true := h
    cases e : f i0 y with
    | false => rw [e] at h; cases h
    | true =>
      rw [e] at h
      cases i with
      | zero => simp at hx; subst hx; exact e
      | succ i =>
        have := allI_get h i x (by simpa using hx)
        rw [show i0 + 1 + i = i0 + (i + 1) by omega] at this
        exact this

section
variable {ops : Array Oper} {N : Nat}

theorem stat_at (h : statOk ops.toList N = true) {i : Nat} {o : Oper} (ho : ops[i]? = some o) : edgesOk N i o.after.toList = true ∧ untied ops.toList N i o = true := by
  have := allI_get h i o (by rw [Array.getElem?_toList]; exact ho)
  rw [Nat.zero_add] at this
  cases e : edgesOk N i o.after.toList with
  | false => rw [e] at this; cases this
  | true => rw [e] at this; exact ⟨rfl, this⟩

theorem edge_lt (h : statOk ops.toList N = true) {i : Nat} {o : Oper} (ho : ops[i]? = some o) {e : Edge} (he : e ∈ o.after) (hb : Region.binds .any e = true) : e.on < i := by
  have := (stat_at h ho).1
  unfold edgesOk at this
  cases hx : allB (fun e => Bool.rec true (Nat.blt e.on i) (bindsA e)) o.after.toList with
  | false => rw [hx] at this; cases this
  | true =>
    have := allB_mem hx e (by simpa using he)
    rw [bindsA_eq, hb] at this
    exact Nat.le_of_ble_eq_true this

theorem bef_bit (h : statOk ops.toList N = true) {i : Nat} {o : Oper} (ho : ops[i]? = some o) {j : Nat} (hj : bit (bef N i) j = true) : ∃ e ∈ o.after, Region.binds .any e = true ∧ (j = e.on ∨ bit (bef N e.on) j = true) := by
  have := (stat_at h ho).1
  unfold edgesOk at this
  cases hx : allB (fun e => Bool.rec true (Nat.blt e.on i) (bindsA e)) o.after.toList with
  | false => rw [hx] at this; cases this
  | true =>
    rw [hx] at this
    have e1 : bef N i ||| maskOf N o.after.toList = maskOf N o.after.toList := Nat.eq_of_beq_eq_true this
    have e2 : bit (maskOf N o.after.toList) j = true := by
      rw [bit_eq, ← e1, Nat.testBit_or, ← bit_eq, hj]; rfl
    obtain ⟨e, he, hb, hr⟩ := maskOf_bit e2
    exact ⟨e, by simpa using he, by rw [← bindsA_eq]; exact hb, hr⟩

/-- what is done is closed under what comes ahead -/
def Down (ops : Array Oper) (D : Nat → Prop) : Prop := ∀ j o, ops[j]? = some o → D j → ∀ e ∈ o.after, Region.binds .any e = true → D e.on

theorem Down.bef {D : Nat → Prop} (hd : Down ops D) (h : statOk ops.toList N = true) : ∀ (i : Nat) {o : Oper}, ops[i]? = some o → (∀ e ∈ o.after, Region.binds .any e = true → D e.on) → ∀ {j : Nat}, bit (Go.Proofs.YtogmhgklmjbfaaaGreatDoor.Kv.bef N i) j = true → D j ∧ j < i := by
  intro i
  induction i using Nat.strongRecOn with
  | _ i ih =>
    intro o ho hr j hj
    obtain ⟨e, he, hb, hc⟩ := bef_bit h ho hj
    have hlt := edge_lt h ho he hb
    rcases hc with rfl | hc
    · exact ⟨hr e he hb, hlt⟩
    · have hlt' : e.on < ops.size := Nat.lt_trans hlt (Array.getElem?_eq_some_iff.1 ho).1
      have ho' : ops[e.on]? = some ops[e.on] := Array.getElem?_eq_getElem hlt'
      have := ih e.on hlt ho' (hd e.on _ ho' (hr e he hb)) hc
      exact ⟨this.1, Nat.lt_trans this.2 hlt⟩

theorem bef_lt (h : statOk ops.toList N = true) {i : Nat} {o : Oper} (ho : ops[i]? = some o) {j : Nat} (hj : bit (Go.Proofs.YtogmhgklmjbfaaaGreatDoor.Kv.bef N i) j = true) : j < i :=
  (Down.bef (D := fun _ => True) (fun _ _ _ _ _ _ _ => trivial) h i ho (fun _ _ _ => trivial) hj).2

theorem clash_bef (h : statOk ops.toList N = true) {i j : Nat} {o x : Oper} (ho : ops[i]? = some o) (hx : ops[j]? = some x) (hji : j < i) (hc : clash ops.toList x o = true) : bit (Go.Proofs.YtogmhgklmjbfaaaGreatDoor.Kv.bef N i) j = true := by
  have := (stat_at h ho).2
  unfold untied at this
  have := allI_get this j x (by rw [Array.getElem?_toList]; exact hx)
  rw [Nat.zero_add, show Nat.blt j i = true from Nat.ble_eq_true_of_le hji] at this
  cases e : bit (Go.Proofs.YtogmhgklmjbfaaaGreatDoor.Kv.bef N i) j with
  | true => rfl
  | false =>
    rw [e] at this
    have this : (!clash ops.toList x o) = true := this
    rw [hc] at this; cases this

theorem dstIn_eq {d : Option Nat} {l : List Nat} {t : Nat} (hd : d = some t) (ht : t ∈ l) : dstIn d l = true := by
  subst hd
  show memN t l = true
  rw [memN_eq]
  simpa using ht
theorem clash_reads {x y : Oper} {t : Nat} (hx : x.dst = some t) (hy : t ∈ looks ops.toList y) : clash ops.toList x y = true := by
  unfold clash
  rw [dstIn_eq hx hy]
theorem clash_both {x y : Oper} {t : Nat} (hx : x.dst = some t) (hy : y.dst = some t) : clash ops.toList x y = true := by
  unfold clash
  cases dstIn x.dst (looks ops.toList y) with
  | true => rfl
  | false => rw [dstIn_eq (l := optL y.dst) hx (by rw [hy]; simp [optL])]
theorem clash_read {x y : Oper} {t : Nat} (hy : y.dst = some t) (hx : t ∈ looks ops.toList x) : clash ops.toList x y = true := by
  unfold clash
  cases dstIn x.dst (looks ops.toList y) with
  | true => rfl
  | false =>
    cases dstIn x.dst (optL y.dst) with
    | true => rfl
    | false => exact dstIn_eq hy hx

theorem tmps_mem {t : Nat} : ∀ {l : List Operand}, Operand.tmp t ∈ l → t ∈ tmps l
  | [], h => by cases h
  | x :: l, h => by
    rcases List.mem_cons.1 h with rfl | h
    · show t ∈ t :: tmps l
      simp
    · have := tmps_mem h
      cases x with
      | tmp u => show t ∈ u :: tmps l; simp [this]
      | const _ => exact this
      | global _ => exact this
      | func _ => exact this
theorem looks_op {o : Oper} {t : Nat} (h : Operand.tmp t ∈ o.op.operands.toList) : t ∈ looks ops.toList o := by
  unfold looks
  rw [app_eq]
  exact List.mem_append_right _ (tmps_mem h)
theorem looks_guard {o x : Oper} {jw : Nat × Bool} {t : Nat} (hg : o.guard = some jw) (hx : ops[jw.1]? = some x) (ht : x.dst = some t) : t ∈ looks ops.toList o := by
  unfold looks
  rw [app_eq]
  refine List.mem_append_left _ ?_
  unfold guardT
  rw [hg]
  show t ∈ (Option.rec (motive := fun _ => List Nat) [] (fun o => optL o.dst) (nth ops.toList jw.1) : List Nat)
  rw [nth_eq, Array.getElem?_toList, hx]
  show t ∈ optL x.dst
  rw [ht]
  simp [optL]
end

/-! ### the record -/
section
variable {p : PT} {rec : Rec} {m N : Nat} {T : Tr AV}
theorem DRun.seq {L l : List Oper} {s s'' : Ds} {tr : List Rc} (h : DRun p rec L m N T l s tr s'') : ∃ (st : Nat → Ds) (rc : Nat → Rc), st 0 = s ∧ st l.length = s'' ∧
    ∀ i o, l[i]? = some o → DStep p rec L m N T o (st i) (rc i) (st (i + 1)) ∧ rc i ∈ tr := by
  induction h with
  | nil s => exact ⟨fun _ => s, fun _ => ⟨0, default, .nil, 0, 0, .nilp, 0, .nil, .nil, .nil⟩, rfl, rfl, fun i o h => by simp at h⟩
  | @cons o l s s' s'' rc tr h1 h2 ih =>
    obtain ⟨st, rcs, e1, e2, e3⟩ := ih
    refine ⟨fun i => match i with
      | 0 => s
      | i + 1 => st i, fun i => match i with
      | 0 => rc
      | i + 1 => rcs i, rfl, e2, fun i o' h => ?_⟩
    cases i with
    | zero =>
      simp at h
      subst h
      refine ⟨?_, by simp⟩
      show DStep p rec L m N T o s rc (st 0)
      rw [e1]; exact h1
    | succ i =>
      have := e3 i o' (by simpa using h)
      exact ⟨this.1, by simp [this.2]⟩
end

/-- everything that a drawn region's proof leans on -/
structure Tab (p : PT) (rec : Rec) (ops : Array Oper) (m N : Nat) (T : Tr AV) (st : Nat → Ds) (rc : Nat → Rc) : Prop where
  stat : statOk ops.toList N = true
  step : ∀ i o, ops[i]? = some o → DStep p rec ops.toList m N T o (st i) (rc i) (st (i + 1))
  pairs : ∀ i j, i < ops.size → j < ops.size → (rc i).k = 2 → pairOk p N T (rc i) (rc j) = true
  i0 : (st 0).i = 0
  E0 : (st 0).E = .nil
  p0 : (st 0).pend = []
  l0 : (st 0).le = 0

section
variable {p : PT} {rec : Rec} {ops : Array Oper} {m N : Nat} {T : Tr AV} {st : Nat → Ds} {rc : Nat → Rc}
theorem Tab.idx (t : Tab p rec ops m N T st rc) : ∀ i, i ≤ ops.size → (st i).i = i
  | 0, _ => t.i0
  | i + 1, h => by
    have ho : ops[i]? = some ops[i] := Array.getElem?_eq_getElem h
    have e := t.idx i (by omega)
    have hs := t.step i _ ho
    generalize st (i + 1) = s', rc i = r at hs
    cases hs <;> simp [e]

/-- what a step leaves -/
theorem Tab.facts (t : Tab p rec ops m N T st rc) {i : Nat} {o : Oper} (ho : ops[i]? = some o) :
    (rc i).i = i ∧ (rc i).o = o ∧ (rc i).E = (st i).E ∧ (rc i).q = (st i).q ∧ (rc i).q' = (st (i + 1)).q ∧ (rc i).Hb = (st i).H ∧ (st i).q ≤ (st (i + 1)).q ∧ (st (i + 1)).E = putE o.dst (rc i).v (st i).E ∧ (∀ d, o.dst = some d → d < m) ∧
      (st (i + 1)).H = (if (rc i).k = 2 then (rc i).Ho else (st i).H) ∧ (st (i + 1)).le = (if (rc i).k = 2 then i + 1 else (st i).le) ∧
      (st (i + 1)).pend = (if (rc i).k = 2 then remain (bef N i) (st i).pend else if (rc i).k = 1 then (i, (st i).q, (rc i).Ho) :: (st i).pend else (st i).pend) := by
  have e := t.idx i (Nat.le_of_lt (Array.getElem?_eq_some_iff.1 ho).1)
  have hs := t.step i o ho
  generalize st (i + 1) = s', rc i = r at hs
  generalize st i = s at hs e
  cases hs <;> simp_all

theorem Tab.le (t : Tab p rec ops m N T st rc) : ∀ i j, i ≤ j → j ≤ ops.size → (st i).q ≤ (st j).q
  | i, 0, h, _ => by cases Nat.le_zero.1 h; exact Nat.le_refl _
  | i, j + 1, h, hj => by
    rcases Nat.lt_or_ge i (j + 1) with h' | h'
    · have ho : ops[j]? = some ops[j] := Array.getElem?_eq_getElem hj
      exact Nat.le_trans (t.le i j (by omega) (by omega)) (t.facts ho).2.2.2.2.2.2.1
    · have : i = j + 1 := by omega
      rw [this]; exact Nat.le_refl _

theorem Tab.apart (t : Tab p rec ops m N T st rc) {i j : Nat} (hi : i < ops.size) (hj : j < ops.size) (hne : i ≠ j) {b : Nat} (h1 : (st i).q ≤ b) (h2 : b < (st (i + 1)).q) (h3 : (st j).q ≤ b) (h4 : b < (st (j + 1)).q) : False := by
  rcases Nat.lt_or_ge i j with h | h
  · have := t.le (i + 1) j h (by omega); omega
  · have := t.le (j + 1) i (by omega) (by omega); omega

/-- blocks made ahead: what is listed -/
theorem mem_remain {M : Nat} {x : Nat × Nat × Hp} : ∀ {l : Pend}, x ∈ remain M l → x ∈ l ∧ bit M x.1 = false
  | [], h => by cases h
  | y :: l, h => by
    have h : x ∈ (Bool.rec (y :: remain M l) (remain M l) (bit M y.1) : Pend) := h
    cases e : bit M y.1 with
    | false =>
      rw [e] at h
      rcases List.mem_cons.1 h with rfl | h
      · exact ⟨by simp, e⟩
      · have := mem_remain h; exact ⟨by simp [this.1], this.2⟩
    | true =>
      rw [e] at h
      have := mem_remain h; exact ⟨by simp [this.1], this.2⟩

theorem Tab.pend (t : Tab p rec ops m N T st rc) : ∀ i, i ≤ ops.size → ∀ x ∈ (st i).pend, x.1 < i ∧ (rc x.1).k = 1 ∧ x.2.1 = (st x.1).q ∧ x.2.2 = (rc x.1).Ho ∧ ∀ j, x.1 < j → j < i → (rc j).k = 2 → bit (bef N j) x.1 = false
  | 0, _, x, hx => by rw [t.p0] at hx; cases hx
  | i + 1, h, x, hx => by
    have ho : ops[i]? = some ops[i] := Array.getElem?_eq_getElem h
    have hf := (t.facts ho).2.2.2.2.2.2.2.2.2.2.2
    rw [hf] at hx
    have old : x ∈ (st i).pend → ((rc i).k = 2 → bit (bef N i) x.1 = false) → x.1 < i + 1 ∧ (rc x.1).k = 1 ∧ x.2.1 = (st x.1).q ∧ x.2.2 = (rc x.1).Ho ∧ ∀ j, x.1 < j → j < i + 1 → (rc j).k = 2 → bit (bef N j) x.1 = false := by
      intro hx hk
      obtain ⟨a1, a2, a3, a4, a5⟩ := t.pend i (by omega) x hx
      refine ⟨by omega, a2, a3, a4, fun j hj hj' hk' => ?_⟩
      rcases Nat.lt_or_ge j i with h1 | h1
      · exact a5 j hj h1 hk'
      · have : j = i := by omega
        subst this; exact hk hk'
    split at hx
    · have := mem_remain hx
      exact old this.1 fun _ => this.2
    · rename_i hk2
      split at hx
      · rename_i hk1
        rcases List.mem_cons.1 hx with rfl | hx
        · exact ⟨by simp, hk1, rfl, rfl, fun j hj hj' _ => by simp at hj; omega⟩
        · exact old hx fun h => absurd h hk2
      · exact old hx fun h => absurd h hk2

theorem merge_some {M : Nat} {b : Nat} {o : AO} {H : Hp} : ∀ {l : Pend}, (merge M l H).get b = some o → H.get b = some o ∨ ∃ x ∈ l, bit M x.1 = true ∧ b = x.2.1 ∧ x.2.2.get b = some o
  | [], h => .inl h
  | y :: l, h => by
    have h : (Bool.rec (merge M l H) ((merge M l H).put y.2.1 (y.2.2.get y.2.1)) (bit M y.1) : Hp).get b = some o := h
    cases e : bit M y.1 with
    | false =>
      rw [e] at h
      rcases merge_some h with h | ⟨x, hx, h'⟩
      · exact .inl h
      · exact .inr ⟨x, by simp [hx], h'⟩
    | true =>
      rw [e] at h
      have h : ((merge M l H).put y.2.1 (y.2.2.get y.2.1)).get b = some o := h
      rw [Tr.get_put] at h
      split at h
      · rename_i hb
        exact .inr ⟨y, by simp, e, hb, by rw [hb]; exact h⟩
      · rcases merge_some h with h | ⟨x, hx, h'⟩
        · exact .inl h
        · exact .inr ⟨x, by simp [hx], h'⟩
theorem mergeAll_some {b : Nat} {o : AO} {H : Hp} : ∀ {l : Pend}, (mergeAll l H).get b = some o → H.get b = some o ∨ ∃ x ∈ l, b = x.2.1 ∧ x.2.2.get b = some o
  | [], h => .inl h
  | y :: l, h => by
    have h : ((mergeAll l H).put y.2.1 (y.2.2.get y.2.1)).get b = some o := h
    rw [Tr.get_put] at h
    split at h
    · rename_i hb
      exact .inr ⟨y, by simp, hb, by rw [hb]; exact h⟩
    · rcases mergeAll_some h with h | ⟨x, hx, h'⟩
      · exact .inl h
      · exact .inr ⟨x, by simp [hx], h'⟩
end
end Go.Proofs.YtogmhgklmjbfaaaGreatDoor.Kv
