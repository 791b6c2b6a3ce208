/-
  What an abstract value stands for, when an abstract heap stands for a world's, and how both go on: a step keeps what the abstract heap does not name.
-/
import Derived.Test.YtogmhgklmjbfaaaGreatDoorKvB
namespace Go.Proofs.YtogmhgklmjbfaaaGreatDoor.Kv

/-- Where an abstract block lies: its number, and for an open one how many elements it has room for. -/
abbrev Loc := Nat → Option (Nat × Nat)

mutual
def conc (σ : Nat → Value) (ρ : Loc) : AV → Option Value
  | .bool b => some (.bool b)
  | .int k n => some (.int k n)
  | .flt k n => some (.float k n)
  | .cx k a b => some (.complex k a b)
  | .str s => some (.string ⟨s.toArray⟩)
  | .nilp => some (.pointer none)
  | .ptr b o => (ρ b).map fun x => .pointer (some ⟨x.1, o, none⟩)
  | .nils => some (.slice none 0 0)
  | .slc b o n c => (ρ b).map fun x => .slice (some ⟨x.1, o, none⟩) n c
  | .slo b o n sk => (ρ b).bind fun x => if n + sk ≤ x.2 then some (.slice (some ⟨x.1, o, none⟩) n (x.2 - sk)) else none
  | .nilm => some (.map none)
  | .mp b => (ρ b).map fun x => .map (some x.1)
  | .fn f a c => (concs σ ρ a).bind fun a => (concs σ ρ c).map fun c => .func f a.toArray c.toArray
  | .nilf => some .nilFunc
  | .nili => some .nilIface
  | .ifc t v => (conc σ ρ v).map (.iface t)
  | .agg l => (concs σ ρ l).map fun l => .agg l.toArray
  | .tup l => (concs σ ρ l).map fun l => .tuple l.toArray
  | .raw i => some (σ i)
def concs (σ : Nat → Value) (ρ : Loc) : List AV → Option (List Value)
  | [] => some []
  | v :: l => (conc σ ρ v).bind fun v => (concs σ ρ l).map (v :: ·)
end

/-- What comes in unseen is the value of one cell. -/
def Plain (σ : Nat → Value) : Prop := ∀ i, (∀ cs, σ i ≠ .agg cs) ∧ ∀ cs, σ i ≠ .tuple cs

section
variable {σ : Nat → Value} {ρ ρ' : Loc}

def LocLe (ρ ρ' : Loc) : Prop := ∀ b x, ρ b = some x → ρ' b = some x

theorem LocLe.refl (ρ : Loc) : LocLe ρ ρ := fun _ _ h => h
theorem LocLe.trans {ρ1 ρ2 ρ3 : Loc} (h : LocLe ρ1 ρ2) (h' : LocLe ρ2 ρ3) : LocLe ρ1 ρ3 := fun b x e => h' b x (h b x e)

mutual
theorem conc_le (h : LocLe ρ ρ') : ∀ (v : AV) (V : Value), conc σ ρ v = some V → conc σ ρ' v = some V
  | .bool _, _, e | .int _ _, _, e | .flt _ _, _, e | .cx _ _ _, _, e | .str _, _, e | .nilp, _, e | .nils, _, e | .nilm, _, e | .nilf, _, e | .nili, _, e | .raw _, _, e => by
    simp only [conc] at e ⊢; exact e
  | .ptr b o, _, e | .slc b o _ _, _, e | .mp b, _, e => by
    simp only [conc, Option.map_eq_some_iff] at e ⊢
    obtain ⟨x, hx, e⟩ := e
    exact ⟨x, h b x hx, e⟩
  | .slo b o _ _, _, e => by
    simp only [conc, Option.bind_eq_some_iff] at e ⊢
    obtain ⟨x, hx, e⟩ := e
    exact ⟨x, h b x hx, e⟩
  | .fn f a c, _, e => by
    simp only [conc, Option.bind_eq_some_iff, Option.map_eq_some_iff] at e ⊢
    obtain ⟨x, hx, y, hy, e⟩ := e
    exact ⟨x, concs_le h a x hx, y, concs_le h c y hy, e⟩
  | .ifc t v, _, e => by
    simp only [conc, Option.map_eq_some_iff] at e ⊢
    obtain ⟨x, hx, e⟩ := e
    exact ⟨x, conc_le h v x hx, e⟩
  | .agg l, _, e | .tup l, _, e => by
    simp only [conc, Option.map_eq_some_iff] at e ⊢
    obtain ⟨x, hx, e⟩ := e
    exact ⟨x, concs_le h l x hx, e⟩
theorem concs_le (h : LocLe ρ ρ') : ∀ (l : List AV) (L : List Value), concs σ ρ l = some L → concs σ ρ' l = some L
  | [], _, e => e
  | v :: l, _, e => by
    simp only [concs, Option.bind_eq_some_iff, Option.map_eq_some_iff] at e ⊢
    obtain ⟨x, hx, y, hy, e⟩ := e
    exact ⟨x, conc_le h v x hx, y, concs_le h l y hy, e⟩
end

theorem concs_all : ∀ (l : List AV) (L : List Value), concs σ ρ l = some L ↔ All2 (fun v V => conc σ ρ v = some V) l L
  | [], L => by cases L <;> simp [concs, All2]
  | v :: l, L => by
    simp only [concs, Option.bind_eq_some_iff, Option.map_eq_some_iff]
    cases L with
    | nil => simp [All2]
    | cons V L =>
      simp only [All2, ← concs_all l L]
      constructor
      · rintro ⟨x, hx, y, hy, e⟩
        cases e
        exact ⟨hx, hy⟩
      · rintro ⟨h1, h2⟩
        exact ⟨V, h1, L, h2, rfl⟩

theorem All2.length {α β : Type} {R : α → β → Prop} : ∀ {l : List α} {r : List β}, All2 R l r → l.length = r.length
  | [], [], _ => rfl
  | _ :: _, _ :: _, h => by simp [All2.length h.2]
  | [], _ :: _, h => h.elim
  | _ :: _, [], h => h.elim
theorem All2.get {α β : Type} {R : α → β → Prop} : ∀ {l : List α} {r : List β}, All2 R l r → ∀ {i : Nat} {x : α}, l[i]? = some x → ∃ y, r[i]? = some y ∧ R x y
  | [], [], _, i, x, h => by simp at h
  | a :: l, b :: r, h, 0, x, e => by simp at e; subst e; exact ⟨b, rfl, h.1⟩
  | a :: l, b :: r, h, i + 1, x, e => by
    obtain ⟨y, hy, hr⟩ := All2.get h.2 (i := i) (x := x) (by simpa using e)
    exact ⟨y, by simpa using hy, hr⟩
  | [], _ :: _, h, _, _, _ => h.elim
  | _ :: _, [], h, _, _, _ => h.elim
theorem All2.of_get {α β : Type} {R : α → β → Prop} : ∀ {l : List α} {r : List β}, l.length = r.length → (∀ (i : Nat) (x : α) (y : β), l[i]? = some x → r[i]? = some y → R x y) → All2 R l r
  | [], [], _, _ => trivial
  | a :: l, b :: r, h, f => ⟨f 0 a b rfl rfl, All2.of_get (by simpa using h) fun i x y hx hy => f (i + 1) x y (by simpa using hx) (by simpa using hy)⟩
  | [], _ :: _, h, _ => by simp at h
  | _ :: _, [], h, _ => by simp at h
theorem All2.mono {α β : Type} {R S : α → β → Prop} (hs : ∀ x y, R x y → S x y) : ∀ {l : List α} {r : List β}, All2 R l r → All2 S l r
  | [], [], _ => trivial
  | _ :: _, _ :: _, h => ⟨hs _ _ h.1, All2.mono hs h.2⟩
  | [], _ :: _, h => h.elim
  | _ :: _, [], h => h.elim
theorem All2.append {α β : Type} {R : α → β → Prop} : ∀ {l : List α} {r : List β} {l' : List α} {r' : List β}, All2 R l r → All2 R l' r' → All2 R (l ++ l') (r ++ r')
  | [], [], _, _, _, h => h
  | _ :: _, _ :: _, _, _, h, h' => ⟨h.1, All2.append h.2 h'⟩
  | [], _ :: _, _, _, h, _ => h.elim
  | _ :: _, [], _, _, h, _ => h.elim
theorem All2.take {α β : Type} {R : α → β → Prop} : ∀ {l : List α} {r : List β} (n : Nat), All2 R l r → All2 R (l.take n) (r.take n)
  | _, _, 0, _ => by simp [All2]
  | [], [], _ + 1, _ => trivial
  | _ :: _, _ :: _, n + 1, h => ⟨h.1, All2.take n h.2⟩
  | [], _ :: _, _ + 1, h => h.elim
  | _ :: _, [], _ + 1, h => h.elim
theorem All2.drop {α β : Type} {R : α → β → Prop} : ∀ {l : List α} {r : List β} (n : Nat), All2 R l r → All2 R (l.drop n) (r.drop n)
  | _, _, 0, h => h
  | [], [], _ + 1, _ => trivial
  | _ :: _, _ :: _, n + 1, h => All2.drop n h.2
  | [], _ :: _, _ + 1, h => h.elim
  | _ :: _, [], _ + 1, h => h.elim

/-- an entry of a map -/
def EntRel (σ : Nat → Value) (ρ : Loc) (e : AE) (E : MapEntry) : Prop := conc σ ρ e.key = some E.key ∧ conc σ ρ e.val = some E.val ∧ e.born = E.born

/-- what an abstract object says of the one at its place -/
def ObjRel (P : Program) (σ : Nat → Value) (ρ : Loc) (cap : Nat) : AO → Obj → Prop
  | .cells l e opn strg, R => ∃ (c : Array Value) (fr : Nat × Nat), R = .cells c e fr ∧ l.length ≤ c.size ∧ (opn = false → c.size = l.length) ∧ (opn = true → c.size = cap * P.cellsOf e) ∧
      (∀ (i : Nat) (v : AV), l[i]? = some v → ∃ V, c[i]? = some V ∧ conc σ ρ v = some V) ∧ fr = (if strg then (c.size, c.size + 1) else (0, 0))
  | .map es clock, R => ∃ E : Array MapEntry, R = .map E clock ∧ All2 (EntRel σ ρ) es E.toList
  | .miter m since seen stepped, R => ∃ M : Option Nat, R = .mapIter M since seen.toArray stepped ∧ (match m with
      | none => M = none
      | some b => ∃ x, ρ b = some x ∧ M = some x.1)

theorem EntRel.le (h : LocLe ρ ρ') {e : AE} {E : MapEntry} (r : EntRel σ ρ e E) : EntRel σ ρ' e E := ⟨conc_le h _ _ r.1, conc_le h _ _ r.2.1, r.2.2⟩

theorem ObjRel.le {P : Program} (h : LocLe ρ ρ') {cap : Nat} {o : AO} {R : Obj} (r : ObjRel P σ ρ cap o R) : ObjRel P σ ρ' cap o R := by
  cases o with
  | cells l e opn strg =>
    obtain ⟨c, fr, h1, h2, h3, h4, h5, h6⟩ := r
    exact ⟨c, fr, h1, h2, h3, h4, fun i v hv => let ⟨V, a, b⟩ := h5 i v hv; ⟨V, a, conc_le h _ _ b⟩, h6⟩
  | map es clock =>
    obtain ⟨E, h1, h2⟩ := r
    exact ⟨E, h1, All2.mono (fun _ _ => EntRel.le h) h2⟩
  | miter m since seen stepped =>
    obtain ⟨M, h1, h2⟩ := r
    refine ⟨M, h1, ?_⟩
    cases m with
    | none => exact h2
    | some b => obtain ⟨x, hx, e⟩ := h2; exact ⟨x, h b x hx, e⟩
end

/-- An abstract heap, as a function of the names. -/
abbrev HF := Nat → Option AO

/-- The abstract heap stands for the world's. -/
structure Sim (P : Program) (σ : Nat → Value) (ρ : Loc) (h : HF) (w : World) : Prop where
  obj : ∀ b o, h b = some o → ∃ x R, ρ b = some x ∧ w.heap[x.1]? = some R ∧ ObjRel P σ ρ x.2 o R
  inj : ∀ b b' x x', h b ≠ none → h b' ≠ none → ρ b = some x → ρ b' = some x' → x.1 = x'.1 → b = b'
  lt : ∀ b x, ρ b = some x → x.1 < w.heap.size

/-- No name from q on, below q', is placed. -/
def Fresh (ρ : Loc) (q q' : Nat) : Prop := ∀ b, q ≤ b → b < q' → ρ b = none

/-- How a step goes on. -/
structure Ext (ρ : Loc) (h : HF) (q : Nat) (w : World) (ρ' : Loc) (h' : HF) (q' : Nat) (w' : World) : Prop where
  le : LocLe ρ ρ'
  new : ∀ b x, ρ' b = some x → ρ b = some x ∨ (q ≤ b ∧ b < q' ∧ (w.heap.size ≤ x.1 ∨ ∃ b0 x0, h b0 ≠ none ∧ ρ b0 = some x0 ∧ x0.1 = x.1))
  alive : ∀ b, h' b ≠ none → h b ≠ none ∨ (q ≤ b ∧ b < q')
  qle : q ≤ q'
  size : w.heap.size ≤ w'.heap.size
  frame : ∀ r, r < w.heap.size → (∀ b x, h b ≠ none → ρ b = some x → x.1 ≠ r) → w'.heap[r]? = w.heap[r]?
  env : w'.os = w.os ∧ w'.output = w.output

section
variable {P : Program} {σ : Nat → Value} {ρ ρ1 ρ2 : Loc} {h h1 h2 : HF} {q q1 q2 : Nat} {w w1 w2 : World}

theorem Ext.refl (ρ : Loc) (h : HF) (q : Nat) (w : World) : Ext ρ h q w ρ h q w :=
  ⟨.refl ρ, fun _ _ e => .inl e, fun _ e => .inl e, Nat.le_refl _, Nat.le_refl _, fun _ _ _ => rfl, rfl, rfl⟩

theorem Sim.located (s : Sim P σ ρ h w) {b : Nat} (e : h b ≠ none) : ∃ x, ρ b = some x := by
  cases ho : h b with
  | none => exact absurd ho e
  | some o => obtain ⟨x, R, hx, _⟩ := s.obj b o ho; exact ⟨x, hx⟩

theorem Ext.trans (s : Sim P σ ρ h w) (fr : Fresh ρ q q2) (a : Ext ρ h q w ρ1 h1 q1 w1) (c : Ext ρ1 h1 q1 w1 ρ2 h2 q2 w2) : Ext ρ h q w ρ2 h2 q2 w2 := by
  have back : ∀ b0 x0, h1 b0 ≠ none → ρ1 b0 = some x0 → w.heap.size ≤ x0.1 ∨ ∃ b x, h b ≠ none ∧ ρ b = some x ∧ x.1 = x0.1 := by
    intro b0 x0 hb hx
    rcases a.new b0 x0 hx with e | ⟨_, _, e | e⟩
    · rcases a.alive b0 hb with e' | ⟨h3, h4⟩
      · exact .inr ⟨b0, x0, e', e, rfl⟩
      · have := fr b0 h3 (Nat.lt_of_lt_of_le h4 c.qle)
        rw [this] at e; cases e
    · exact .inl e
    · exact .inr e
  refine ⟨a.le.trans c.le, ?_, ?_, Nat.le_trans a.qle c.qle, Nat.le_trans a.size c.size, ?_, c.env.1.trans a.env.1, c.env.2.trans a.env.2⟩
  · intro b x hx
    rcases c.new b x hx with e | ⟨h3, h4, e⟩
    · rcases a.new b x e with e' | ⟨h5, h6, e'⟩
      · exact .inl e'
      · exact .inr ⟨h5, Nat.lt_of_lt_of_le h6 c.qle, e'⟩
    · refine .inr ⟨Nat.le_trans a.qle h3, h4, ?_⟩
      rcases e with e | ⟨b0, x0, hb, hx0, e⟩
      · exact .inl (Nat.le_trans a.size e)
      · rw [← e]; exact back b0 x0 hb hx0
  · intro b hb
    rcases c.alive b hb with e | ⟨h3, h4⟩
    · rcases a.alive b e with e' | ⟨h5, h6⟩
      · exact .inl e'
      · exact .inr ⟨h5, Nat.lt_of_lt_of_le h6 c.qle⟩
    · exact .inr ⟨Nat.le_trans a.qle h3, h4⟩
  · intro r hr hn
    rw [c.frame r (Nat.lt_of_lt_of_le hr a.size), a.frame r hr hn]
    intro b x hb hx e
    rcases back b x hb hx with e' | ⟨b', x', hb', hx', e'⟩
    · omega
    · exact hn b' x' hb' hx' (e'.trans e)

theorem Fresh.left (f : Fresh ρ q q2) (h : q1 ≤ q2) : Fresh ρ q q1 := fun b h1 h2 => f b h1 (Nat.lt_of_lt_of_le h2 h)
theorem Fresh.after (f : Fresh ρ q q2) (a : Ext ρ h q w ρ1 h1 q1 w1) : Fresh ρ1 q1 q2 := by
  intro b h3 h4
  cases hb : ρ1 b with
  | none => rfl
  | some x =>
    rcases a.new b x hb with e | ⟨_, h6, _⟩
    · rw [f b (Nat.le_trans a.qle h3) h4] at e; cases e
    · omega

/-- A smaller heap is stood for as well. -/
theorem Sim.sub (s : Sim P σ ρ h w) (hs : ∀ b o, h1 b = some o → h b = some o) : Sim P σ ρ h1 w := by
  have up : ∀ b, h1 b ≠ none → h b ≠ none := by
    intro b hb
    cases e : h1 b with
    | none => exact absurd e hb
    | some o => rw [hs b o e]; simp
  exact ⟨fun b o ho => s.obj b o (hs b o ho), fun b b' x x' hb hb' => s.inj b b' x x' (up b hb) (up b' hb'), s.lt⟩

/-- The heap of a world alone counts. -/
theorem Sim.of_heap {w' : World} (e : w'.heap = w.heap) (s : Sim P σ ρ h w) : Sim P σ ρ h w' :=
  ⟨fun b o ho => by rw [e]; exact s.obj b o ho, s.inj, fun b x hx => by rw [e]; exact s.lt b x hx⟩
theorem Ext.of_heap {w' : World} (e : w'.heap = w1.heap) (s : Ext ρ h q w ρ1 h1 q1 w1) (he : w'.os = w1.os ∧ w'.output = w1.output := by exact ⟨rfl, rfl⟩) : Ext ρ h q w ρ1 h1 q1 w' :=
  ⟨s.le, s.new, s.alive, s.qle, by rw [e]; exact s.size, fun r hr hn => by rw [e]; exact s.frame r hr hn, he.1.trans s.env.1, he.2.trans s.env.2⟩
theorem Ext.from_heap {w' : World} (e : w'.heap = w.heap) (s : Ext ρ h q w ρ1 h1 q1 w1) (he : w'.os = w.os ∧ w'.output = w.output := by exact ⟨rfl, rfl⟩) : Ext ρ h q w' ρ1 h1 q1 w1 :=
  ⟨s.le, by rw [e]; exact s.new, s.alive, s.qle, by rw [e]; exact s.size, by rw [e]; exact s.frame, s.env.1.trans he.1.symm, s.env.2.trans he.2.symm⟩

/-! ### the three moves: a new block, an old one written, a name that moves on -/

/-- A new block. -/
theorem Sim.alloc (s : Sim P σ ρ h w) (hq : ρ q = none) {o : AO} {R : Obj} {cap : Nat}
    (hr : ∀ ρ', LocLe ρ ρ' → ρ' q = some (w.heap.size, cap) → ObjRel P σ ρ' cap o R) :
    ∃ ρ', Ext ρ h q w ρ' (fun b => if b = q then some o else h b) (q + 1) { w with heap := w.heap.push R } ∧ Sim P σ ρ' (fun b => if b = q then some o else h b) { w with heap := w.heap.push R } ∧ ρ' q = some (w.heap.size, cap) := by
  have le : LocLe ρ (fun b => if b = q then some (w.heap.size, cap) else ρ b) := by
    intro b x hx
    by_cases e : b = q
    · subst e; rw [hq] at hx; cases hx
    · simp [e, hx]
  refine ⟨fun b => if b = q then some (w.heap.size, cap) else ρ b, ⟨le, ?_, ?_, by omega, by simp, ?_, rfl, rfl⟩, ⟨?_, ?_, ?_⟩, by simp⟩
  · intro b x hx
    by_cases e : b = q
    · subst e
      simp at hx
      exact .inr ⟨Nat.le_refl _, by omega, .inl (by rw [← hx]; exact Nat.le_refl _)⟩
    · simp [e] at hx
      exact .inl hx
  · intro b hb
    by_cases e : b = q
    · subst e; exact .inr ⟨Nat.le_refl _, by omega⟩
    · simp [e] at hb; exact .inl hb
  · intro r hr' _
    simp [Array.getElem?_push, Nat.ne_of_lt hr']
  · intro b o' ho
    by_cases e : b = q
    · subst e
      simp at ho
      subst ho
      exact ⟨(w.heap.size, cap), R, by simp, by simp, hr _ le (by simp)⟩
    · simp [e] at ho
      obtain ⟨x, R', hx, hR, ho'⟩ := s.obj b o' ho
      refine ⟨x, R', by simp [e, hx], ?_, ho'.le le⟩
      have := s.lt b x hx
      simp [Array.getElem?_push, Nat.ne_of_lt this, hR]
  · intro b b' x x' hb hb' hx hx' ee
    by_cases e : b = q
    · by_cases e' : b' = q
      · rw [e, e']
      · simp [e] at hx
        simp [e'] at hx'
        have := s.lt b' x' hx'
        rw [← hx] at ee
        simp at ee
        omega
    · by_cases e' : b' = q
      · simp [e] at hx
        simp [e'] at hx'
        have := s.lt b x hx
        rw [← hx'] at ee
        simp at ee
        omega
      · simp [e] at hx hb
        simp [e'] at hx' hb'
        exact s.inj b b' x x' hb hb' hx hx' ee
  · intro b x hx
    by_cases e : b = q
    · simp [e] at hx
      rw [← hx]; simp
    · simp [e] at hx
      have := s.lt b x hx
      simp; omega

/-- An old block is written; its name stays. -/
theorem Sim.write (s : Sim P σ ρ h w) {b : Nat} {x : Nat × Nat} {o : AO} {R : Obj} (hb : h b ≠ none) (hx : ρ b = some x) (hr : ObjRel P σ ρ x.2 o R)
    {w' : World} (hw : w'.heap = w.heap.setIfInBounds x.1 R) (he : w'.os = w.os ∧ w'.output = w.output := by exact ⟨rfl, rfl⟩) :
    Ext ρ h q w ρ (fun c => if c = b then some o else h c) q w' ∧ Sim P σ ρ (fun c => if c = b then some o else h c) w' := by
  have hlt := s.lt b x hx
  refine ⟨⟨.refl ρ, fun _ _ e => .inl e, ?_, Nat.le_refl _, by rw [hw]; simp, ?_, he.1, he.2⟩, ⟨?_, ?_, ?_⟩⟩
  · intro c hc
    by_cases e : c = b
    · subst e; exact .inl hb
    · simp [e] at hc; exact .inl hc
  · intro r hr' hn
    have := hn b x hb hx
    rw [hw, Array.getElem?_setIfInBounds_ne this]
  · intro c o' ho
    by_cases e : c = b
    · subst e
      simp at ho
      subst ho
      exact ⟨x, R, hx, by rw [hw]; simp [hlt], hr⟩
    · simp [e] at ho
      obtain ⟨y, R', hy, hR, ho'⟩ := s.obj c o' ho
      refine ⟨y, R', hy, ?_, ho'⟩
      have : x.1 ≠ y.1 := fun ee => e (s.inj c b y x (by rw [ho]; simp) hb hy hx ee.symm)
      rw [hw, Array.getElem?_setIfInBounds_ne this, hR]
  · intro c c' y y' hc hc' hy hy' ee
    have up : ∀ c, (if c = b then some o else h c) ≠ none → h c ≠ none := by
      intro c hc
      by_cases e : c = b
      · rw [e]; exact hb
      · simp [e] at hc; exact hc
    exact s.inj c c' y y' (up c hc) (up c' hc') hy hy' ee
  · intro c y hy
    rw [hw]; simp
    exact s.lt c y hy

/-- An old block is written, and goes on under a new name. -/
theorem Sim.rename (s : Sim P σ ρ h w) (hq : ρ q = none) {b : Nat} {x : Nat × Nat} {o : AO} {R : Obj} (hb : h b ≠ none) (hx : ρ b = some x)
    (hr : ∀ ρ', LocLe ρ ρ' → ρ' q = some x → ObjRel P σ ρ' x.2 o R) {w' : World} (hw : w'.heap = w.heap.setIfInBounds x.1 R) (he : w'.os = w.os ∧ w'.output = w.output := by exact ⟨rfl, rfl⟩) :
    ∃ ρ', Ext ρ h q w ρ' (fun c => if c = q then some o else if c = b then none else h c) (q + 1) w' ∧ Sim P σ ρ' (fun c => if c = q then some o else if c = b then none else h c) w' ∧ ρ' q = some x := by
  have hlt := s.lt b x hx
  have hbq : b ≠ q := fun e => by rw [e, hq] at hx; cases hx
  have le : LocLe ρ (fun c => if c = q then some x else ρ c) := by
    intro c y hy
    by_cases e : c = q
    · subst e; rw [hq] at hy; cases hy
    · simp [e, hy]
  refine ⟨fun c => if c = q then some x else ρ c, ⟨le, ?_, ?_, by omega, by rw [hw]; simp, ?_, he.1, he.2⟩, ⟨?_, ?_, ?_⟩, by simp⟩
  · intro c y hy
    by_cases e : c = q
    · subst e
      simp at hy
      exact .inr ⟨Nat.le_refl _, by omega, .inr ⟨b, x, hb, hx, by rw [hy]⟩⟩
    · simp [e] at hy
      exact .inl hy
  · intro c hc
    by_cases e : c = q
    · subst e; exact .inr ⟨Nat.le_refl _, by omega⟩
    · by_cases e' : c = b
      · simp [e, e'] at hc
        exact absurd hc hbq
      · simp [e, e'] at hc; exact .inl hc
  · intro r hr' hn
    have := hn b x hb hx
    rw [hw, Array.getElem?_setIfInBounds_ne this]
  · intro c o' ho
    by_cases e : c = q
    · subst e
      simp at ho
      subst ho
      exact ⟨x, R, by simp, by rw [hw]; simp [hlt], hr _ le (by simp)⟩
    · by_cases e' : c = b
      · simp [e, e'] at ho
        exact absurd ho.1 hbq
      · simp [e, e'] at ho
        obtain ⟨y, R', hy, hR, ho'⟩ := s.obj c o' ho
        refine ⟨y, R', by simp [e, hy], ?_, ho'.le le⟩
        have : x.1 ≠ y.1 := fun ee => e' (s.inj c b y x (by rw [ho]; simp) hb hy hx ee.symm)
        rw [hw, Array.getElem?_setIfInBounds_ne this, hR]
  · intro c c' y y' hc hc' hy hy' ee
    by_cases e : c = q
    · by_cases e' : c' = q
      · rw [e, e']
      · by_cases e'' : c' = b
        · simp [e', e''] at hc'
          exact absurd hc' hbq
        · simp [e] at hy
          simp [e'] at hy'
          simp [e', e''] at hc'
          exact absurd (s.inj c' b y' x hc' hb hy' hx (by rw [hy, ee])) e''
    · by_cases e' : c' = q
      · by_cases e'' : c = b
        · simp [e, e''] at hc
          exact absurd hc hbq
        · simp [e] at hy
          simp [e'] at hy'
          simp [e, e''] at hc
          exact absurd (s.inj c b y x hc hb hy hx (by rw [hy', ee])) e''
      · by_cases f : c = b
        · simp [e, f] at hc; exact absurd hc hbq
        · by_cases f' : c' = b
          · simp [e', f'] at hc'; exact absurd hc' hbq
          · simp [e] at hy
            simp [e'] at hy'
            simp [e, f] at hc
            simp [e', f'] at hc'
            exact s.inj c c' y y' hc hc' hy hy' ee
  · intro c y hy
    rw [hw]; simp
    by_cases e : c = q
    · simp [e] at hy
      rw [← hy]; exact hlt
    · simp [e] at hy
      exact s.lt c y hy
end
end Go.Proofs.YtogmhgklmjbfaaaGreatDoor.Kv
