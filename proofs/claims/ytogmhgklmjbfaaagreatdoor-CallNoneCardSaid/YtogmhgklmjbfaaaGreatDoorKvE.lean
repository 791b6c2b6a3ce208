/-
  The program's tables, the operands, and the operations that only look or make a block: what the evaluator says of them is what the model does.
-/
import Derived.Test.YtogmhgklmjbfaaaGreatDoorKvC
import Derived.Laws.Sem
import Derived.Laws.Cells
import Derived.Laws.Append
import Derived.Laws.AppendOwn
import Derived.Laws.IdiomCopy
import Derived.Laws.StructEq
import Derived.Laws.Entries
import Derived.Orders
namespace Go.Proofs.YtogmhgklmjbfaaaGreatDoor.Kv

/-- The tables are the program's. -/
structure PTOk (P : Program) (p : PT) : Prop where
  types : ∀ t i, p.types.get t = some i → P.info? t = some i
  funcs : ∀ f fn, p.funcs.get f = some fn → P.funcs[f]? = some fn
  eqs : ∀ t, memN t p.eqs = true → P.stoodInHeld t = false
  names : ∀ (f : Nat) (fn : Func), P.funcs[f]? = some fn → (fn.name == "runtime.NumGoroutine") = false

theorem trOf_get {α : Type} : ∀ (l : List α) (t : Tr α) (i k : Nat), (trOf l t i).get k = if i ≤ k ∧ k < i + l.length then l[k - i]? else t.get k
  | [], t, i, k => by
    show t.get k = _
    rw [if_neg (by rintro ⟨h1, h2⟩; simp at h2; omega)]
  | x :: l, t, i, k => by
    show (trOf l (t.put i (some x)) (i + 1)).get k = _
    rw [trOf_get l, Tr.get_put]
    by_cases h : k = i
    · subst h
      rw [if_neg (by omega), if_pos rfl, if_pos ⟨Nat.le_refl _, by simp⟩]
      simp
    · by_cases h2 : i ≤ k ∧ k < i + (x :: l).length
      · simp at h2
        rw [if_pos (by omega), if_pos (by simp; omega)]
        obtain ⟨m, rfl⟩ : ∃ m, k = i + 1 + m := ⟨k - (i + 1), by omega⟩
        rw [show i + 1 + m - (i + 1) = m by omega, show i + 1 + m - i = m + 1 by omega]
        simp
      · simp at h2
        rw [if_neg (by omega), if_neg h, if_neg (by simp; omega)]

theorem mkPT_ok (P : Program) (masks : List Nat) (glob : Nat) (eqs : List Nat) (he : ∀ t, memN t eqs = true → P.stoodInHeld t = false)
    (hn : ∀ (f : Nat) (fn : Func), P.funcs[f]? = some fn → (fn.name == "runtime.NumGoroutine") = false) : PTOk P (mkPT P masks glob eqs) := by
  refine ⟨fun t i h => ?_, fun f fn h => ?_, he, hn⟩
  · simp only [mkPT, trOf_get] at h
    split at h
    · rename_i hr
      simp only [Nat.zero_add, Nat.sub_zero, Array.getElem?_toList] at h hr
      unfold Tables.info?
      rw [if_pos (by simpa using hr.2)]
      exact h
    · simp at h
  · simp only [mkPT, trOf_get] at h
    split at h
    · simp at h; exact h
    · simp at h

section
variable {P : Program} {p : PT}

theorem PTOk.under (k : PTOk P p) {t : TypeId} {d : TypeDesc} (h : under p t = some d) : P.underlying t = some d := by
  simp only [Kv.under, ob_eq] at h
  obtain ⟨i, hi, h⟩ := h
  have hI := k.types t i hi
  unfold descOf at h
  unfold Program.underlying
  rw [hI]
  split at h
  · rename_i n u e
    simp only [ob_eq] at h
    obtain ⟨j, hj, h⟩ := h
    have hJ := k.types u j hj
    obtain ⟨desc, str, size, bytes, hp, al, fal, zero, comp, methods⟩ := i
    simp only at e
    subst e
    simp [hJ, ← h]
  · rename_i e
    obtain ⟨desc, str, size, bytes, hp, al, fal, zero, comp, methods⟩ := i
    simp only at e h ⊢
    cases desc <;> simp_all

theorem PTOk.size (k : PTOk P p) {t : TypeId} {n : Nat} (h : sizeA p t = some n) : P.cellsOf t = n ∧ ∃ i, P.info? t = some i ∧ i.size = n := by
  simp only [sizeA, ob_eq] at h
  obtain ⟨i, hi, h⟩ := h
  have hI := k.types t i hi
  simp at h
  exact ⟨by simp [Program.cellsOf, hI, h], i, hI, h⟩
theorem PTOk.bytes (k : PTOk P p) {t : TypeId} {n : Nat} (h : bytesA p t = some n) : ∃ i, P.info? t = some i ∧ i.bytes = n := by
  simp only [bytesA, ob_eq] at h
  obtain ⟨i, hi, h⟩ := h
  simp at h
  exact ⟨i, k.types t i hi, h⟩

theorem run_typeInfo_k (w : World) {t : TypeId} {i : TypeInfo} (h : P.info? t = some i) : (typeInfo t).run P w = .ok i w := by simp [typeInfo, h]
theorem run_sizeOf_k (w : World) {t : TypeId} {i : TypeInfo} (h : P.info? t = some i) : (sizeOf t).run P w = .ok i.size w := by simp [sizeOf, run_typeInfo_k w h]
theorem run_zeroValue_k (w : World) {t : TypeId} {i : TypeInfo} {z : Value} (h : P.info? t = some i) (hz : i.zero = some z) : (zeroValue t).run P w = .ok z w := by simp [zeroValue, run_typeInfo_k w h, hz]
theorem run_isAgg_k (w : World) {t : TypeId} {d : TypeDesc} (h : P.underlying t = some d) : (isAgg t).run P w = .ok (isAggD d) w := by
  simp only [isAgg, Sem.run_bind, run_underlying h, Result.andThen_ok]
  cases d <;> rfl
theorem PTOk.runSize (k : PTOk P p) (w : World) {t : TypeId} {n : Nat} (h : sizeA p t = some n) : (sizeOf t).run P w = .ok n w := by
  obtain ⟨_, i, hi, e⟩ := k.size h
  rw [run_sizeOf_k w hi, e]
theorem PTOk.runIsAgg (k : PTOk P p) (w : World) {t : TypeId} {g : Bool} (h : isAggA p t = some g) : (isAgg t).run P w = .ok g w := by
  simp only [isAggA, ob_eq] at h
  obtain ⟨d, hd, h⟩ := h
  simp at h
  rw [run_isAgg_k w (k.under hd), h]

/-! ### constants -/
mutual
theorem ofV_conc (σ : Nat → Value) (ρ : Loc) : ∀ (V : Value) (v : AV), ofV V = some v → conc σ ρ v = some V
  | .bool b, v, h => by simp [ofV] at h; subst h; simp [conc]
  | .int k n, v, h => by simp [ofV] at h; subst h; simp [conc]
  | .float k n, v, h => by simp [ofV] at h; subst h; simp [conc]
  | .complex k a b, v, h => by simp [ofV] at h; subst h; simp [conc]
  | .string s, v, h => by simp [ofV] at h; subst h; simp [conc]
  | .pointer none, v, h => by simp [ofV] at h; subst h; simp [conc]
  | .pointer (some a), v, h => by simp [ofV] at h
  | .slice none 0 0, v, h => by simp [ofV] at h; subst h; simp [conc]
  | .slice none (_ + 1) _, v, h => by simp [ofV] at h
  | .slice none 0 (_ + 1), v, h => by simp [ofV] at h
  | .slice (some a) _ _, v, h => by simp [ofV] at h
  | .map none, v, h => by simp [ofV] at h; subst h; simp [conc]
  | .map (some r), v, h => by simp [ofV] at h
  | .chan _, v, h => by simp [ofV] at h
  | .func _ _ _, v, h => by simp [ofV] at h
  | .nilFunc, v, h => by simp [ofV] at h; subst h; simp [conc]
  | .iface _ _, v, h => by simp [ofV] at h
  | .nilIface, v, h => by simp [ofV] at h; subst h; simp [conc]
  | .agg ⟨l⟩, v, h => by
    simp only [ofV, Option.map_eq_some_iff] at h
    obtain ⟨x, hx, h⟩ := h
    subst h
    simp [conc, ofVs_concs σ ρ l x hx]
  | .tuple ⟨l⟩, v, h => by
    simp only [ofV, Option.map_eq_some_iff] at h
    obtain ⟨x, hx, h⟩ := h
    subst h
    simp [conc, ofVs_concs σ ρ l x hx]
theorem ofVs_concs (σ : Nat → Value) (ρ : Loc) : ∀ (L : List Value) (l : List AV), ofVs L = some l → concs σ ρ l = some L
  | [], l, h => by simp [ofVs] at h; subst h; simp [concs]
  | V :: L, l, h => by
    simp only [ofVs] at h
    split at h
    · cases h
    · rename_i a ha
      simp only [Option.map_eq_some_iff] at h
      obtain ⟨x, hx, h⟩ := h
      subst h
      simp [concs, ofV_conc σ ρ V a ha, ofVs_concs σ ρ L x hx]
end

theorem undefA_conc (σ : Nat → Value) (ρ : Loc) : conc σ ρ undefA = some undef := by simp [undefA, conc, concs, undef]

theorem PTOk.zero (k : PTOk P p) (σ : Nat → Value) (ρ : Loc) {t : TypeId} {z : AV} (h : zeroA p t = some z) : ∃ i Z, P.info? t = some i ∧ i.zero = some Z ∧ ofV Z = some z ∧ conc σ ρ z = some Z := by
  simp only [zeroA, ob_eq] at h
  obtain ⟨i, hi, Z, hZ, h⟩ := h
  exact ⟨i, Z, k.types t i hi, hZ, h, ofV_conc σ ρ Z z h⟩

/-! ### the views -/
section views
variable {β : Type} {r : β}
theorem AV.ptrK_eq {x : AV} {k : Nat → Nat → Option β} : x.ptrK k = some r ↔ ∃ b o, x = .ptr b o ∧ k b o = some r := by
  cases x <;> first | (simp [AV.ptrK]; done) | exact ⟨fun h => ⟨_, _, rfl, h⟩, fun ⟨_, _, e, h⟩ => by cases e; exact h⟩
theorem AV.intK_eq {x : AV} {k : IntKind → Int → Option β} : x.intK k = some r ↔ ∃ i n, x = .int i n ∧ k i n = some r := by
  cases x <;> first | (simp [AV.intK]; done) | exact ⟨fun h => ⟨_, _, rfl, h⟩, fun ⟨_, _, e, h⟩ => by cases e; exact h⟩
theorem AV.strK_eq {x : AV} {k : List UInt8 → Option β} : x.strK k = some r ↔ ∃ s, x = .str s ∧ k s = some r := by cases x <;> simp [AV.strK]
theorem AV.boolK_eq {x : AV} {k : Bool → Option β} : x.boolK k = some r ↔ ∃ b, x = .bool b ∧ k b = some r := by cases x <;> simp [AV.boolK]
theorem AV.aggK_eq {x : AV} {k : List AV → Option β} : x.aggK k = some r ↔ ∃ l, x = .agg l ∧ k l = some r := by cases x <;> simp [AV.aggK]
theorem AV.tupK_eq {x : AV} {k : List AV → Option β} : x.tupK k = some r ↔ ∃ l, x = .tup l ∧ k l = some r := by cases x <;> simp [AV.tupK]
theorem AV.mpK_eq {x : AV} {k : Nat → Option β} : x.mpK k = some r ↔ ∃ b, x = .mp b ∧ k b = some r := by cases x <;> simp [AV.mpK]
theorem AO.cellsK_eq {x : AO} {k : List AV → TypeId → Bool → Bool → Option β} : x.cellsK k = some r ↔ ∃ l e o g, x = .cells l e o g ∧ k l e o g = some r := by
  cases x <;> first | (simp [AO.cellsK]; done) | exact ⟨fun h => ⟨_, _, _, _, rfl, h⟩, fun ⟨_, _, _, _, e, h⟩ => by cases e; exact h⟩
theorem AO.mapK_eq {x : AO} {k : List AE → Nat → Option β} : x.mapK k = some r ↔ ∃ es c, x = .map es c ∧ k es c = some r := by
  cases x <;> first | (simp [AO.mapK]; done) | exact ⟨fun h => ⟨_, _, rfl, h⟩, fun ⟨_, _, e, h⟩ => by cases e; exact h⟩
theorem natK_eq {n : Int} {k : Nat → Option β} : natK n k = some r ↔ ∃ m : Nat, n = m ∧ k m = some r := by
  cases n with
  | ofNat m =>
    show k m = some r ↔ _
    constructor
    · intro h; exact ⟨m, rfl, h⟩
    · rintro ⟨m', e, h⟩
      have : m = m' := Int.ofNat.inj e
      rw [this]; exact h
  | negSucc m =>
    show none = some r ↔ _
    constructor
    · intro h; cases h
    · rintro ⟨m', e, _⟩
      cases e
theorem structK_eq {d : TypeDesc} {k : List Field → Option β} : d.structK k = some r ↔ ∃ fs, d = .struct fs ∧ k fs.toList = some r := by cases d <;> simp [TypeDesc.structK]
theorem sliceK_eq {d : TypeDesc} {k : TypeId → Option β} : d.sliceK k = some r ↔ ∃ e, d = .slice e ∧ k e = some r := by cases d <;> simp [TypeDesc.sliceK]
theorem mapK_eq {d : TypeDesc} {k : TypeId → TypeId → Option β} : d.mapK k = some r ↔ ∃ a b, d = .map a b ∧ k a b = some r := by
  cases d <;> first | (simp [TypeDesc.mapK]; done) | exact ⟨fun h => ⟨_, _, rfl, h⟩, fun ⟨_, _, e, h⟩ => by cases e; exact h⟩
end views

/-! ### operands -/
noncomputable def look (E : Env) (T : Tr AV) (t : Nat) : Option AV := rd E T t some

theorem rd_look {β : Type} (E : Env) (T : Tr AV) (t : Nat) (k : AV → Option β) : rd E T t k = ob (look E T t) k := by
  induction E with
  | nil => show ob (T.get t) k = ob (ob (T.get t) some) k; cases T.get t <;> rfl
  | cons d v E ih =>
    show (Bool.rec (rd E T t k) (k v) (Nat.beq d t) : Option β) = ob (Bool.rec (look E T t) (some v) (Nat.beq d t) : Option AV) k
    cases Nat.beq d t
    · exact ih
    · rfl
theorem look_nil (T : Tr AV) (t : Nat) : look .nil T t = T.get t := by
  show ob (T.get t) some = _
  cases T.get t <;> rfl
theorem look_cons (d : Nat) (v : AV) (E : Env) (T : Tr AV) (t : Nat) : look (.cons d v E) T t = if d = t then some v else look E T t := by
  show (Bool.rec (look E T t) (some v) (Nat.beq d t) : Option AV) = _
  by_cases h : d = t
  · subst h; simp
  · have : Nat.beq d t = false := by
      cases e : Nat.beq d t
      · rfl
      · exact absurd (Nat.eq_of_beq_eq_true e) h
    rw [this, if_neg h]

/-- The package-level variables that the tables speak of lie at their own numbers. -/
def GlobOk (p : PT) (ρ : Loc) : Prop := ∀ g, g < p.glob → ∃ c, ρ g = some (g, c)
theorem GlobOk.le {ρ ρ' : Loc} (g : GlobOk p ρ) (h : LocLe ρ ρ') : GlobOk p ρ' := fun i hi => let ⟨c, e⟩ := g i hi; ⟨c, h _ _ e⟩

/-- What is known of the temporaries. -/
structure ERel (σ : Nat → Value) (ρ : Loc) (m : Nat) (E : Env) (T : Tr AV) (a : Act) : Prop where
  val : ∀ t v, look E T t = some v → ∃ V, a.tmps[t]? = some V ∧ conc σ ρ v = some V
  room : m ≤ a.tmps.size
  defers : a.defers = []

theorem ERel.le {σ : Nat → Value} {ρ ρ' : Loc} {m : Nat} {E : Env} {T : Tr AV} {a : Act} (r : ERel σ ρ m E T a) (h : LocLe ρ ρ') : ERel σ ρ' m E T a :=
  ⟨fun t v e => let ⟨V, h1, h2⟩ := r.val t v e; ⟨V, h1, conc_le h _ _ h2⟩, r.room, r.defers⟩

theorem ERel.put {σ : Nat → Value} {ρ : Loc} {m : Nat} {E : Env} {T : Tr AV} {a : Act} (r : ERel σ ρ m E T a) {d : Nat} (hd : d < m) {v : AV} {V : Value} (hv : conc σ ρ v = some V) :
    ERel σ ρ m (.cons d v E) T (a.put (some d) V) := by
  refine ⟨fun t u e => ?_, by simpa [Act.put] using r.room, by simpa [Act.put] using r.defers⟩
  rw [look_cons] at e
  have hr := r.room
  split at e
  · rename_i h
    subst h
    cases e
    exact ⟨V, by simp [Act.put, Array.getElem?_setIfInBounds, show d < a.tmps.size by omega], hv⟩
  · rename_i h
    obtain ⟨U, h1, h2⟩ := r.val t u e
    exact ⟨U, by simp [Act.put, Array.getElem?_setIfInBounds_ne h, h1], h2⟩

theorem opdK_ok {β : Type} {σ : Nat → Value} {ρ : Loc} {m : Nat} {E : Env} {T : Tr AV} {a : Act} (g : GlobOk p ρ) (r : ERel σ ρ m E T a) {x : Operand} {k : AV → Option β} {res : β}
    (h : opdK p x E T k = some res) : ∃ v, k v = some res ∧ conc σ ρ v = some (a.eval x) := by
  cases x with
  | tmp t =>
    have h : rd E T t k = some res := h
    rw [rd_look, ob_eq] at h
    obtain ⟨v, hv, h⟩ := h
    obtain ⟨V, h1, h2⟩ := r.val t v hv
    exact ⟨v, h, by rw [h2]; simp [Act.eval, h1]⟩
  | const V =>
    have h : ob (ofV V) k = some res := h
    rw [ob_eq] at h
    obtain ⟨v, hv, h⟩ := h
    exact ⟨v, h, ofV_conc σ ρ V v hv⟩
  | global i =>
    have h : chk (Nat.blt i p.glob) (k (.ptr i 0)) = some res := h
    rw [chk_eq] at h
    have hi : i < p.glob := Nat.le_of_ble_eq_true h.1
    obtain ⟨c, e⟩ := g i hi
    exact ⟨_, h.2, by simp [conc, e, Act.eval]⟩
  | func f => exact ⟨_, h, by simp [conc, concs, Act.eval]⟩

/-- many operands -/
theorem opds_ok {σ : Nat → Value} {ρ : Loc} {m : Nat} {E : Env} {T : Tr AV} {a : Act} (g : GlobOk p ρ) (r : ERel σ ρ m E T a) : ∀ {l : List Operand} {L : List AV},
    opds p l E T = some L → concs σ ρ L = some (l.map a.eval)
  | [], L, h => by
    have h : some [] = some L := h
    cases h; rfl
  | x :: l, L, h => by
    have h : ob (opdK p x E T some) (fun y => ob (opds p l E T) fun l => some (y :: l)) = some L := h
    simp only [ob_eq] at h
    obtain ⟨v, hv, L', hL, h⟩ := h
    cases h
    obtain ⟨u, hu, hc⟩ := opdK_ok g r hv
    cases hu
    simp [concs, hc, opds_ok g r hL]

theorem parts_ok {σ : Nat → Value} {ρ : Loc} {m : Nat} {E : Env} {T : Tr AV} {a : Act} (g : GlobOk p ρ) (r : ERel σ ρ m E T a) : ∀ {l : List (Nat × Operand)} {L : List (Nat × AV)},
    parts p l E T = some L → All2 (fun x (y : Nat × Value) => x.1 = y.1 ∧ conc σ ρ x.2 = some y.2) L (l.map fun q => (q.1, a.eval q.2))
  | [], L, h => by
    have h : some [] = some L := h
    cases h; trivial
  | x :: l, L, h => by
    have h : ob (opdK p x.2 E T fun v => some (x.1, v)) (fun y => ob (parts p l E T) fun l => some (y :: l)) = some L := h
    simp only [ob_eq] at h
    obtain ⟨v, hv, L', hL, h⟩ := h
    cases h
    obtain ⟨u, hu, hc⟩ := opdK_ok g r hv
    cases hu
    exact ⟨⟨rfl, hc⟩, parts_ok g r hL⟩

/-! ### what an operation comes to -/

/-- The model's run of an operation comes to what the evaluator says. -/
def OpOk (P : Program) (σ : Nat → Value) (ρ : Loc) (h : HF) (q : Nat) (w : World) (R : Result Next) : OR → Prop
  | .val v H' q' => ∃ ρ' V w', R = .ok (.value V) w' ∧ conc σ ρ' v = some V ∧ Ext ρ h q w ρ' H'.get q' w' ∧ Sim P σ ρ' H'.get w'
  | .skip H' q' => ∃ ρ' w', R = .ok .skip w' ∧ Ext ρ h q w ρ' H'.get q' w' ∧ Sim P σ ρ' H'.get w'
  | .enter f args => ∃ L, (∀ fn, P.funcs[f]? = some fn → fn.body.isSome = true → R = .ok (.enter f L.toArray) w) ∧ concs σ ρ args = some L

def OR.next (q : Nat) : OR → Nat
  | .val _ _ q' => q'
  | .skip _ q' => q'
  | .enter _ _ => q

section
variable {σ : Nat → Value} {ρ : Loc} {H : Hp} {q : Nat} {w : World}
/-- an operation that only looks -/
theorem OpOk.look (s : Sim P σ ρ H.get w) {v : AV} {V : Value} {R : Result Next} (hR : R = .ok (.value V) w) (hv : conc σ ρ v = some V) : OpOk P σ ρ H.get q w R (.val v H q) :=
  ⟨ρ, V, w, hR, hv, .refl _ _ _ _, s⟩

theorem put_get (H : Hp) (b : Nat) (x : Option AO) : (H.put b x).get = fun c => if c = b then x else H.get c := funext fun c => Tr.get_put H b x c

/-- an operation that makes a block -/
theorem OpOk.make (s : Sim P σ ρ H.get w) (hq : ρ q = none) {v : AV} {o : AO} {R : Obj} {cap : Nat} {V : Value} {r : Result Next}
    (ho : ∀ ρ', LocLe ρ ρ' → ρ' q = some (w.heap.size, cap) → ObjRel P σ ρ' cap o R ∧ conc σ ρ' v = some V)
    {w' : World} (hr : r = .ok (.value V) w') (hw : w'.heap = w.heap.push R) (he : w'.os = w.os ∧ w'.output = w.output := by exact ⟨rfl, rfl⟩) : OpOk P σ ρ H.get q w r (.val v (H.put q (some o)) (q + 1)) := by
  obtain ⟨ρ', h1, h2, h3⟩ := s.alloc hq (o := o) (R := R) (cap := cap) fun ρ' a b => (ho ρ' a b).1
  refine ⟨ρ', V, w', hr, (ho ρ' h1.le h3).2, ?_, ?_⟩
  · rw [put_get]; exact Ext.of_heap hw h1 he
  · rw [put_get]; exact Sim.of_heap hw h2
end
end
end Go.Proofs.YtogmhgklmjbfaaaGreatDoor.Kv
