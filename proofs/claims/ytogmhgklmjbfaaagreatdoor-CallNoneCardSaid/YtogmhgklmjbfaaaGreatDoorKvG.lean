/-
  Operations that only look, one by one.
-/
import Derived.Test.YtogmhgklmjbfaaaGreatDoorKvF
namespace Go.Proofs.YtogmhgklmjbfaaaGreatDoor.Kv
section
variable {P : Program} {p : PT} {σ : Nat → Value} {ρ : Loc} {H : Hp} {q : Nat} {w : World}

theorem conc_int (k : IntKind) (n : Int) : conc σ ρ (.int k n) = some (.int k n) := by simp [conc]
theorem conc_bool (b : Bool) : conc σ ρ (.bool b) = some (.bool b) := by simp [conc]
theorem conc_str (l : List UInt8) : conc σ ρ (.str l) = some (.string ⟨l.toArray⟩) := by simp [conc]

/-! ### the guard of == -/
noncomputable def gLoop (d : Nat) (xs ys : Array Value) : List Field → Sem Bool
  | [] => pure false
  | f :: fs =>
    if f.name ≠ "_" then do
      let a ← part f.type xs f.offset
      let b ← part f.type ys f.offset
      let r ← Op.eqGuardIn d f.type a b
      if r = true then pure true else gLoop d xs ys fs
    else gLoop d xs ys fs

theorem run_eqGuardIn_struct (w : World) (d : Nat) (t : TypeId) (xs ys : Array Value) (fs : Array Field) (ht : P.underlying t = some (.struct fs)) :
    (Op.eqGuardIn (d + 1) t (.agg xs) (.agg ys)).run P w = (gLoop d xs ys fs.toList).run P w := by
  simp only [Op.eqGuardIn, Sem.run_bind, run_underlying ht, Result.andThen_ok]
  rw [← Array.forIn_toList]
  generalize fs.toList = fs
  clear ht
  induction fs generalizing w with
  | nil => simp [gLoop]
  | cons f fs ih =>
    simp only [List.forIn_cons, gLoop, Sem.run_bind, Sem.run_ite]
    split
    · generalize (part f.type xs f.offset).run P w = r1
      cases r1 with
      | ok a w1 =>
        simp only [Result.andThen_ok]
        generalize (part f.type ys f.offset).run P w1 = r2
        cases r2 with
        | ok b w2 =>
          simp only [Result.andThen_ok]
          generalize (Op.eqGuardIn d f.type a b).run P w2 = r3
          cases r3 with
          | ok r w3 =>
            cases r
            · simp only [Result.andThen_ok, Bool.false_eq_true, if_false, Sem.run_pure]
              exact ih w3
            · simp only [Result.andThen_ok, if_true, Sem.run_pure]
          | halt x w3 => simp [Result.andThen]
        | halt x w2 => simp [Result.andThen]
      | halt x w1 => simp [Result.andThen]
    · simp only [Sem.run_pure, Result.andThen_ok]
      exact ih w

theorem gFields_ok (k : PTOk P p) {d : Nat} {g : TypeId → AV → AV → Option Bool}
    (ih : ∀ t x y X Y r, g t x y = some r → conc σ ρ x = some X → conc σ ρ y = some Y → (Op.eqGuardIn d t X Y).run P w = .ok r w) :
    ∀ (fs : List Field) (xs ys : List AV) (XS YS : List Value) (r : Bool), gFields p g fs xs ys = some r → concs σ ρ xs = some XS → concs σ ρ ys = some YS →
      (gLoop d XS.toArray YS.toArray fs).run P w = .ok r w
  | [], xs, ys, XS, YS, r, h, _, _ => by
    have h : some false = some r := h
    cases h
    simp [gLoop]
  | f :: fs, xs, ys, XS, YS, r, h, hx, hy => by
    have h : bt (decide (f.name = "_")) (gFields p g fs xs ys) (ob (partA p f.type xs f.offset) fun a => ob (partA p f.type ys f.offset) fun b => ob (g f.type a b) fun q => bt q (some true) (gFields p g fs xs ys)) = some r := h
    rw [bt_eq] at h
    rcases h with ⟨hn, h⟩ | ⟨hn, h⟩
    · have hn : f.name = "_" := by simpa using hn
      have := gFields_ok k ih fs xs ys XS YS r h hx hy
      simp [gLoop, hn, this]
    · have hn : ¬ f.name = "_" := by simpa using hn
      simp only [ob_eq] at h
      obtain ⟨a, ha, b, hb, q, hq, h⟩ := h
      obtain ⟨A, hA, ca⟩ := partA_ok (w := w) k ha hx
      obtain ⟨B, hB, cb⟩ := partA_ok (w := w) k hb hy
      have hr := ih _ _ _ _ _ _ hq ca cb
      rw [bt_eq] at h
      rcases h with ⟨rfl, h⟩ | ⟨rfl, h⟩
      · cases h
        simp [gLoop, hn, hA, hB, hr]
      · have := gFields_ok k ih fs xs ys XS YS r h hx hy
        simp [gLoop, hn, hA, hB, hr, this]

theorem conc_notNil {x : AV} {X : Value} (hx : conc σ ρ x = some X) (h1 : x ≠ .nili) (h2 : ∀ i, x ≠ .raw i) : X ≠ .nilIface := by
  intro e
  subst e
  cases x <;> simp [conc, Option.map_eq_some_iff, Option.bind_eq_some_iff] at hx h1 h2
  all_goals first
    | (obtain ⟨_, _, hx⟩ := hx; cases hx)
    | (obtain ⟨_, _, _, hx⟩ := hx; cases hx)

theorem gIn_ok (k : PTOk P p) : ∀ (d : Nat) (t : TypeId) (x y : AV) (X Y : Value) (r : Bool), gIn p d t x y = some r → conc σ ρ x = some X → conc σ ρ y = some Y →
    (Op.eqGuardIn d t X Y).run P w = .ok r w
  | 0, _, _, _, _, _, _, h, _, _ => by simp [gIn] at h
  | d + 1, t, x, y, X, Y, r, h, hx, hy => by
    simp only [gIn, ob_eq] at h
    obtain ⟨u, hu, h⟩ := h
    have hU := k.under hu
    split at h
    · rename_i ms
      have hn : ¬ (X = .nilIface ∧ Y = .nilIface) ∧ r = false := by
        have f : ∀ {z : AV} {Z : Value}, conc σ ρ z = some Z → isNR z = false → Z ≠ .nilIface := by
          intro z Z hz hr
          exact conc_notNil hz (fun e => by subst e; cases hr) (fun i e => by subst e; cases hr)
        rw [bt_eq, bt_eq] at h
        rcases h with ⟨_, ⟨_, h⟩ | ⟨hy', h⟩⟩ | ⟨hx', h⟩
        · cases h
        · cases h; exact ⟨fun e => f hy hy' e.2, rfl⟩
        · cases h; exact ⟨fun e => f hx hx' e.1, rfl⟩
      obtain ⟨hn, rfl⟩ := hn
      simp only [Op.eqGuardIn, Sem.run_bind, run_underlying hU, Result.andThen_ok]
      split
      · rename_i e1
        exact absurd ⟨rfl, rfl⟩ hn
      · rename_i e1; cases e1
      · rename_i e1; cases e1
      · simp
    · simp only [AV.aggK_eq] at h
      obtain ⟨xs, rfl, ys, rfl, h⟩ := h
      simp only [conc, Option.map_eq_some_iff] at hx hy
      obtain ⟨XS, h1, rfl⟩ := hx
      obtain ⟨YS, h2, rfl⟩ := hy
      rw [run_eqGuardIn_struct w d t _ _ _ hU]
      exact gFields_ok k (fun t x y X Y r h hx hy => gIn_ok k d t x y X Y r h hx hy) _ _ _ _ _ _ h h1 h2
    · cases h
    · rename_i n1 n2 n3
      cases h
      simp only [Op.eqGuardIn, Sem.run_bind, run_underlying hU, Result.andThen_ok]
      split
      · rename_i ms _ _ e
        exact absurd rfl (n1 _)
      · exact absurd rfl (n2 _)
      · exact absurd rfl (n3 _ _)
      · simp

/-- the guard, at == and != -/
theorem eqGuard_at {op : BinOp} (ho : op = .eql ∨ op = .neq) (t : TypeId) (x y : Operand) (A B : Value) (h1 : ¬ (A = .nilIface ∧ B = .nilIface)) (h2 : ∀ xs ys, A = .agg xs → B = .agg ys → False) :
    (eqGuard op t x y A B).run P w = .ok () w := by
  rcases ho with rfl | rfl <;>
  · simp only [eqGuard, Bool.not_true, Bool.false_eq_true, if_false]
    split
    · exact absurd ⟨rfl, rfl⟩ h1
    · exact (h2 _ _ rfl rfl).elim
    · rfl
theorem eqGuard_nil {op : BinOp} (ho : op = .eql ∨ op = .neq) (t : TypeId) (x y : Operand) (h : isConst x = true ∨ isConst y = true) :
    (eqGuard op t x y .nilIface .nilIface).run P w = .ok () w := by
  rcases ho with rfl | rfl <;> cases x <;> cases y <;> first | (simp [isConst] at h; done) | rfl
theorem eqGuard_agg' {op : BinOp} (ho : op = .eql ∨ op = .neq) (t : TypeId) (x y : Operand) (XS YS : Array Value) (h : (Op.eqGuardIn 10000 t (.agg XS) (.agg YS)).run P w = .ok false w) :
    (eqGuard op t x y (.agg XS) (.agg YS)).run P w = .ok () w := by
  rcases ho with rfl | rfl <;>
  · simp only [eqGuard, Bool.not_true, Bool.false_eq_true, if_false, Sem.run_bind, run_program, Result.andThen_ok]
    split
    · rfl
    · simp only [Op.maxDepth, Sem.run_bind, h, Result.andThen_ok]
      rfl

theorem gOk_ok (k : PTOk P p) {op : BinOp} (ho : op = .eql ∨ op = .neq) {t : TypeId} {cst : Bool} {a b : AV} (h : gOk p t cst a b = true) {x y : Operand} (hc : cst = true → isConst x = true ∨ isConst y = true)
    {A B : Value} (ha : conc σ ρ a = some A) (hb : conc σ ρ b = some B) (hab : ∀ i, a ≠ .raw i) (hbb : ∀ i, b ≠ .raw i) : (eqGuard op t x y A B).run P w = .ok () w := by
  have f : ∀ {z : AV} {zs : Array Value}, conc σ ρ z = some (.agg zs) → (∀ i, z ≠ .raw i) → ∃ l, z = .agg l := by
    intro z zs hz hr
    cases z <;> simp [conc, Option.map_eq_some_iff, Option.bind_eq_some_iff] at hz hr
    case agg l => exact ⟨l, rfl⟩
    all_goals first
      | (obtain ⟨_, _, hz⟩ := hz; cases hz)
      | (obtain ⟨_, _, _, hz⟩ := hz; cases hz)
  by_cases h1 : A = .nilIface ∧ B = .nilIface
  · obtain ⟨rfl, rfl⟩ := h1
    have ea : a = .nili := by
      by_cases e : a = .nili
      · exact e
      · exact absurd rfl (conc_notNil ha e hab)
    have eb : b = .nili := by
      by_cases e : b = .nili
      · exact e
      · exact absurd rfl (conc_notNil hb e hbb)
    subst ea eb
    exact eqGuard_nil ho t x y (hc h)
  · by_cases h2 : ∃ xs ys, A = .agg xs ∧ B = .agg ys
    · obtain ⟨XS, YS, rfl, rfl⟩ := h2
      obtain ⟨l, rfl⟩ := f ha hab
      obtain ⟨l', rfl⟩ := f hb hbb
      change (Option.casesOn (motive := fun _ => Bool) (gIn p 10000 t (.agg l) (.agg l')) false (fun q => !q)) = true at h
      cases hg : gIn p 10000 t (.agg l) (.agg l') with
      | none => rw [hg] at h; cases h
      | some r =>
        rw [hg] at h
        cases r with
        | true => cases h
        | false => exact eqGuard_agg' ho t x y XS YS (gIn_ok (w := w) k 10000 t _ _ _ _ _ hg ha hb)
    · exact eqGuard_at ho t x y A B h1 fun xs ys e1 e2 => h2 ⟨xs, ys, e1, e2⟩

/-! ### two operands -/
theorem intA_ok {op : BinOp} {t : TypeId} {k k' : IntKind} {m n : Int} {v : AV} (hk : isShift op = true ∨ k = k') (h : intA op k m n = some v) :
    ∃ V, (binOp op t (.int k m) (.int k' n)).run P w = .ok V w ∧ conc σ ρ v = some V := by
  cases op <;> simp [isShift] at hk <;> (try subst hk) <;> simp only [intA] at h
  case shl =>
    rw [natK_eq] at h
    obtain ⟨j, rfl, h⟩ := h
    cases h
    refine ⟨_, ?_, conc_int _ _⟩
    have hj : ¬ ((j : Int) < 0) := by omega
    simp [binOp, Op.shift, wrapK_eq, hj]
  case shr =>
    rw [natK_eq] at h
    obtain ⟨j, rfl, h⟩ := h
    cases h
    refine ⟨_, ?_, conc_int _ _⟩
    have hj : ¬ ((j : Int) < 0) := by omega
    simp [binOp, Op.shift, hj]
  case quo =>
    rw [bt_eq] at h
    rcases h with ⟨_, h⟩ | ⟨hz, h⟩
    · cases h
    · cases h
      rw [intBeq_eq] at hz
      have hz : ¬ n = 0 := by simpa using hz
      refine ⟨_, ?_, conc_int _ _⟩
      simp [binOp, Op.intDiv, hz, wrapK_eq]
  case rem =>
    rw [bt_eq] at h
    rcases h with ⟨_, h⟩ | ⟨hz, h⟩
    · cases h
    · cases h
      rw [intBeq_eq] at hz
      have hz : ¬ n = 0 := by simpa using hz
      refine ⟨_, ?_, conc_int _ _⟩
      simp [binOp, Op.intDiv, hz]
  all_goals first
    | (cases h; done)
    | (cases h
       refine ⟨_, ?_, by first | exact conc_int _ _ | exact conc_bool _⟩
       simp [binOp, Op.intArith, Op.intCmp, wrapK_eq, intBeq_eq, intBle_eq, bne]
       try (rw [Bool.eq_iff_iff]; simp; try omega))

theorem bytesLess_total : ∀ a b : List UInt8, (Op.bytesLess a b || a == b) = !Op.bytesLess b a
  | [], [] => rfl
  | [], _ :: _ => by simp [Op.bytesLess]
  | _ :: _, [] => by simp [Op.bytesLess]
  | x :: a, y :: b => by
    have ih := bytesLess_total a b
    simp only [Op.bytesLess, List.cons_beq_cons]
    by_cases h1 : x < y
    · have h2 : ¬ y < x := by rw [UInt8.lt_iff_toNat_lt] at *; omega
      have h3 : (y == x) = false := by simp; intro e; subst e; exact absurd h1 (by rw [UInt8.lt_iff_toNat_lt]; omega)
      simp [h1, h2, h3]
    · by_cases h2 : y < x
      · have h3 : (x == y) = false := by simp; intro e; subst e; exact absurd h2 (by rw [UInt8.lt_iff_toNat_lt]; omega)
        simp [h1, h2, h3]
      · have h3 : x = y := by
          rw [UInt8.lt_iff_toNat_lt] at *
          exact UInt8.toNat_inj.1 (by omega)
        subst h3
        simp [h1, ← ih]

theorem strA_ok {op : BinOp} {t : TypeId} {a b : List UInt8} {v : AV} (h : strA op a b = some v) :
    ∃ V, (binOp op t (.string ⟨a.toArray⟩) (.string ⟨b.toArray⟩)).run P w = .ok V w ∧ conc σ ρ v = some V := by
  have tl : ∀ l : List UInt8, (ByteArray.mk l.toArray).toList = l := fun l => by rw [ByteArray.toList_mk]
  unfold strA at h
  split at h
  case h_1 =>
    rw [chk_eq] at h
    obtain ⟨hl, h⟩ := h
    cases h
    refine ⟨_, ?_, conc_str _⟩
    have := Nat.le_of_ble_eq_true hl
    rw [len_eq, len_eq] at this
    have hm : ¬ (((ByteArray.mk a.toArray).size + (ByteArray.mk b.toArray).size : Nat) : Int) > IntKind.i64.max := by
      have e1 : (ByteArray.mk a.toArray).size = a.length := by simp [ByteArray.size]
      have e2 : (ByteArray.mk b.toArray).size = b.length := by simp [ByteArray.size]
      rw [e1, e2]
      simp only [IntKind.max, IntKind.signed, IntKind.bits]
      have : (2 : Int) ^ (64 - 1) - 1 = 9223372036854775807 := by decide
      simp only [if_true, this]
      omega
    simp only [binOp, Op.stringOp]
    rw [if_neg hm]
    simp only [Sem.run_pure]
    congr 2
    rw [app_eq]
    apply ByteArray.ext
    simp [ByteArray.data_append]
  all_goals first
    | (cases h; done)
    | (cases h
       refine ⟨_, ?_, conc_bool _⟩
       simp only [binOp, Op.stringOp, tl, Sem.run_pure, strBeq_eq, strLt_eq, bytesLess_total]
       try simp)

theorem AV.tag1 {a : AV} (h : Nat.beq a.tag 1 = true) : ∃ k n, a = .int k n := by
  cases a
  case int k n => exact ⟨k, n, rfl⟩
  all_goals cases h

/-- a value at which == asks its type -/
def othK : Value → Bool
  | .int _ _ | .float _ _ | .complex _ _ _ | .string _ => false
  | _ => true
theorem binOp_eql_oth {t : TypeId} {A B : Value} (h : othK A = true) : binOp .eql t A B = (do pure (.bool (← Op.equal t A B))) := by
  cases A <;> first | (cases h; done) | (cases B <;> rfl)
theorem binOp_neq_oth {t : TypeId} {A B : Value} (h : othK A = true) : binOp .neq t A B = (do pure (.bool (!(← Op.equal t A B)))) := by
  cases A <;> first | (cases h; done) | (cases B <;> rfl)
theorem tag3_oth {a : AV} (h : Nat.beq a.tag 3 = true) {A : Value} (ha : conc σ ρ a = some A) : othK A = true ∧ ∀ i, a ≠ .raw i := by
  cases a
  case raw i => cases h
  case int => cases h
  case flt => cases h
  case cx => cases h
  case str => cases h
  case tup => cases h
  all_goals
    refine ⟨?_, fun i e => by cases e⟩
    simp only [conc, Option.map_eq_some_iff, Option.bind_eq_some_iff, Option.some.injEq] at ha
    first
      | (subst ha; rfl)
      | (obtain ⟨_, _, rfl⟩ := ha; rfl)
      | (obtain ⟨_, _, _, _, rfl⟩ := ha; rfl)
      | (obtain ⟨_, _, ha⟩ := ha; split at ha <;> cases ha; rfl)

theorem eqIn_noRaw (H : Hp) (d : Nat) (t : TypeId) (x : AV) (i : Nat) : eqIn p H d t x (.raw i) = none := by
  cases d with
  | zero => rfl
  | succ d =>
    simp only [eqIn]
    split <;> first | rfl | (rename_i e; cases e)

theorem othA_ok (k : PTOk P p) (s : Sim P σ ρ H.get w) {op : BinOp} {t : TypeId} {cst : Bool} {a b v : AV} (h : othA p H op t cst a b = some v) (ht : Nat.beq a.tag 3 = true) {x y : Operand}
    (hc : cst = true → isConst x = true ∨ isConst y = true) {A B : Value} (ha : conc σ ρ a = some A) (hb : conc σ ρ b = some B) :
    ∃ V, (do eqGuard op t x y A B; binOp op t A B : Sem Value).run P w = .ok V w ∧ conc σ ρ v = some V := by
  obtain ⟨hA, hra⟩ := tag3_oth ht ha
  unfold othA at h
  rw [chk_eq] at h
  obtain ⟨hg, h⟩ := h
  have hrb : ∀ r, eqIn p H 10000 t a b = some r → ∀ i, b ≠ .raw i := by
    intro r hr i e
    subst e
    rw [eqIn_noRaw] at hr
    cases hr
  cases op <;> first | (cases h; done) | skip
  · simp only [ob_eq] at h
    obtain ⟨r, hr, h⟩ := h
    cases h
    have hG := gOk_ok (w := w) k (op := .eql) (.inl rfl) hg hc ha hb hra (hrb r hr)
    have hE := eqIn_ok k s 10000 t a b A B r hr ha hb
    refine ⟨.bool r, ?_, conc_bool _⟩
    simp only [Sem.run_bind, hG, Result.andThen_ok, binOp_eql_oth hA, Op.equal, Op.maxDepth, hE]
    rfl
  · simp only [ob_eq] at h
    obtain ⟨r, hr, h⟩ := h
    cases h
    have hG := gOk_ok (w := w) k (op := .neq) (.inr rfl) hg hc ha hb hra (hrb r hr)
    have hE := eqIn_ok k s 10000 t a b A B r hr ha hb
    refine ⟨.bool (!r), ?_, conc_bool _⟩
    simp only [Sem.run_bind, hG, Result.andThen_ok, binOp_neq_oth hA, Op.equal, Op.maxDepth, hE]
    rfl
end
end Go.Proofs.YtogmhgklmjbfaaaGreatDoor.Kv
