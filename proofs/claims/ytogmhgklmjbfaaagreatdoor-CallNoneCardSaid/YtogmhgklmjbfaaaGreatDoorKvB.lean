/-
  What the pieces of the evaluator are: plain facts on tries, lists and numbers.
-/
import Derived.Test.YtogmhgklmjbfaaaGreatDoorKvA
import Derived.Calls
namespace Go.Proofs.YtogmhgklmjbfaaaGreatDoor.Kv

/-! ### options -/
section
variable {α β γ : Type}
@[simp] theorem ob_none (f : α → Option β) : ob none f = none := rfl
@[simp] theorem ob_some (x : α) (f : α → Option β) : ob (some x) f = f x := rfl
theorem ob_eq {o : Option α} {f : α → Option β} {r : β} : ob o f = some r ↔ ∃ x, o = some x ∧ f x = some r := by cases o <;> simp
@[simp] theorem bt_true (x y : Option α) : bt true x y = x := rfl
@[simp] theorem bt_false (x y : Option α) : bt false x y = y := rfl
@[simp] theorem chk_true (x : Option α) : chk true x = x := rfl
@[simp] theorem chk_false (x : Option α) : chk false x = none := rfl
theorem chk_eq {b : Bool} {x : Option α} {r : α} : chk b x = some r ↔ b = true ∧ x = some r := by cases b <;> simp
theorem bt_eq {b : Bool} {x y : Option α} {r : α} : bt b x y = some r ↔ (b = true ∧ x = some r) ∨ (b = false ∧ y = some r) := by cases b <;> simp
end

/-! ### tries -/
section
variable {α : Type}
@[simp] theorem Tr.get_nil (k : Nat) : (Tr.nil : Tr α).get k = none := rfl
@[simp] theorem Tr.get_zero (l r : Tr α) (v : Option α) : (Tr.node l v r).get 0 = v := rfl
theorem Tr.get_succ (l r : Tr α) (v : Option α) (k : Nat) : (Tr.node l v r).get (k + 1) = if k % 2 = 0 then l.get (k / 2) else r.get (k / 2) := by
  show Nat.rec (motive := fun _ => Option α) _ _ (Nat.mod k 2) = _
  have h : Nat.mod k 2 = k % 2 := rfl
  have hd : Nat.div k 2 = k / 2 := rfl
  rw [h]
  rcases Nat.mod_two_eq_zero_or_one k with e | e <;> rw [e]
  · rfl
  · rfl

theorem Tr.setN_zero (x : Option α) (rec : Tr α → Nat → Tr α) (l : Tr α) (v : Option α) (r : Tr α) : Tr.setN 0 x rec l v r = .node l x r := rfl
theorem Tr.setN_succ (k : Nat) (x : Option α) (rec : Tr α → Nat → Tr α) (l : Tr α) (v : Option α) (r : Tr α) :
    Tr.setN (k + 1) x rec l v r = if k % 2 = 0 then .node (rec l (k / 2)) v r else .node l v (rec r (k / 2)) := by
  show Nat.rec (motive := fun _ => Tr α) _ _ (Nat.mod k 2) = _
  have h : Nat.mod k 2 = k % 2 := rfl
  rw [h]
  rcases Nat.mod_two_eq_zero_or_one k with e | e <;> rw [e]
  · rfl
  · rfl

theorem Tr.setF_succ_nil (x : Option α) (f k : Nat) : Tr.setF x (f + 1) .nil k = Tr.setN k x (Tr.setF x f) .nil none .nil := rfl
theorem Tr.setF_succ_node (x : Option α) (f k : Nat) (l r : Tr α) (v : Option α) : Tr.setF x (f + 1) (.node l v r) k = Tr.setN k x (Tr.setF x f) l v r := rfl

theorem Tr.get_setF (x : Option α) : ∀ (f k : Nat) (t : Tr α) (j : Nat), k < f → (Tr.setF x f t k).get j = if j = k then x else t.get j
  | 0, k, t, j, h => by omega
  | f + 1, k, t, j, h => by
    have key : ∀ (l : Tr α) (v : Option α) (r : Tr α), (Tr.setN k x (Tr.setF x f) l v r).get j = if j = k then x else (Tr.node l v r).get j := by
      intro l v r
      cases k with
      | zero =>
        rw [Tr.setN_zero]
        cases j with
        | zero => simp
        | succ j => rw [Tr.get_succ, Tr.get_succ, if_neg (by omega : ¬ (j + 1 = 0))]
      | succ k =>
        rw [Tr.setN_succ]
        have ih := fun (t : Tr α) (j : Nat) => Tr.get_setF x f (k / 2) t j (by omega)
        cases j with
        | zero =>
          rw [if_neg (by omega : ¬ (0 = k + 1))]
          split <;> rfl
        | succ j =>
          split
          · rename_i e
            rw [Tr.get_succ, Tr.get_succ]
            split
            · rename_i e'
              rw [ih]
              by_cases hjk : j = k
              · subst hjk; simp
              · rw [if_neg (by omega), if_neg (by omega)]
            · rename_i e'
              rw [if_neg (by omega)]
          · rename_i e
            rw [Tr.get_succ, Tr.get_succ]
            split
            · rename_i e'
              rw [if_neg (by omega)]
            · rename_i e'
              rw [ih]
              by_cases hjk : j = k
              · subst hjk; simp
              · rw [if_neg (by omega), if_neg (by omega)]
    cases t with
    | nil =>
      rw [Tr.setF_succ_nil, key]
      by_cases e : j = k
      · rw [if_pos e, if_pos e]
      · rw [if_neg e, if_neg e]
        cases j with
        | zero => rfl
        | succ j => rw [Tr.get_succ]; split <;> rfl
    | node l v r => rw [Tr.setF_succ_node, key]

theorem Tr.get_put (t : Tr α) (k : Nat) (x : Option α) (j : Nat) : (t.put k x).get j = if j = k then x else t.get j := Tr.get_setF x (k + 1) k t j (Nat.lt_succ_self k)
end

/-! ### lists -/
section
variable {α β : Type}
theorem nth_eq : ∀ (l : List α) (i : Nat), nth l i = l[i]?
  | [], _ => by simp [nth]
  | x :: l, 0 => rfl
  | x :: l, i + 1 => by
    show nth l i = _
    rw [nth_eq l i]; simp
theorem dropN_eq : ∀ (n : Nat) (l : List α), dropN n l = l.drop n
  | 0, l => rfl
  | n + 1, [] => rfl
  | n + 1, x :: l => by
    show dropN n l = _
    rw [dropN_eq n l]; rfl
theorem takeN_eq : ∀ (n : Nat) (l r : List α), takeN n l = some r ↔ n ≤ l.length ∧ r = l.take n
  | 0, l, r => by
    show some [] = some r ↔ _
    simp [eq_comm]
  | n + 1, [], r => by
    show none = some r ↔ _
    simp
  | n + 1, x :: l, r => by
    show ob (takeN n l) (fun r => some (x :: r)) = some r ↔ _
    rw [ob_eq]
    constructor
    · rintro ⟨y, hy, he⟩
      have := (takeN_eq n l y).1 hy
      simp at he
      subst he
      simp [this.1, this.2]
    · rintro ⟨h, rfl⟩
      refine ⟨l.take n, (takeN_eq n l _).2 ⟨by simpa using h, rfl⟩, by simp⟩
theorem len_eq (l : List α) : len l = l.length := by
  induction l with
  | nil => rfl
  | cons x l ih => show len l + 1 = _; rw [ih]; rfl
theorem app_eq (a b : List α) : app a b = a ++ b := by
  induction a with
  | nil => rfl
  | cons x a ih => show x :: app a b = _; rw [ih]; rfl
theorem reps_eq (n : Nat) (l : List α) : reps n l = (List.replicate n l).flatten := by
  induction n with
  | zero => rfl
  | succ n ih => show app l (reps n l) = _; rw [app_eq, ih, List.replicate_succ, List.flatten_cons]
/-- two lists, element by element -/
def All2 (R : α → β → Prop) : List α → List β → Prop
  | [], [] => True
  | x :: l, y :: r => R x y ∧ All2 R l r
  | _, _ => False
theorem mapO_eq (f : α → Option β) : ∀ (l : List α) (r : List β), mapO f l = some r ↔ All2 (fun x y => f x = some y) l r
  | [], r => by
    show some [] = some r ↔ _
    cases r <;> simp [All2]
  | x :: l, r => by
    show ob (f x) (fun y => ob (mapO f l) fun l => some (y :: l)) = some r ↔ _
    rw [ob_eq]
    constructor
    · rintro ⟨y, hy, h⟩
      rw [ob_eq] at h
      obtain ⟨l', hl, he⟩ := h
      simp at he
      subst he
      exact ⟨hy, (mapO_eq f l l').1 hl⟩
    · intro h
      cases r with
      | nil => exact h.elim
      | cons y r => exact ⟨_, h.1, by rw [ob_eq]; exact ⟨_, (mapO_eq f l _).2 h.2, rfl⟩⟩

theorem overL_eq : ∀ (l c r : List α), overL l c = some r ↔ l.length ≤ c.length ∧ r = l ++ c.drop l.length
  | [], c, r => by
    show some c = some r ↔ _
    simp [eq_comm]
  | x :: l, [], r => by
    show none = some r ↔ _
    simp
  | x :: l, y :: c, r => by
    show ob (overL l c) (fun r => some (x :: r)) = some r ↔ _
    rw [ob_eq]
    constructor
    · rintro ⟨z, hz, he⟩
      have := (overL_eq l c z).1 hz
      simp at he
      subst he
      simp [this.1, this.2]
    · rintro ⟨h, rfl⟩
      exact ⟨_, (overL_eq l c _).2 ⟨by simpa using h, rfl⟩, by simp⟩
theorem over_eq : ∀ (n : Nat) (l c r : List α), over n l c = some r ↔ n + l.length ≤ c.length ∧ r = c.take n ++ l ++ c.drop (n + l.length)
  | 0, l, c, r => by
    show overL l c = some r ↔ _
    rw [overL_eq]; simp
  | n + 1, l, [], r => by
    show none = some r ↔ _
    simp
  | n + 1, l, y :: c, r => by
    show ob (over n l c) (fun r => some (y :: r)) = some r ↔ _
    rw [ob_eq]
    have e : n + 1 + l.length = (n + l.length) + 1 := by omega
    constructor
    · rintro ⟨z, hz, he⟩
      have := (over_eq n l c z).1 hz
      simp at he
      subst he
      refine ⟨by simp only [List.length_cons]; omega, ?_⟩
      rw [this.2, e]; simp
    · rintro ⟨h, rfl⟩
      refine ⟨_, (over_eq n l c _).2 ⟨by simp at h; omega, rfl⟩, ?_⟩
      rw [e]; simp
theorem over_get {n : Nat} {l c r : List α} (h : over n l c = some r) (i : Nat) : r[i]? = if n ≤ i ∧ i < n + l.length then l[i - n]? else c[i]? := by
  obtain ⟨h1, rfl⟩ := (over_eq n l c r).1 h
  by_cases h2 : i < n
  · rw [if_neg (by omega), List.append_assoc, List.getElem?_append_left (by simp; omega), List.getElem?_take_of_lt h2]
  · by_cases h3 : i < n + l.length
    · rw [if_pos ⟨by omega, h3⟩, List.append_assoc, List.getElem?_append_right (by simp; omega), List.getElem?_append_left (by simp; omega)]
      congr 1
      simp; omega
    · rw [if_neg (by omega), List.append_assoc, List.getElem?_append_right (by simp; omega), List.getElem?_append_right (by simp; omega), List.getElem?_drop]
      congr 1
      simp; omega
theorem over_len {n : Nat} {l c r : List α} (h : over n l c = some r) : r.length = c.length := by
  obtain ⟨h1, rfl⟩ := (over_eq n l c r).1 h
  simp; omega
end

/-! ### numbers -/
theorem intBeq_eq (a b : Int) : intBeq a b = (a == b) := by
  cases a <;> cases b
  · show Nat.beq _ _ = _
    rw [Bool.eq_iff_iff]; simp
    exact Int.ofNat_inj.symm
  · simp [intBeq]
  · simp [intBeq]
  · show Nat.beq _ _ = _
    rw [Bool.eq_iff_iff]; simp
theorem intBle_eq (a b : Int) : intBle a b = decide (a ≤ b) := by
  cases a <;> cases b
  · rename_i m n
    show Nat.ble m n = _
    rw [Bool.eq_iff_iff]; simp
  · rename_i m n
    show false = _
    symm
    rw [decide_eq_false_iff_not]
    have h1 : Int.negSucc n < 0 := Int.negSucc_lt_zero n
    have h2 : (0 : Int) ≤ Int.ofNat m := Int.natCast_nonneg m
    omega
  · rename_i m n
    show true = _
    symm
    rw [decide_eq_true_iff]
    have h1 : Int.negSucc m < 0 := Int.negSucc_lt_zero m
    have h2 : (0 : Int) ≤ Int.ofNat n := Int.natCast_nonneg n
    omega
  · rename_i m n
    show Nat.ble n m = _
    rw [Bool.eq_iff_iff]; simp
    omega
theorem kBeq_eq (a b : IntKind) : kBeq a b = true ↔ a = b := by
  cases a <;> cases b <;> simp [kBeq, kNum]

theorem wrap_up (k : IntKind) (n : Int) (h0 : 0 ≤ n) (h : n < kHalf k) : k.wrap n = n := by
  cases k <;> simp only [kHalf] at h <;> simp only [IntKind.wrap, IntKind.bits, IntKind.signed] <;> (try split) <;> simp_all <;> omega
theorem wrap_down (k : IntKind) (n : Int) (hs : kSig k = true) (h0 : n < 0) (h : -(kHalf k : Int) ≤ n) : k.wrap n = n := by
  cases k <;> simp only [kSig] at hs <;> simp only [kHalf] at h <;> simp only [IntKind.wrap, IntKind.bits, IntKind.signed] <;> (try split) <;> simp_all <;> omega
theorem wrapK_eq (k : IntKind) (n : Int) : wrapK k n = k.wrap n := by
  unfold wrapK
  cases n with
  | ofNat m =>
    show (Bool.casesOn (Nat.blt m (kHalf k)) (k.wrap (Int.ofNat m)) (Int.ofNat m) : Int) = _
    cases h : Nat.blt m (kHalf k) with
    | false => rfl
    | true =>
      have hm : m < kHalf k := by
        have := Nat.le_of_ble_eq_true h
        omega
      exact (wrap_up k _ (Int.natCast_nonneg m) (by show (m : Int) < _; omega)).symm
  | negSucc m =>
    show (Bool.casesOn (kSig k) (k.wrap (Int.negSucc m)) (Bool.casesOn (Nat.blt m (kHalf k)) (k.wrap (Int.negSucc m)) (Int.negSucc m)) : Int) = _
    cases hs : kSig k with
    | false => rfl
    | true =>
      show (Bool.casesOn (Nat.blt m (kHalf k)) (k.wrap (Int.negSucc m)) (Int.negSucc m) : Int) = _
      cases h : Nat.blt m (kHalf k) with
      | false => rfl
      | true =>
        have hm : m < kHalf k := by
          have := Nat.le_of_ble_eq_true h
          omega
        exact (wrap_down k _ hs (Int.negSucc_lt_zero m) (by rw [Int.negSucc_eq]; omega)).symm

theorem u8Beq_eq (a b : UInt8) : u8Beq a b = (a == b) := by
  rw [Bool.eq_iff_iff]; simp [u8Beq, UInt8.toNat_inj]
theorem strBeq_eq : ∀ a b : List UInt8, strBeq a b = (a == b)
  | [], [] => rfl
  | [], _ :: _ => rfl
  | _ :: _, [] => rfl
  | x :: a, y :: b => by
    show (Bool.casesOn (u8Beq x y) false (strBeq a b) : Bool) = _
    rw [u8Beq_eq, strBeq_eq a b]
    cases h : x == y <;> simp [h, List.cons_beq_cons]
theorem strLt_eq : ∀ a b : List UInt8, strLt a b = Op.bytesLess a b
  | [], [] => rfl
  | [], _ :: _ => rfl
  | _ :: _, [] => rfl
  | x :: a, y :: b => by
    show (Bool.casesOn (Nat.blt x.toNat y.toNat) (Bool.casesOn (u8Beq x y) false (strLt a b)) true : Bool) = _
    rw [u8Beq_eq, strLt_eq a b]
    have e : Nat.blt x.toNat y.toNat = decide (x < y) := by
      rw [Bool.eq_iff_iff]; simp [Nat.blt, UInt8.lt_iff_toNat_lt]; omega
    rw [e, Op.bytesLess]
    cases decide (x < y) <;> cases x == y <;> rfl
end Go.Proofs.YtogmhgklmjbfaaaGreatDoor.Kv
