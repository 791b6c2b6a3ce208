/-
  What an operation reads; those that only look.
-/
import Derived.Test.YtogmhgklmjbfaaaGreatDoorKvS
namespace Go.Proofs.YtogmhgklmjbfaaaGreatDoor.Kv
section
variable {p : PT} {H : Hp} {q : Nat} {E E' : Env} {T : Tr AV}

theorem opdK_congr {β : Type} {x : Operand} (h : ∀ t, x = .tmp t → look E T t = look E' T t) (k : AV → Option β) : opdK p x E T k = opdK p x E' T k := by
  cases x with
  | tmp t =>
    show rd E T t k = rd E' T t k
    rw [rd_look, rd_look, h t rfl]
  | const V => rfl
  | global g => rfl
  | func f => rfl

/-- alike where the operands of an operation look -/
def Alike (E E' : Env) (T : Tr AV) (l : List Operand) : Prop := ∀ t, Operand.tmp t ∈ l → look E T t = look E' T t

theorem Alike.at {l : List Operand} (h : Alike E E' T l) {x : Operand} (hx : x ∈ l) {β : Type} (k : AV → Option β) : opdK p x E T k = opdK p x E' T k :=
  opdK_congr (fun t e => h t (e ▸ hx)) k

theorem mapO_congr {α β : Type} {f g : α → Option β} : ∀ {l : List α}, (∀ x ∈ l, f x = g x) → mapO f l = mapO g l
  | [], _ => rfl
  | x :: l, h => by
    show ob (f x) (fun y => ob (mapO f l) fun l => some (y :: l)) = ob (g x) (fun y => ob (mapO g l) fun l => some (y :: l))
    rw [h x (by simp), mapO_congr fun y hy => h y (by simp [hy])]

theorem opds_congr {l : List Operand} (h : Alike E E' T l) : opds p l E T = opds p l E' T := mapO_congr fun x hx => h.at hx _
theorem parts_congr {l : List (Nat × Operand)} (h : Alike E E' T (l.map (·.2))) : parts p l E T = parts p l E' T :=
  mapO_congr fun x hx => h.at (List.mem_map.2 ⟨x, hx, rfl⟩) _
theorem bound_congr {x : Option Operand} (h : Alike E E' T x.toList) {d lim : Nat} : bound p x d lim E T = bound p x d lim E' T := by
  cases x with
  | none => rfl
  | some x => exact h.at (by simp) _

theorem evOp_congr {op : Op} (h : Alike E E' T op.operands.toList) : evOp p op E T H q = evOp p op E' T H q := by
  cases op
  case move x => exact h.at (by simp [Op.operands]) _
  case assign x => exact h.at (by simp [Op.operands]) _
  case pick c a b =>
    show oPick p c a b E T H q = oPick p c a b E' T H q
    have h1 : oMove p a E T H q = oMove p a E' T H q := h.at (by simp [Op.operands]) _
    have h2 : oMove p b E T H q = oMove p b E' T H q := h.at (by simp [Op.operands]) _
    unfold oPick
    rw [h.at (p := p) (x := c) (by simp [Op.operands]), h1, h2]
  case alloc => rfl
  case box e x => exact h.at (by simp [Op.operands]) _
  case build t l =>
    show oBuild p t l E T H q = oBuild p t l E' T H q
    unfold oBuild
    rw [parts_congr (by simpa [Op.operands] using h)]
  case buildSlice t n l =>
    show oBuildSlice p t n l E T H q = oBuildSlice p t n l E' T H q
    unfold oBuildSlice
    rw [parts_congr (by simpa [Op.operands] using h)]
  case insert t x y z =>
    show oMapUpdate p t x y z E T H q = oMapUpdate p t x y z E' T H q
    unfold oMapUpdate
    simp only [h.at (p := p) (x := x) (by simp [Op.operands]), h.at (p := p) (x := y) (by simp [Op.operands]), h.at (p := p) (x := z) (by simp [Op.operands])]
  case mapUpdate t x y z =>
    show oMapUpdate p t x y z E T H q = oMapUpdate p t x y z E' T H q
    unfold oMapUpdate
    simp only [h.at (p := p) (x := x) (by simp [Op.operands]), h.at (p := p) (x := y) (by simp [Op.operands]), h.at (p := p) (x := z) (by simp [Op.operands])]
  case load t x => exact h.at (by simp [Op.operands]) _
  case store t x y =>
    show oStore p t x y E T H q = oStore p t x y E' T H q
    unfold oStore
    simp only [h.at (p := p) (x := x) (by simp [Op.operands]), h.at (p := p) (x := y) (by simp [Op.operands])]
  case ready => rfl
  case waits => rfl
  case nilCheck x => exact h.at (by simp [Op.operands]) _
  case binOp o t x y yt =>
    show oBin p o t x y E T H q = oBin p o t x y E' T H q
    unfold oBin
    simp only [h.at (p := p) (x := x) (by simp [Op.operands]), h.at (p := p) (x := y) (by simp [Op.operands])]
  case unOp o t x => exact h.at (by simp [Op.operands]) _
  case convert s d x => exact h.at (by simp [Op.operands]) _
  case sliceToArrayPointer => rfl
  case makeInterface t x =>
    show oMakeIface p t x E T H q = oMakeIface p t x E' T H q
    unfold oMakeIface
    simp only [h.at (p := p) (x := x) (by simp [Op.operands])]
  case makeFunc f x y =>
    show oMakeFunc p f x y E T H q = oMakeFunc p f x y E' T H q
    unfold oMakeFunc
    rw [opds_congr (l := x.toList) fun t ht => h t (by simp [Op.operands]; simp at ht; exact .inl ht), opds_congr (l := y.toList) fun t ht => h t (by simp [Op.operands]; simp at ht; exact .inr ht)]
  case makeMap => rfl
  case makeChan => rfl
  case makeSlice t x y =>
    show oMakeSlice p t x y E T H q = oMakeSlice p t x y E' T H q
    unfold oMakeSlice
    simp only [h.at (p := p) (x := x) (by simp [Op.operands]), h.at (p := p) (x := y) (by simp [Op.operands])]
  case slice t x lo hi mx =>
    show oSlice p t x lo hi mx E T H q = oSlice p t x lo hi mx E' T H q
    have hx := fun {β : Type} (k : AV → Option β) => h.at (p := p) (x := x) (by simp [Op.operands]) k
    have b1 := fun d lim => bound_congr (p := p) (x := lo) (d := d) (lim := lim) fun t ht => h t (by simp [Op.operands]; simp at ht; simp [ht])
    have b2 := fun d lim => bound_congr (p := p) (x := hi) (d := d) (lim := lim) fun t ht => h t (by simp [Op.operands]; simp at ht; simp [ht])
    have b3 := fun d lim => bound_congr (p := p) (x := mx) (d := d) (lim := lim) fun t ht => h t (by simp [Op.operands]; simp at ht; simp [ht])
    unfold oSlice
    rw [hx]
    congr 1
    funext v
    unfold sliceA
    simp only [b1, b2, b3]
  case fieldAddr t x f =>
    show oFieldAddr p t x f E T H q = oFieldAddr p t x f E' T H q
    unfold oFieldAddr
    simp only [h.at (p := p) (x := x) (by simp [Op.operands])]
  case field t x f =>
    show oField p t x f E T H q = oField p t x f E' T H q
    unfold oField
    simp only [h.at (p := p) (x := x) (by simp [Op.operands])]
  case indexAddr t x i =>
    show oIndexAddr p t x i E T H q = oIndexAddr p t x i E' T H q
    unfold oIndexAddr idxAddr
    simp only [h.at (p := p) (x := x) (by simp [Op.operands]), h.at (p := p) (x := i) (by simp [Op.operands])]
  case index t x i =>
    show oIndex p t x i E T H q = oIndex p t x i E' T H q
    unfold oIndex idx
    simp only [h.at (p := p) (x := x) (by simp [Op.operands]), h.at (p := p) (x := i) (by simp [Op.operands])]
  case lookup t x i ok =>
    show oLookup p t x i ok E T H q = oLookup p t x i ok E' T H q
    unfold oLookup
    simp only [h.at (p := p) (x := x) (by simp [Op.operands]), h.at (p := p) (x := i) (by simp [Op.operands])]
  case mapEntry t x i =>
    show oMapEntry p t x i E T H q = oMapEntry p t x i E' T H q
    unfold oMapEntry
    simp only [h.at (p := p) (x := x) (by simp [Op.operands]), h.at (p := p) (x := i) (by simp [Op.operands])]
  case entryStore t x y z =>
    show oEntryStore p x y z E T H q = oEntryStore p x y z E' T H q
    unfold oEntryStore
    simp only [h.at (p := p) (x := x) (by simp [Op.operands]), h.at (p := p) (x := y) (by simp [Op.operands]), h.at (p := p) (x := z) (by simp [Op.operands])]
  case range t x =>
    show oRange p t x E T H q = oRange p t x E' T H q
    unfold oRange
    simp only [h.at (p := p) (x := x) (by simp [Op.operands])]
  case next x s =>
    show oNext p x s E T H q = oNext p x s E' T H q
    unfold oNext nextM
    simp only [h.at (p := p) (x := x) (by simp [Op.operands])]
  case entry x => exact h.at (by simp [Op.operands]) _
  case typeAssert x xt t ok =>
    show oAssert p x t ok E T H q = oAssert p x t ok E' T H q
    unfold oAssert assertA
    simp only [h.at (p := p) (x := x) (by simp [Op.operands])]
  case extract x i => exact h.at (by simp [Op.operands]) _
  case call c =>
    show oCall p c E T H q = oCall p c E' T H q
    have ha : opds p c.args.toList E T = opds p c.args.toList E' T := opds_congr fun t ht => h t (by simp [Op.operands, Call.operands]; simp at ht; exact .inr ht)
    unfold oCall
    rw [ha]
    congr 1
    funext args
    cases hc : c.callee with
    | value f => exact h.at (by simp [Op.operands, Call.operands, hc]) _
    | invoke r n => exact h.at (by simp [Op.operands, Call.operands, hc]) _
    | builtin b =>
      show callB p b c.argTypes.toList args E T H q = callB p b c.argTypes.toList args E' T H q
      unfold callB bLen bAppend bDelete bMin bMax appendA
      rfl
  case go => rfl
  case defer => rfl
  case panic => rfl
  case send => rfl
  case recv => rfl
  case select => rfl

/-! ### those that only look -/
theorem look_only {op : Op} (hk : kindOf p op = 0) {res : OR} (h : evOp p op E T H q = some res) : ∃ v, res = .val v H q := by
  refine (?_ : All (fun r => ∃ v, r = .val v H q) (evOp p op E T H q)) res h
  cases op <;> first | (cases hk; done) | skip
  case move => show All _ (oMove p _ E T H q); unfold oMove; (repeat' (first | exact All.none | apply All.val | apply All.some | (apply All.opd; intro _) | (apply All.ob; intro _) | apply All.chk | apply All.bt | (apply All.ptr; intro _ _) | (apply All.int; intro _ _) | (apply All.str; intro _) | (apply All.bool; intro _) | (apply All.agg; intro _) | (apply All.tup; intro _) | (apply All.mp; intro _) | (apply All.cells; intro _ _ _ _) | (apply All.map; intro _ _) | (apply All.nat; intro _) | (apply All.dst; intro _) | (apply All.dsl; intro _) | (apply All.dmp; intro _ _) | split)); exact ⟨_, rfl⟩
  case assign => show All _ (oMove p _ E T H q); unfold oMove; (repeat' (first | exact All.none | apply All.val | apply All.some | (apply All.opd; intro _) | (apply All.ob; intro _) | apply All.chk | apply All.bt | (apply All.ptr; intro _ _) | (apply All.int; intro _ _) | (apply All.str; intro _) | (apply All.bool; intro _) | (apply All.agg; intro _) | (apply All.tup; intro _) | (apply All.mp; intro _) | (apply All.cells; intro _ _ _ _) | (apply All.map; intro _ _) | (apply All.nat; intro _) | (apply All.dst; intro _) | (apply All.dsl; intro _) | (apply All.dmp; intro _ _) | split)); exact ⟨_, rfl⟩
  case pick => show All _ (oPick p _ _ _ E T H q); unfold oPick oMove; (repeat' (first | exact All.none | apply All.val | apply All.some | (apply All.opd; intro _) | (apply All.ob; intro _) | apply All.chk | apply All.bt | (apply All.ptr; intro _ _) | (apply All.int; intro _ _) | (apply All.str; intro _) | (apply All.bool; intro _) | (apply All.agg; intro _) | (apply All.tup; intro _) | (apply All.mp; intro _) | (apply All.cells; intro _ _ _ _) | (apply All.map; intro _ _) | (apply All.nat; intro _) | (apply All.dst; intro _) | (apply All.dsl; intro _) | (apply All.dmp; intro _ _) | split)) <;> exact ⟨_, rfl⟩
  case build => show All _ (oBuild p _ _ E T H q); unfold oBuild; (repeat' (first | exact All.none | apply All.val | apply All.some | (apply All.opd; intro _) | (apply All.ob; intro _) | apply All.chk | apply All.bt | (apply All.ptr; intro _ _) | (apply All.int; intro _ _) | (apply All.str; intro _) | (apply All.bool; intro _) | (apply All.agg; intro _) | (apply All.tup; intro _) | (apply All.mp; intro _) | (apply All.cells; intro _ _ _ _) | (apply All.map; intro _ _) | (apply All.nat; intro _) | (apply All.dst; intro _) | (apply All.dsl; intro _) | (apply All.dmp; intro _ _) | split)) <;> exact ⟨_, rfl⟩
  case load => show All _ (oLoad p _ _ E T H q); unfold oLoad; (repeat' (first | exact All.none | apply All.val | apply All.some | (apply All.opd; intro _) | (apply All.ob; intro _) | apply All.chk | apply All.bt | (apply All.ptr; intro _ _) | (apply All.int; intro _ _) | (apply All.str; intro _) | (apply All.bool; intro _) | (apply All.agg; intro _) | (apply All.tup; intro _) | (apply All.mp; intro _) | (apply All.cells; intro _ _ _ _) | (apply All.map; intro _ _) | (apply All.nat; intro _) | (apply All.dst; intro _) | (apply All.dsl; intro _) | (apply All.dmp; intro _ _) | split)) <;> exact ⟨_, rfl⟩
  case nilCheck => show All _ (oNilCheck p _ E T H q); unfold oNilCheck; (repeat' (first | exact All.none | apply All.val | apply All.some | (apply All.opd; intro _) | (apply All.ob; intro _) | apply All.chk | apply All.bt | (apply All.ptr; intro _ _) | (apply All.int; intro _ _) | (apply All.str; intro _) | (apply All.bool; intro _) | (apply All.agg; intro _) | (apply All.tup; intro _) | (apply All.mp; intro _) | (apply All.cells; intro _ _ _ _) | (apply All.map; intro _ _) | (apply All.nat; intro _) | (apply All.dst; intro _) | (apply All.dsl; intro _) | (apply All.dmp; intro _ _) | split)) <;> exact ⟨_, rfl⟩
  case binOp => show All _ (oBin p _ _ _ _ E T H q); unfold oBin; (repeat' (first | exact All.none | apply All.val | apply All.some | (apply All.opd; intro _) | (apply All.ob; intro _) | apply All.chk | apply All.bt | (apply All.ptr; intro _ _) | (apply All.int; intro _ _) | (apply All.str; intro _) | (apply All.bool; intro _) | (apply All.agg; intro _) | (apply All.tup; intro _) | (apply All.mp; intro _) | (apply All.cells; intro _ _ _ _) | (apply All.map; intro _ _) | (apply All.nat; intro _) | (apply All.dst; intro _) | (apply All.dsl; intro _) | (apply All.dmp; intro _ _) | split)) <;> exact ⟨_, rfl⟩
  case unOp => show All _ (oUn p _ _ E T H q); unfold oUn; (repeat' (first | exact All.none | apply All.val | apply All.some | (apply All.opd; intro _) | (apply All.ob; intro _) | apply All.chk | apply All.bt | (apply All.ptr; intro _ _) | (apply All.int; intro _ _) | (apply All.str; intro _) | (apply All.bool; intro _) | (apply All.agg; intro _) | (apply All.tup; intro _) | (apply All.mp; intro _) | (apply All.cells; intro _ _ _ _) | (apply All.map; intro _ _) | (apply All.nat; intro _) | (apply All.dst; intro _) | (apply All.dsl; intro _) | (apply All.dmp; intro _ _) | split)) <;> exact ⟨_, rfl⟩
  case convert s d x =>
    show All _ (oConvert p s d x E T H q)
    unfold oConvert
    apply All.opd; intro v
    have hk : kindV p d = 0 := hk
    unfold kindV at hk
    show All _ (ob (under p d) fun u => ob (under p s) fun d' => convA p u d' v H q)
    cases hd : under p d with
    | none => exact All.none
    | some u =>
      rw [hd] at hk
      show All _ (ob (under p s) fun d' => convA p u d' v H q)
      cases u <;> first | (have hk : (1 : Nat) = 0 := hk; cases hk; done) | skip
      all_goals first
        | exact All.ob fun d' => All.none
        | (refine All.ob fun d' => ?_
           show All _ (v.intK fun _ n => val H q (.int _ (wrapK _ n)))
           (repeat' (first | exact All.none | apply All.val | apply All.some | (apply All.opd; intro _) | (apply All.ob; intro _) | apply All.chk | apply All.bt | (apply All.ptr; intro _ _) | (apply All.int; intro _ _) | (apply All.str; intro _) | (apply All.bool; intro _) | (apply All.agg; intro _) | (apply All.tup; intro _) | (apply All.mp; intro _) | (apply All.cells; intro _ _ _ _) | (apply All.map; intro _ _) | (apply All.nat; intro _) | (apply All.dst; intro _) | (apply All.dsl; intro _) | (apply All.dmp; intro _ _) | split)) <;> exact ⟨_, rfl⟩)
        | (refine All.ob fun d' => ?_
           show All _ (match d' with
             | .slice e => ob (under p e) fun u => chk (isByte u) (toStrB H q v)
             | _ => toStr H q v)
           unfold toStr toStrB
           (repeat' (first | exact All.none | apply All.val | apply All.some | (apply All.opd; intro _) | (apply All.ob; intro _) | apply All.chk | apply All.bt | (apply All.ptr; intro _ _) | (apply All.int; intro _ _) | (apply All.str; intro _) | (apply All.bool; intro _) | (apply All.agg; intro _) | (apply All.tup; intro _) | (apply All.mp; intro _) | (apply All.cells; intro _ _ _ _) | (apply All.map; intro _ _) | (apply All.nat; intro _) | (apply All.dst; intro _) | (apply All.dsl; intro _) | (apply All.dmp; intro _ _) | split)) <;> exact ⟨_, rfl⟩)
  case makeInterface => show All _ (oMakeIface p _ _ E T H q); unfold oMakeIface; (repeat' (first | exact All.none | apply All.val | apply All.some | (apply All.opd; intro _) | (apply All.ob; intro _) | apply All.chk | apply All.bt | (apply All.ptr; intro _ _) | (apply All.int; intro _ _) | (apply All.str; intro _) | (apply All.bool; intro _) | (apply All.agg; intro _) | (apply All.tup; intro _) | (apply All.mp; intro _) | (apply All.cells; intro _ _ _ _) | (apply All.map; intro _ _) | (apply All.nat; intro _) | (apply All.dst; intro _) | (apply All.dsl; intro _) | (apply All.dmp; intro _ _) | split)) <;> exact ⟨_, rfl⟩
  case makeFunc => show All _ (oMakeFunc p _ _ _ E T H q); unfold oMakeFunc; (repeat' (first | exact All.none | apply All.val | apply All.some | (apply All.opd; intro _) | (apply All.ob; intro _) | apply All.chk | apply All.bt | (apply All.ptr; intro _ _) | (apply All.int; intro _ _) | (apply All.str; intro _) | (apply All.bool; intro _) | (apply All.agg; intro _) | (apply All.tup; intro _) | (apply All.mp; intro _) | (apply All.cells; intro _ _ _ _) | (apply All.map; intro _ _) | (apply All.nat; intro _) | (apply All.dst; intro _) | (apply All.dsl; intro _) | (apply All.dmp; intro _ _) | split)) <;> exact ⟨_, rfl⟩
  case slice => show All _ (oSlice p _ _ _ _ _ E T H q); unfold oSlice sliceA; (repeat' (first | exact All.none | apply All.val | apply All.some | (apply All.opd; intro _) | (apply All.ob; intro _) | apply All.chk | apply All.bt | (apply All.ptr; intro _ _) | (apply All.int; intro _ _) | (apply All.str; intro _) | (apply All.bool; intro _) | (apply All.agg; intro _) | (apply All.tup; intro _) | (apply All.mp; intro _) | (apply All.cells; intro _ _ _ _) | (apply All.map; intro _ _) | (apply All.nat; intro _) | (apply All.dst; intro _) | (apply All.dsl; intro _) | (apply All.dmp; intro _ _) | split)) <;> exact ⟨_, rfl⟩
  case fieldAddr => show All _ (oFieldAddr p _ _ _ E T H q); unfold oFieldAddr; (repeat' (first | exact All.none | apply All.val | apply All.some | (apply All.opd; intro _) | (apply All.ob; intro _) | apply All.chk | apply All.bt | (apply All.ptr; intro _ _) | (apply All.int; intro _ _) | (apply All.str; intro _) | (apply All.bool; intro _) | (apply All.agg; intro _) | (apply All.tup; intro _) | (apply All.mp; intro _) | (apply All.cells; intro _ _ _ _) | (apply All.map; intro _ _) | (apply All.nat; intro _) | (apply All.dst; intro _) | (apply All.dsl; intro _) | (apply All.dmp; intro _ _) | split)) <;> exact ⟨_, rfl⟩
  case field => show All _ (oField p _ _ _ E T H q); unfold oField; (repeat' (first | exact All.none | apply All.val | apply All.some | (apply All.opd; intro _) | (apply All.ob; intro _) | apply All.chk | apply All.bt | (apply All.ptr; intro _ _) | (apply All.int; intro _ _) | (apply All.str; intro _) | (apply All.bool; intro _) | (apply All.agg; intro _) | (apply All.tup; intro _) | (apply All.mp; intro _) | (apply All.cells; intro _ _ _ _) | (apply All.map; intro _ _) | (apply All.nat; intro _) | (apply All.dst; intro _) | (apply All.dsl; intro _) | (apply All.dmp; intro _ _) | split)) <;> exact ⟨_, rfl⟩
  case indexAddr => show All _ (oIndexAddr p _ _ _ E T H q); unfold oIndexAddr idxAddr; (repeat' (first | exact All.none | apply All.val | apply All.some | (apply All.opd; intro _) | (apply All.ob; intro _) | apply All.chk | apply All.bt | (apply All.ptr; intro _ _) | (apply All.int; intro _ _) | (apply All.str; intro _) | (apply All.bool; intro _) | (apply All.agg; intro _) | (apply All.tup; intro _) | (apply All.mp; intro _) | (apply All.cells; intro _ _ _ _) | (apply All.map; intro _ _) | (apply All.nat; intro _) | (apply All.dst; intro _) | (apply All.dsl; intro _) | (apply All.dmp; intro _ _) | split)) <;> exact ⟨_, rfl⟩
  case index => show All _ (oIndex p _ _ _ E T H q); unfold oIndex idx; (repeat' (first | exact All.none | apply All.val | apply All.some | (apply All.opd; intro _) | (apply All.ob; intro _) | apply All.chk | apply All.bt | (apply All.ptr; intro _ _) | (apply All.int; intro _ _) | (apply All.str; intro _) | (apply All.bool; intro _) | (apply All.agg; intro _) | (apply All.tup; intro _) | (apply All.mp; intro _) | (apply All.cells; intro _ _ _ _) | (apply All.map; intro _ _) | (apply All.nat; intro _) | (apply All.dst; intro _) | (apply All.dsl; intro _) | (apply All.dmp; intro _ _) | split)) <;> exact ⟨_, rfl⟩
  case lookup => show All _ (oLookup p _ _ _ _ E T H q); unfold oLookup; (repeat' (first | exact All.none | apply All.val | apply All.some | (apply All.opd; intro _) | (apply All.ob; intro _) | apply All.chk | apply All.bt | (apply All.ptr; intro _ _) | (apply All.int; intro _ _) | (apply All.str; intro _) | (apply All.bool; intro _) | (apply All.agg; intro _) | (apply All.tup; intro _) | (apply All.mp; intro _) | (apply All.cells; intro _ _ _ _) | (apply All.map; intro _ _) | (apply All.nat; intro _) | (apply All.dst; intro _) | (apply All.dsl; intro _) | (apply All.dmp; intro _ _) | split)) <;> exact ⟨_, rfl⟩
  case entry => show All _ (oEntry p _ E T H q); unfold oEntry; (repeat' (first | exact All.none | apply All.val | apply All.some | (apply All.opd; intro _) | (apply All.ob; intro _) | apply All.chk | apply All.bt | (apply All.ptr; intro _ _) | (apply All.int; intro _ _) | (apply All.str; intro _) | (apply All.bool; intro _) | (apply All.agg; intro _) | (apply All.tup; intro _) | (apply All.mp; intro _) | (apply All.cells; intro _ _ _ _) | (apply All.map; intro _ _) | (apply All.nat; intro _) | (apply All.dst; intro _) | (apply All.dsl; intro _) | (apply All.dmp; intro _ _) | split)) <;> exact ⟨_, rfl⟩
  case typeAssert => show All _ (oAssert p _ _ _ E T H q); unfold oAssert assertA; (repeat' (first | exact All.none | apply All.val | apply All.some | (apply All.opd; intro _) | (apply All.ob; intro _) | apply All.chk | apply All.bt | (apply All.ptr; intro _ _) | (apply All.int; intro _ _) | (apply All.str; intro _) | (apply All.bool; intro _) | (apply All.agg; intro _) | (apply All.tup; intro _) | (apply All.mp; intro _) | (apply All.cells; intro _ _ _ _) | (apply All.map; intro _ _) | (apply All.nat; intro _) | (apply All.dst; intro _) | (apply All.dsl; intro _) | (apply All.dmp; intro _ _) | split)) <;> exact ⟨_, rfl⟩
  case extract => show All _ (oExtract p _ _ E T H q); unfold oExtract; (repeat' (first | exact All.none | apply All.val | apply All.some | (apply All.opd; intro _) | (apply All.ob; intro _) | apply All.chk | apply All.bt | (apply All.ptr; intro _ _) | (apply All.int; intro _ _) | (apply All.str; intro _) | (apply All.bool; intro _) | (apply All.agg; intro _) | (apply All.tup; intro _) | (apply All.mp; intro _) | (apply All.cells; intro _ _ _ _) | (apply All.map; intro _ _) | (apply All.nat; intro _) | (apply All.dst; intro _) | (apply All.dsl; intro _) | (apply All.dmp; intro _ _) | split)) <;> exact ⟨_, rfl⟩
  case call c =>
    show All _ (oCall p c E T H q)
    unfold oCall
    apply All.ob; intro args
    have hk : (Callee.casesOn (motive := fun _ => Nat) c.callee (fun _ => 2) (fun _ _ => 2) kindC) = 0 := hk
    cases hc : c.callee with
    | value f => rw [hc] at hk; cases hk
    | invoke r n => rw [hc] at hk; cases hk
    | builtin b =>
      rw [hc] at hk
      have hk : kindC b = 0 := hk
      show All _ (callB p b c.argTypes.toList args E T H q)
      cases b <;> first | (cases hk; done) | exact All.none | skip
      · show All _ (bLen p c.argTypes.toList args E T H q); unfold bLen; (repeat' (first | exact All.none | apply All.val | apply All.some | (apply All.opd; intro _) | (apply All.ob; intro _) | apply All.chk | apply All.bt | (apply All.ptr; intro _ _) | (apply All.int; intro _ _) | (apply All.str; intro _) | (apply All.bool; intro _) | (apply All.agg; intro _) | (apply All.tup; intro _) | (apply All.mp; intro _) | (apply All.cells; intro _ _ _ _) | (apply All.map; intro _ _) | (apply All.nat; intro _) | (apply All.dst; intro _) | (apply All.dsl; intro _) | (apply All.dmp; intro _ _) | split)) <;> exact ⟨_, rfl⟩
      · show All _ (bMax args E T H q); unfold bMax; (repeat' (first | exact All.none | apply All.val | apply All.some | (apply All.opd; intro _) | (apply All.ob; intro _) | apply All.chk | apply All.bt | (apply All.ptr; intro _ _) | (apply All.int; intro _ _) | (apply All.str; intro _) | (apply All.bool; intro _) | (apply All.agg; intro _) | (apply All.tup; intro _) | (apply All.mp; intro _) | (apply All.cells; intro _ _ _ _) | (apply All.map; intro _ _) | (apply All.nat; intro _) | (apply All.dst; intro _) | (apply All.dsl; intro _) | (apply All.dmp; intro _ _) | split)) <;> exact ⟨_, rfl⟩
      · show All _ (bMin args E T H q); unfold bMin; (repeat' (first | exact All.none | apply All.val | apply All.some | (apply All.opd; intro _) | (apply All.ob; intro _) | apply All.chk | apply All.bt | (apply All.ptr; intro _ _) | (apply All.int; intro _ _) | (apply All.str; intro _) | (apply All.bool; intro _) | (apply All.agg; intro _) | (apply All.tup; intro _) | (apply All.mp; intro _) | (apply All.cells; intro _ _ _ _) | (apply All.map; intro _ _) | (apply All.nat; intro _) | (apply All.dst; intro _) | (apply All.dsl; intro _) | (apply All.dmp; intro _ _) | split)) <;> exact ⟨_, rfl⟩
end
end Go.Proofs.YtogmhgklmjbfaaaGreatDoor.Kv
