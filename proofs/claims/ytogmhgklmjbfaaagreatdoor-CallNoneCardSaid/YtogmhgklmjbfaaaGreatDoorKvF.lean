/-
  Operations that only look: parts, loads, equality, numbers, strings, indexes, slices, type assertions.
-/
import Derived.Test.YtogmhgklmjbfaaaGreatDoorKvE
namespace Go.Proofs.YtogmhgklmjbfaaaGreatDoor.Kv
section
variable {P : Program} {p : PT} {σ : Nat → Value} {ρ : Loc} {H : Hp} {q : Nat} {w : World}

theorem add_plain (r o n : Nat) : (⟨r, o, none⟩ : Addr).add n = ⟨r, o + n, none⟩ := by
  unfold Addr.add
  split
  · rename_i h; subst h; rfl
  · rfl

/-! ### blocks of cells -/
theorem Sim.cells (s : Sim P σ ρ H.get w) {b : Nat} {l : List AV} {e : TypeId} {o g : Bool} (hb : H.get b = some (.cells l e o g)) {x : Nat × Nat} (hx : ρ b = some x) :
    ∃ (c : Array Value) (fr : Nat × Nat), w.heap[x.1]? = some (.cells c e fr) ∧ l.length ≤ c.size ∧ (o = false → c.size = l.length) ∧ (o = true → c.size = x.2 * P.cellsOf e) ∧
      All2 (fun v V => conc σ ρ v = some V) l (c.toList.take l.length) ∧ fr = (if g then (c.size, c.size + 1) else (0, 0)) := by
  obtain ⟨y, R, hy, hR, c, fr, rfl, h1, h2, h3, h4, h5⟩ := s.obj b _ hb
  rw [hx] at hy
  cases hy
  refine ⟨c, fr, hR, h1, h2, h3, All2.of_get (by simp; omega) fun i v V hv hV => ?_, h5⟩
  obtain ⟨V', hV', hc⟩ := h4 i v hv
  have hi : i < l.length := by
    cases Nat.lt_or_ge i l.length with
    | inl h => exact h
    | inr h => rw [List.getElem?_eq_none h] at hv; cases hv
  rw [List.getElem?_take_of_lt hi, Array.getElem?_toList, hV'] at hV
  cases hV
  exact hc

theorem cell_row {c : Array Value} {e : TypeId} {fr : Nat × Nat} {r : Nat} (h : w.heap[r]? = some (.cells c e fr)) (o : Nat) : w.cell? ⟨r, o, none⟩ = c[o]? := by simp [World.cell?, h]

/-- cells in a row -/
theorem Sim.range (s : Sim P σ ρ H.get w) {b off n : Nat} {l r : List AV} {e : TypeId} {o g : Bool} (hb : H.get b = some (.cells l e o g)) {x : Nat × Nat} (hx : ρ b = some x)
    (ht : takeN n (dropN off l) = some r) : ∃ cs : List Value, cs.length = n ∧ r.length = n ∧ All2 (fun v V => conc σ ρ v = some V) r cs ∧ ∀ (j : Nat) (v : Value), cs[j]? = some v → w.cell? ((⟨x.1, off, none⟩ : Addr).add j) = some v := by
  obtain ⟨c, fr, hR, h1, h2, h3, h4, h5⟩ := s.cells hb hx
  rw [takeN_eq, dropN_eq] at ht
  obtain ⟨ht1, rfl⟩ := ht
  have hl : off + n ≤ l.length ∨ n = 0 := by simp at ht1; omega
  have ha := All2.take n (All2.drop off h4)
  have hlen : ((l.drop off).take n).length = n := by simp; simp at ht1; omega
  refine ⟨((c.toList.take l.length).drop off).take n, by rw [← All2.length ha]; exact hlen, hlen, ha, fun j v hv => ?_⟩
  have hj : j < n := by
    cases Nat.lt_or_ge j n with
    | inl h => exact h
    | inr h => rw [List.getElem?_eq_none (by simp; omega)] at hv; cases hv
  rw [add_plain, cell_row hR]
  rw [List.getElem?_take_of_lt hj, List.getElem?_drop] at hv
  simp at ht1
  rw [List.getElem?_take_of_lt (by omega), Array.getElem?_toList] at hv
  exact hv

theorem run_load_k {a : Addr} {v : Value} (h : w.cell? a = some v) : (load a).run P w = .ok v w := by simp [h]

theorem loadA_ok (k : PTOk P p) (s : Sim P σ ρ H.get w) {t : TypeId} {a v : AV} {A : Value} (h : loadA p H t a = some v) (ha : conc σ ρ a = some A) :
    ∃ ad V, A = .pointer (some ad) ∧ (loadVar t ad).run P w = .ok V w ∧ conc σ ρ v = some V := by
  simp only [loadA, AV.ptrK_eq, ob_eq, AO.cellsK_eq] at h
  obtain ⟨b, off, rfl, o, hb, l, e, op, g, rfl, h⟩ := h
  simp only [conc, Option.map_eq_some_iff] at ha
  obtain ⟨x, hx, rfl⟩ := ha
  refine ⟨⟨x.1, off, none⟩, ?_⟩
  simp only [partA, ob_eq] at h
  obtain ⟨gg, hg, h⟩ := h
  have hgr := k.runIsAgg w hg
  cases gg with
  | false =>
    change (List.casesOn (dropN off l) none (fun v _ => some v) : Option AV) = some v at h
    cases hd : dropN off l with
    | nil => rw [hd] at h; cases h
    | cons u r =>
      rw [hd] at h
      cases h
      have ht : takeN 1 (dropN off l) = some [v] := by rw [hd]; rfl
      obtain ⟨cs, h1, h2, h3, h4⟩ := s.range hb hx ht
      obtain ⟨V, rfl⟩ : ∃ V, cs = [V] := by
        cases cs with
        | nil => simp at h1
        | cons V r => cases r with
          | nil => exact ⟨V, rfl⟩
          | cons _ _ => simp at h1
      have hc := h4 0 V rfl
      rw [add_plain] at hc
      refine ⟨V, rfl, ?_, h3.1⟩
      simp only [loadVar, Sem.run_bind, hgr, Result.andThen_ok, Bool.false_eq_true, if_false]
      exact run_load_k hc
  | true =>
    change ob (sizeA p t) (fun n => ob (takeN n (dropN off l)) fun r => some (.agg r)) = some v at h
    simp only [ob_eq] at h
    obtain ⟨n, hn, r, hr, h⟩ := h
    cases h
    obtain ⟨cs, h1, h2, h3, h4⟩ := s.range hb hx hr
    refine ⟨.agg cs.toArray, rfl, ?_, by simp [conc, (concs_all r cs).2 h3]⟩
    simp only [loadVar, Sem.run_bind, hgr, Result.andThen_ok, if_true, k.runSize w hn]
    rw [← h1, run_loadCells_list w _ cs h4]
    simp

theorem partA_ok (k : PTOk P p) {t : TypeId} {cs : List AV} {off : Nat} {v : AV} {CS : List Value} (h : partA p t cs off = some v) (hc : concs σ ρ cs = some CS) :
    ∃ V, (part t CS.toArray off).run P w = .ok V w ∧ conc σ ρ v = some V := by
  rw [concs_all] at hc
  simp only [partA, ob_eq] at h
  obtain ⟨gg, hg, h⟩ := h
  have hgr := k.runIsAgg w hg
  cases gg with
  | false =>
    change (List.casesOn (dropN off cs) none (fun v _ => some v) : Option AV) = some v at h
    cases hd : dropN off cs with
    | nil => rw [hd] at h; cases h
    | cons u r =>
      rw [hd] at h
      cases h
      have e : cs[off]? = some v := by
        rw [dropN_eq] at hd
        have := congrArg List.head? hd
        simpa using this
      obtain ⟨V, hV, hv⟩ := hc.get e
      refine ⟨V, ?_, hv⟩
      simp only [part, Sem.run_bind, hgr, Result.andThen_ok, Bool.false_eq_true, if_false]
      simp [hV]
  | true =>
    change ob (sizeA p t) (fun n => ob (takeN n (dropN off cs)) fun r => some (.agg r)) = some v at h
    simp only [ob_eq] at h
    obtain ⟨n, hn, r, hr, h⟩ := h
    cases h
    rw [takeN_eq, dropN_eq] at hr
    obtain ⟨h1, rfl⟩ := hr
    refine ⟨.agg ((CS.drop off).take n).toArray, ?_, by simp [conc, (concs_all _ _).2 (All2.take n (All2.drop off hc))]⟩
    simp only [part, Sem.run_bind, hgr, Result.andThen_ok, if_true, k.runSize w hn]
    simp only [Sem.run_pure]
    congr 2
    apply Array.ext'
    simp [List.extract_eq_take_drop]

/-! ### equality -/
theorem sameAddr_ok (s : Sim P σ ρ H.get w) {b o b' o' : Nat} {r : Bool} (h : eqAddr H b o b' o' = some r) {x x' : Nat × Nat} (hx : ρ b = some x) (hx' : ρ b' = some x') :
    (sameAddr ⟨x.1, o, none⟩ ⟨x'.1, o', none⟩).run P w = .ok r w := by
  simp only [eqAddr, bt_eq] at h
  rcases h with ⟨hb, h⟩ | ⟨hb, h⟩
  · have := Nat.eq_of_beq_eq_true hb
    subst this
    rw [hx] at hx'
    cases hx'
    cases h
    simp only [sameAddr]
    simp only [beq_self_eq_true, if_true, Sem.run_pure]
    congr 1
    rw [Bool.eq_iff_iff]
    simp
  · simp only [ob_eq, AO.cellsK_eq, chk_eq] at h
    obtain ⟨y, hy, l, e, op, g, rfl, y', hy', l', e', op', g', rfl, hg, hg', h⟩ := h
    cases h
    simp at hg hg'
    subst hg hg'
    obtain ⟨c, fr, hR, h1, h2, h3, h4, rfl⟩ := s.cells hy hx
    obtain ⟨c', fr', hR', h1', h2', h3', h4', rfl⟩ := s.cells hy' hx'
    have hne : x.1 ≠ x'.1 := by
      intro ee
      have := s.inj b b' x x' (by rw [hy]; simp) (by rw [hy']; simp) hx hx' ee
      subst this
      simp at hb
    have e1 : (x.1 == x'.1) = false := by simpa using hne
    have f1 : ∀ o, w.frozen? ⟨x.1, o, none⟩ = false := fun o => by simp [World.frozen?, hR]
    have f2 : ∀ o, w.frozen? ⟨x'.1, o, none⟩ = false := fun o => by simp [World.frozen?, hR']
    have s1 : w.shape? x.1 = some (e, c.size) := by simp [World.shape?, hR]
    have s2 : w.shape? x'.1 = some (e', c'.size) := by simp [World.shape?, hR']
    simp [sameAddr, e1, f1, f2, noView, viewAt, s1, s2, mayBeOne, stringish]

theorem floatEq_bool (k : FloatKind) (a b : Nat) : Op.floatEq k a b = Op.floatEq k a b := rfl

/-- the loop over a struct's fields, as a list -/
def eqLoop (d : Nat) (xs ys : Array Value) : List Field → Sem Bool := Op.eqFields d xs ys

theorem eqFields_ok (k : PTOk P p) {d : Nat} {eq : TypeId → AV → AV → Option Bool}
    (ih : ∀ t x y X Y r, eq t x y = some r → conc σ ρ x = some X → conc σ ρ y = some Y → (Op.equalIn d t X Y).run P w = .ok r w) :
    ∀ (fs : List Field) (xs ys : List AV) (XS YS : List Value) (r : Bool), eqFields p eq fs xs ys = some r → concs σ ρ xs = some XS → concs σ ρ ys = some YS →
      (Op.eqFields d XS.toArray YS.toArray fs).run P w = .ok r w
  | [], xs, ys, XS, YS, r, h, _, _ => by
    have h : some true = some r := h
    cases h
    simp [Op.eqFields]
  | f :: fs, xs, ys, XS, YS, r, h, hx, hy => by
    have h : bt (decide (f.name = "_")) (eqFields p eq fs xs ys) (ob (partA p f.type xs f.offset) fun a => ob (partA p f.type ys f.offset) fun b => ob (eq f.type a b) fun q => bt q (eqFields p eq fs xs ys) (some false)) = some r := h
    rw [bt_eq] at h
    rcases h with ⟨hn, h⟩ | ⟨hn, h⟩
    · have hn : f.name = "_" := by simpa using hn
      have := eqFields_ok k ih fs xs ys XS YS r h hx hy
      simp [Op.eqFields, hn, this]
    · have hn : ¬ f.name = "_" := by simpa using hn
      simp only [ob_eq] at h
      obtain ⟨a, ha, b, hb, q, hq, h⟩ := h
      obtain ⟨A, hA, ca⟩ := partA_ok (w := w) k ha hx
      obtain ⟨B, hB, cb⟩ := partA_ok (w := w) k hb hy
      have hr := ih _ _ _ _ _ _ hq ca cb
      rw [bt_eq] at h
      rcases h with ⟨rfl, h⟩ | ⟨rfl, h⟩
      · have := eqFields_ok k ih fs xs ys XS YS r h hx hy
        simp [Op.eqFields, hn, hA, hB, hr, this]
      · cases h
        simp [Op.eqFields, hn, hA, hB, hr]

theorem fieldsOf_k {t : TypeId} {fs : Array Field} (h : P.underlying t = some (.struct fs)) : P.fieldsOf t = fs := by simp [Program.fieldsOf, h]

theorem strOf_toList (l : List UInt8) : (ByteArray.mk l.toArray).toList = l := by rw [ByteArray.toList_mk]

set_option maxHeartbeats 2000000 in
theorem eqIn_ok (k : PTOk P p) (s : Sim P σ ρ H.get w) : ∀ (d : Nat) (t : TypeId) (x y : AV) (X Y : Value) (r : Bool), eqIn p H d t x y = some r → conc σ ρ x = some X → conc σ ρ y = some Y →
    (Op.equalIn d t X Y).run P w = .ok r w
  | 0, _, _, _, _, _, _, h, _, _ => by simp [eqIn] at h
  | d + 1, t, x, y, X, Y, r, h, hx, hy => by
    simp only [eqIn] at h
    split at h
    · rename_i a b hu
      simp only [conc, Option.some.injEq] at hx hy
      subst hx hy
      cases h
      simp [Op.equalIn, run_underlying (k.under hu)]
    · rename_i k1 k2 a k3 b hu
      simp only [conc, Option.some.injEq] at hx hy
      subst hx hy
      rw [chk_eq, kBeq_eq] at h
      obtain ⟨rfl, h⟩ := h
      cases h
      simp [Op.equalIn, run_underlying (k.under hu), intBeq_eq]
    · rename_i k1 k2 a b k3 a' b' hu
      simp only [conc, Option.some.injEq] at hx hy
      subst hx hy
      split at h
      · rename_i e
        subst e
        cases h
        simp [Op.equalIn, run_underlying (k.under hu)]
      · cases h
    · rename_i a b hu
      simp only [conc, Option.some.injEq] at hx hy
      subst hx hy
      cases h
      simp [Op.equalIn, run_underlying (k.under hu), strBeq_eq, beq_toListBytes, ByteArray.toList_mk]
    · rename_i e hu
      simp only [conc, Option.some.injEq] at hx hy
      subst hx hy
      cases h
      simp [Op.equalIn, run_underlying (k.under hu)]
    · rename_i e b o hu
      simp only [conc, Option.some.injEq, Option.map_eq_some_iff] at hx hy
      subst hx
      obtain ⟨y, _, rfl⟩ := hy
      cases h
      simp [Op.equalIn, run_underlying (k.under hu)]
    · rename_i e b o hu
      simp only [conc, Option.some.injEq, Option.map_eq_some_iff] at hx hy
      subst hy
      obtain ⟨y, _, rfl⟩ := hx
      cases h
      simp [Op.equalIn, run_underlying (k.under hu)]
    · rename_i e b o b' o' hu
      simp only [conc, Option.map_eq_some_iff] at hx hy
      obtain ⟨u, hu1, rfl⟩ := hx
      obtain ⟨u', hu2, rfl⟩ := hy
      split at h
      · rename_i n hn
        have hr := sameAddr_ok s h hu1 hu2
        simp [Op.equalIn, run_underlying (k.under hu), k.runSize w hn, hr]
      · cases h
    · rename_i ms hu
      simp only [conc, Option.some.injEq] at hx hy
      subst hx hy
      cases h
      simp [Op.equalIn, run_underlying (k.under hu)]
    · rename_i ms t' v' hu
      simp only [conc, Option.some.injEq, Option.map_eq_some_iff] at hx hy
      subst hx
      obtain ⟨y, _, rfl⟩ := hy
      cases h
      simp [Op.equalIn, run_underlying (k.under hu)]
    · rename_i ms t' v' hu
      simp only [conc, Option.some.injEq, Option.map_eq_some_iff] at hx hy
      subst hy
      obtain ⟨y, _, rfl⟩ := hx
      cases h
      simp [Op.equalIn, run_underlying (k.under hu)]
    · rename_i ms t1 v1 t2 v2 hu
      simp only [conc, Option.map_eq_some_iff] at hx hy
      obtain ⟨V1, h1, rfl⟩ := hx
      obtain ⟨V2, h2, rfl⟩ := hy
      rw [bt_eq] at h
      rcases h with ⟨e, h⟩ | ⟨e, h⟩
      · have := Nat.eq_of_beq_eq_true e
        subst this
        simp only [ob_eq, chk_eq] at h
        obtain ⟨i, hi, hc, h⟩ := h
        have hr := eqIn_ok k s d t1 v1 v2 V1 V2 r h h1 h2
        simp [Op.equalIn, run_underlying (k.under hu), run_typeInfo_k w (k.types _ _ hi), hc, hr]
      · have : t1 ≠ t2 := fun ee => by subst ee; simp at e
        cases h
        simp [Op.equalIn, run_underlying (k.under hu), this]
    · rename_i fs xs ys hu
      simp only [conc, Option.map_eq_some_iff] at hx hy
      obtain ⟨XS, h1, rfl⟩ := hx
      obtain ⟨YS, h2, rfl⟩ := hy
      rw [chk_eq] at h
      have hU := k.under hu
      have hf := fieldsOf_k hU
      rw [run_equalIn_struct w d t _ _ (by rw [hf]; exact hU) (k.eqs t h.1), hf]
      exact eqFields_ok k (fun t x y X Y r h hx hy => eqIn_ok k s d t x y X Y r h hx hy) _ _ _ _ _ _ h.2 h1 h2
    all_goals
      first
        | (cases h; done)
        | (rename_i hu
           simp only [conc, Option.some.injEq, Option.map_eq_some_iff, Option.bind_eq_some_iff] at hx hy
           cases h
           first
             | (subst hx hy; simp [Op.equalIn, run_underlying (k.under hu)]; done)
             | (subst hx; obtain ⟨_, _, rfl⟩ := hy; simp [Op.equalIn, run_underlying (k.under hu)]; done)
             | (subst hy; obtain ⟨_, _, rfl⟩ := hx; simp [Op.equalIn, run_underlying (k.under hu)]; done)
             | (subst hx; obtain ⟨_, _, hy⟩ := hy; split at hy <;> cases hy; simp [Op.equalIn, run_underlying (k.under hu)]; done)
             | (subst hy; obtain ⟨_, _, hx⟩ := hx; split at hx <;> cases hx; simp [Op.equalIn, run_underlying (k.under hu)]; done)
             | (subst hx; obtain ⟨_, _, _, _, rfl⟩ := hy; simp [Op.equalIn, run_underlying (k.under hu)]; done)
             | (subst hy; obtain ⟨_, _, _, _, rfl⟩ := hx; simp [Op.equalIn, run_underlying (k.under hu)]; done))
end
end Go.Proofs.YtogmhgklmjbfaaaGreatDoor.Kv
