/-
  append; len, min, max.
-/
import Derived.Test.YtogmhgklmjbfaaaGreatDoorKvK
namespace Go.Proofs.YtogmhgklmjbfaaaGreatDoor.Kv
section
variable {P : Program} {p : PT} {σ : Nat → Value} {ρ : Loc} {H : Hp} {q : Nat} {w : World} {m : Nat} {E : Env} {T : Tr AV} {a : Act} {o : Oper} {res : OR}

theorem toArray_app3 (A B : List Value) (Z : Array Value) : A.toArray ++ B.toArray ++ Z = (A ++ B ++ Z.toList).toArray := by
  apply Array.ext'
  simp
theorem range_firstCells {y : Addr} {n k len cap : Nat} {cs : List Value} (h1 : cs.length = n * k) (h4 : ∀ (j : Nat) (v : Value), cs[j]? = some v → w.cell? (y.add j) = some v) :
    (Builtin.firstCells k n (.slice (some y) len cap)).run P w = .ok cs.toArray w := run_firstCells_some (P := P) w k n y len cap cs h1 h4

theorem cell_of_heap {w' : World} (e : w'.heap = w.heap) (y : Addr) : w'.cell? y = w.cell? y := by simp [World.cell?, e]

theorem newCells_ok (s : Sim P σ ρ H.get w) {k n : Nat} {x : AV} {X : Value} {L : List AV} (h : newCells H k x = some (n, L)) (hx : conc σ ρ x = some X) :
    ∃ N : List Value, (∀ w', w'.heap = w.heap → (Builtin.lenOf X).run P w' = .ok n w' ∧ (Builtin.firstCells k n X).run P w' = .ok N.toArray w') ∧ All2 (fun v V => conc σ ρ v = some V) L N ∧ N.length = n * k := by
  unfold newCells at h
  split at h
  · cases h
    simp only [conc, Option.some.injEq] at hx
    subst hx
    exact ⟨[], fun _ _ => ⟨rfl, rfl⟩, trivial, by simp⟩
  · rename_i b off n' c
    simp only [ob_eq] at h
    obtain ⟨l, hl, h⟩ := h
    cases h
    simp only [conc, Option.map_eq_some_iff] at hx
    obtain ⟨y, hy, rfl⟩ := hx
    obtain ⟨cs, h1, h2, h3, h4⟩ := cellsAt_ok s hl hy
    exact ⟨cs, fun w' e => ⟨rfl, range_firstCells h1 fun j v hj => by rw [cell_of_heap e]; exact h4 j v hj⟩, h3, h1⟩
  · rename_i b off n' c
    simp only [ob_eq] at h
    obtain ⟨l, hl, h⟩ := h
    cases h
    simp only [conc, Option.bind_eq_some_iff] at hx
    obtain ⟨y, hy, hx⟩ := hx
    split at hx
    · injection hx with hx
      subst hx
      obtain ⟨cs, h1, h2, h3, h4⟩ := cellsAt_ok s hl hy
      exact ⟨cs, fun w' e => ⟨rfl, range_firstCells h1 fun j v hj => by rw [cell_of_heap e]; exact h4 j v hj⟩, h3, h1⟩
    · cases hx
  · rename_i l
    rw [chk_eq] at h
    obtain ⟨hk, h⟩ := h
    cases Nat.eq_of_beq_eq_true hk
    cases h
    simp only [conc, Option.some.injEq] at hx
    subst hx
    have hsz : (ByteArray.mk l.toArray).size = l.length := by simp [ByteArray.size]
    refine ⟨l.map fun b => .int .u8 b.toNat, fun w' _ => ⟨?_, ?_⟩, ?_, by simp [len_eq]⟩
    · simp [Builtin.lenOf, hsz, len_eq]
    · simp only [Builtin.firstCells, Sem.run_pure, len_eq]
      congr 1
      apply Array.ext'
      simp [ByteArray.data_extract]
    · refine All2.of_get (by simp) fun i v V hv hV => ?_
      rw [List.getElem?_map, Option.map_eq_some_iff] at hv hV
      obtain ⟨b, hb, rfl⟩ := hv
      obtain ⟨b', hb', rfl⟩ := hV
      rw [hb] at hb'; cases hb'
      exact conc_int _ _
  · cases h

section
variable {ts : Array TypeId} {t u e ty : TypeId} {du : TypeDesc} {i : TypeInfo} {S X : Value} {n : Nat} {N : List Value}
theorem run_append_room_some (h0 : ts[0]? = some t) (h1 : ts[1]? = some u) (hU : P.underlying t = some (.slice e)) (hu : P.underlying u = some du) (hn : notInt du = true) (hi : P.info? e = some i) (hl : (Builtin.lenOf X).run P w = .ok n w) (hN : (Builtin.firstCells i.size n X).run P w = .ok N.toArray w) {ad : Addr} {sLen sCap : Nat} {w' : World} (hr : sLen + n ≤ sCap) (hs : (storeCells (ad.add (sLen * i.size)) N).run P w = .ok () w') :
    (Builtin.append_ ts ty #[.slice (some ad) sLen sCap, X]).run P w = .ok (.slice (some ad) (sLen + n) sCap) w' := by
  have hz : (du matches .int _) = false := by cases du <;> first | rfl | cases hn
  simp only [Builtin.append_, h0, h1]
  simp only [List.getElem?_toArray, List.getElem?_cons_zero, List.getElem?_cons_succ, Sem.run_bind, run_underlying hU, Result.andThen_ok, run_sizeOf_k w hi, run_underlying hu, Sem.run_pure]
  cases du <;> first | (cases hn; done) | skip
  all_goals
    simp only [Sem.run_bind, Sem.run_pure, Result.andThen_ok, Bool.false_eq_true, if_false, hl, if_pos hr, Bool.not_false, if_true, hN, hs]

theorem run_append_room_none (h0 : ts[0]? = some t) (h1 : ts[1]? = some u) (hU : P.underlying t = some (.slice e)) (hu : P.underlying u = some du) (hn : notInt du = true) (hi : P.info? e = some i) (hl : (Builtin.lenOf X).run P w = .ok n w) (hN : (Builtin.firstCells i.size n X).run P w = .ok N.toArray w) {sCap : Nat} (hr : n ≤ sCap) : (Builtin.append_ ts ty #[.slice none 0 sCap, X]).run P w = .ok (.slice none n sCap) w := by
  simp only [Builtin.append_, h0, h1]
  simp only [List.getElem?_toArray, List.getElem?_cons_zero, List.getElem?_cons_succ, Sem.run_bind, run_underlying hU, Result.andThen_ok, run_sizeOf_k w hi, run_underlying hu, Sem.run_pure]
  cases du <;> first | (cases hn; done) | skip
  all_goals
    simp only [Sem.run_bind, Sem.run_pure, Result.andThen_ok, Bool.false_eq_true, if_false, hl, Nat.zero_add, if_pos hr, Bool.not_false, if_true, hN]

theorem run_append_grown (h0 : ts[0]? = some t) (h1 : ts[1]? = some u) (hU : P.underlying t = some (.slice e)) (hu : P.underlying u = some du) (hn : notInt du = true) (hi : P.info? e = some i) (hl : (Builtin.lenOf X).run P w = .ok n w) {base : Option Addr} {sLen sCap : Nat} {Z : Value} {old : List Value} (hr : ¬ sLen + n ≤ sCap) (hb : 0 < i.bytes) (hbig : (2 * (sLen + n)) * i.bytes ≤ 1000000000) (hz : i.zero = some Z)
    (hZ : Z.cells.size = i.size) (ho : ∀ w', w'.heap = w.heap → (Builtin.firstCells i.size sLen (.slice base sLen sCap)).run P w' = .ok old.toArray w')
    (hN' : ∀ w', w'.heap = w.heap → (Builtin.firstCells i.size n X).run P w' = .ok N.toArray w') (hlo : old.length = sLen * i.size) (hln : N.length = n * i.size) :
    ∃ (C : Nat) (c : List Value) (w' : World), sLen + n ≤ C ∧ c.length = C * i.size ∧ w'.heap = w.heap.push (.cells c.toArray e) ∧ (w'.os = w.os ∧ w'.output = w.output) ∧ (∀ (j : Nat) (v : Value), (old ++ N)[j]? = some v → c[j]? = some v) ∧
      (Builtin.append_ ts ty #[.slice base sLen sCap, X]).run P w = .ok (.slice (some ⟨w.heap.size, 0, none⟩) (sLen + n) C) w' := by
  have hgr := nextslicecap_le (need := sLen + n) (old := sCap) (by omega)
  have hfit : ¬ (Builtin.nextslicecap (sLen + n) sCap * i.bytes > 2 ^ 48) := by
    have h1 : Builtin.nextslicecap (sLen + n) sCap * i.bytes ≤ 2 * (sLen + n) * i.bytes := Nat.mul_le_mul_right _ hgr
    have h2 : (2 : Nat) ^ 48 = 281474976710656 := by decide
    omega
  have hmax : ¬ (((sLen + n : Nat) : Int) > IntKind.i64.max ∧ (False ∨ i.bytes = 0)) := by
    rintro ⟨_, h | h⟩
    · exact h
    · omega
  let C := (Question.appendCap (sLen + n) sCap e).cut (w.tape w.drawn (.appendCap (sLen + n) sCap e))
  have hC : sLen + n ≤ C := by simp only [C, Question.cut]; omega
  refine ⟨C, old ++ N ++ (Builtin.zeroCells Z.cells (C - (sLen + n))).toList, { w with drawn := w.drawn + 1, heap := w.heap.push (.cells (old ++ N ++ (Builtin.zeroCells Z.cells (C - (sLen + n))).toList).toArray e) }, hC, ?_, rfl, ⟨rfl, rfl⟩, ?_, ?_⟩
  · simp [hlo, hln, Builtin.zeroCells, hZ]
    rw [← Nat.add_mul, ← Nat.add_mul]
    congr 1
    omega
  · intro j v hv
    have : j < (old ++ N).length := by
      cases Nat.lt_or_ge j (old ++ N).length with
      | inl h => exact h
      | inr h => rw [List.getElem?_eq_none h] at hv; cases hv
    rw [List.getElem?_append_left this]
    exact hv
  · simp only [Builtin.append_, h0, h1]
    simp only [List.getElem?_toArray, List.getElem?_cons_zero, List.getElem?_cons_succ, Sem.run_bind, run_underlying hU, Result.andThen_ok, run_sizeOf_k w hi, run_underlying hu, Sem.run_pure]
    cases du <;> first | (cases hn; done) | skip
    all_goals
      simp only [Sem.run_bind, Sem.run_pure, Result.andThen_ok, Bool.false_eq_true, if_false, hl, if_neg hr, run_typeInfo_k w hi]
      rw [if_neg hmax]
      simp only [Sem.run_bind, run_typeInfo_k w hi, Result.andThen_ok]
      rw [if_neg hfit]
      simp only [Sem.run_bind, run_choose, Question.forced, Bool.false_eq_true, if_false, Result.andThen_ok, run_askRoom, run_typeInfo_k _ hi, run_zeroValue_k _ hi hz, Bool.not_false, if_true]
      rw [ho { w with drawn := w.drawn + 1 } rfl]
      simp only [Result.andThen_ok]
      rw [hN' { w with drawn := w.drawn + 1 } rfl]
      simp only [Result.andThen_ok, newRow, Sem.run_bind, run_newObj, Sem.run_pure]
      rw [toArray_app3]
end

theorem grown_rel {ρ' : Loc} (k : PTOk P p) {e : TypeId} {sz C : Nat} (hs : P.cellsOf e = sz) {l : List AV} {L c : List Value} (hl : All2 (fun v V => conc σ ρ v = some V) l L) (hle : LocLe ρ ρ')
    (hc : c.length = C * sz) (hlc : L.length ≤ c.length) (hget : ∀ (j : Nat) (v : Value), L[j]? = some v → c[j]? = some v) : ObjRel P σ ρ' C (.cells l e true false) (.cells c.toArray e) := by
  have := All2.length hl
  refine ⟨c.toArray, (0, 0), rfl, by simp; omega, (fun h => by cases h), (fun _ => by simp [hc, hs]), fun i v hv => ?_, rfl⟩
  obtain ⟨V, h1, h2⟩ := hl.get hv
  exact ⟨V, by simpa using hget i V h1, conc_le hle _ _ h2⟩

theorem Ext.sub {ρ1 : Loc} {h h1 h2 : HF} {q q1 : Nat} {w w1 : World} (a : Ext ρ h q w ρ1 h1 q1 w1) (hs : ∀ b, h2 b ≠ none → h1 b ≠ none) : Ext ρ h q w ρ1 h2 q1 w1 :=
  ⟨a.le, a.new, fun b hb => a.alive b (hs b hb), a.qle, a.size, a.frame, a.env⟩

theorem bigOk_le {need y : Nat} (h : bigOk need y = true) : 2 * need * y ≤ 1000000000 := by
  have h := Nat.le_of_ble_eq_true h
  have : 2 * need * y ≤ (2 * need + 1000) * y := Nat.mul_le_mul_right _ (by omega)
  omega

theorem appendA_ok (hσ : Plain σ) (k : PTOk P p) (s : Sim P σ ρ H.get w) (hq : Fresh ρ q (res.next q)) {ts : Array TypeId} {t u e ty : TypeId} {du : TypeDesc} {sz y : Nat} {z : AV} {x b : AV} {S X : Value} {n : Nat} {L : List AV}
    (h0 : ts[0]? = some t) (h1 : ts[1]? = some u) (hU : P.underlying t = some (.slice e)) (hu : P.underlying u = some du) (hn : notInt du = true) (hsz : sizeA p e = some sz) (hby : bytesA p e = some y) (hz : zeroA p e = some z)
    (hk0 : 0 < sz) (hy0 : 0 < y) (hzl : z.cells.length = sz) (hN : newCells H sz x = some (n, L)) (hx : conc σ ρ x = some X) (hb : conc σ ρ b = some S)
    (h : appendA e sz y b (n, L) E T H q = some res) : ∃ V w', (Builtin.append_ ts ty #[S, X]).run P w = .ok V w' ∧ OpOk P σ ρ H.get q w (.ok (.value V) w') res := by
  obtain ⟨N, hrun, hL, hNl⟩ := newCells_ok s hN hx
  have hLl := All2.length hL
  obtain ⟨hce, i, hi, his⟩ := k.size hsz
  obtain ⟨i', hi', hib⟩ := k.bytes hby
  rw [hi] at hi'; cases hi'
  obtain ⟨i', Z, hi', hZ, _, hcz⟩ := k.zero σ ρ hz
  rw [hi] at hi'; cases hi'
  have hZl : Z.cells.size = i.size := by
    have := All2.length (cells_conc hσ hcz)
    simp at this; omega
  subst his hib
  have grow : ∀ {base : Option Addr} {sLen sCap : Nat} {old : List Value} {l : List AV}, ¬ sLen + n ≤ sCap → bigOk (sLen + n) i.bytes = true →
      (∀ w', w'.heap = w.heap → (Builtin.firstCells i.size sLen (.slice base sLen sCap)).run P w' = .ok old.toArray w') → old.length = sLen * i.size → All2 (fun v V => conc σ ρ v = some V) l old → ρ q = none →
      ∃ V w', (Builtin.append_ ts ty #[.slice base sLen sCap, X]).run P w = .ok V w' ∧ ∃ ρ', Ext ρ H.get q w ρ' (fun b => if b = q then some (.cells (app l L) e true false) else H.get b) (q + 1) w' ∧
        Sim P σ ρ' (fun b => if b = q then some (.cells (app l L) e true false) else H.get b) w' ∧ conc σ ρ' (.slo q 0 (sLen + n) 0) = some V := by
    intro base sLen sCap old l hr hbig ho hlo hl hfr
    obtain ⟨C, c, w', hC, hc, hw, hen, hget, hR⟩ := run_append_grown (ty := ty) h0 h1 hU hu hn hi (hrun w rfl).1 hr hy0 (bigOk_le hbig) hZ hZl ho (fun w' e => (hrun w' e).2) hlo hNl
    refine ⟨_, w', hR, ?_⟩
    have hlen : (old ++ N).length ≤ c.length := by
      rw [hc, List.length_append, hlo, hNl, ← Nat.add_mul]
      exact Nat.mul_le_mul_right _ hC
    obtain ⟨ρ', e1, e2, e3⟩ := s.alloc hfr (o := .cells (app l L) e true false) (R := .cells c.toArray e) (cap := C) fun ρ' hle _ =>
      grown_rel k hce (by rw [app_eq]; exact All2.append hl hL) hle hc hlen hget
    refine ⟨ρ', Ext.of_heap hw e1 hen, Sim.of_heap hw e2, ?_⟩
    simp only [conc, e3, Option.bind_some, Nat.add_zero, Nat.sub_zero, if_pos hC]
  unfold appendA at h
  split at h
  · simp only [conc, Option.some.injEq] at hb
    subst hb
    rw [bt_eq] at h
    rcases h with ⟨hn0, h⟩ | ⟨hn0, h⟩
    · cases Nat.eq_of_beq_eq_true hn0
      cases h
      have hN0 : N = [] := by rw [← List.length_eq_zero_iff, hNl]; simp
      subst hN0
      exact ⟨_, w, run_append_room_none (ty := ty) h0 h1 hU hu hn hi (hrun w rfl).1 (hrun w rfl).2 (Nat.le_refl _), OpOk.look s rfl (by simp [conc])⟩
    · rw [chk_eq] at h
      obtain ⟨hbig, h⟩ := h
      cases h
      have hn0 : n ≠ 0 := fun e => by rw [e] at hn0; cases hn0
      obtain ⟨V, w', hR, ρ', e1, e2, e3⟩ := grow (base := none) (sLen := 0) (sCap := 0) (old := []) (l := []) (by omega) (by simpa using hbig) (fun _ _ => rfl) (by simp) trivial (hq q (Nat.le_refl _) (by simp [OR.next]))
      refine ⟨V, w', hR, ρ', V, w', rfl, by simpa using e3, ?_, ?_⟩
      · rw [put_get]; exact e1
      · rw [put_get]; exact e2
  · rename_i b' off n' cap
    simp only [ob_eq, AO.cellsK_eq] at h
    obtain ⟨ob', hob, c, e', op, g, rfl, h⟩ := h
    simp only [conc, Option.map_eq_some_iff] at hb
    obtain ⟨X', hX', rfl⟩ := hb
    rw [bt_eq] at h
    rcases h with ⟨hr, h⟩ | ⟨hr, h⟩
    · have hr := Nat.le_of_ble_eq_true hr
      simp only [chk_eq, ob_eq] at h
      obtain ⟨hfl, c', hc', h⟩ := h
      cases h
      obtain ⟨w1, w2, w3⟩ := writeCells (q := q) hσ s hob hX' hL hc' hfl
      refine ⟨_, _, run_append_room_some (ty := ty) h0 h1 hU hu hn hi (hrun w rfl).1 (hrun w rfl).2 hr (by rw [add_plain]; exact w1), ρ, _, _, rfl, by simp [conc, hX'], ?_, ?_⟩
      · rw [put_get]; exact w2
      · rw [put_get]; exact w3
    · have hr : ¬ n' + n ≤ cap := fun e => by rw [show (n' + n).ble cap = true from Nat.ble_eq_true_of_le e] at hr; cases hr
      simp only [chk_eq, ob_eq] at h
      obtain ⟨hbig, old, hold, h⟩ := h
      cases h
      obtain ⟨cs, d1, d2, d3, d4⟩ := s.range hob hX' hold
      obtain ⟨V, w', hR, ρ', e1, e2, e3⟩ := grow (base := some ⟨X'.1, off, none⟩) (sLen := n') (sCap := cap) (old := cs) (l := old) hr hbig
        (fun w' e => range_firstCells d1 fun j v hj => by rw [cell_of_heap e]; exact d4 j v hj) d1 d3 (hq q (Nat.le_refl _) (by simp [OR.next]))
      refine ⟨V, w', hR, ρ', V, w', rfl, e3, ?_, ?_⟩
      · rw [put_get]; exact e1
      · rw [put_get]; exact e2
  · rename_i b' off n' sk
    simp only [ob_eq, AO.cellsK_eq, chk_eq, len_eq] at h
    obtain ⟨ob', hob, c, e', op, g, rfl, hop, hg, hee, hoff, hfl, h⟩ := h
    subst hop
    have hg : g = false := by cases g <;> simp_all
    subst hg
    cases Nat.eq_of_beq_eq_true hee
    cases Nat.eq_of_beq_eq_true hoff
    simp only [conc, Option.bind_eq_some_iff] at hb
    obtain ⟨X', hX', hb⟩ := hb
    split at hb
    · rename_i hsk
      injection hb with hb
      subst hb
      obtain ⟨C, fr, hR, r1, r2, r3, r4, r5⟩ := s.cells hob hX'
      have r3 := r3 rfl
      rw [hce] at r3
      have r5 : fr = (0, 0) := r5
      rw [bt_eq] at h
      rcases h with ⟨hr, h⟩ | ⟨hr, h⟩
      · have hr := Nat.le_of_ble_eq_true hr
        rw [ob_eq] at h
        obtain ⟨c', hc', h⟩ := h
        cases h
        have hroom : sk + (n' + n) ≤ X'.2 := by
          have : (sk + (n' + n)) * i.size ≤ X'.2 * i.size := by rw [Nat.add_mul]; omega
          exact Nat.le_of_mul_le_mul_right this hk0
        obtain ⟨w1, w2, w3⟩ := writeCells (q := q) hσ s hob hX' hL hc' hfl
        refine ⟨_, _, run_append_room_some (ty := ty) h0 h1 hU hu hn hi (hrun w rfl).1 (hrun w rfl).2 (by omega) (by rw [add_plain]; exact w1), ρ, _, _, rfl, ?_, ?_, ?_⟩
        · simp only [conc, hX', Option.bind_some]
          rw [if_pos (by omega)]
        · rw [put_get]; exact w2
        · rw [put_get]; exact w3
      · simp only [chk_eq] at h
        obtain ⟨hsk0, hfull, hbig, h⟩ := h
        cases Nat.eq_of_beq_eq_true hsk0
        have hfull := Nat.eq_of_beq_eq_true hfull
        cases h
        have hfr := hq q (Nat.le_refl _) (by simp [OR.next])
        by_cases hroom : n' + n ≤ X'.2 - 0
        · have hroom' : n' + n ≤ X'.2 := by omega
          have hCsz : (n' + n) * i.size ≤ C.size := by rw [r3]; exact Nat.mul_le_mul_right _ hroom'
          rw [Nat.add_mul] at hCsz
          have hcell : ∀ j, j < N.length → (w.cell? ⟨X'.1, n' * i.size + 0 + j, none⟩).isSome = true := by
            intro j hj
            rw [cell_row hR, Array.getElem?_eq_getElem (by omega)]; rfl
          have hfro : ∀ j, j < N.length → w.frozen? ⟨X'.1, n' * i.size + 0 + j, none⟩ = false := by
            intro j hj
            simp only [World.frozen?, hR, r5]
            simp
          have hst := run_storeCells_cells (P := P) X'.1 (n' * i.size) N 0 w hcell hfro (flats_conc hσ hL hfl)
          have hheap := setCells_heap (c := C) N (n' * i.size) w C hR (by omega)
          have hsz' : (C.toList.take (n' * i.size) ++ N ++ C.toList.drop (n' * i.size + N.length)).toArray.size = C.size := by simp; omega
          obtain ⟨ρ', e1, e2, e3⟩ := s.rename (w' := w.setCells X'.1 (n' * i.size) N) hfr (o := .cells (app c L) e true false) (by rw [hob]; simp) hX' (fun ρ' hle hx => by
            refine ⟨_, fr, rfl, ?_, (fun e => by cases e), (fun _ => ?_), fun j v hv => ?_, ?_⟩
            · rw [hsz', app_eq, List.length_append]; omega
            · rw [hsz', hce]; exact r3
            · have hj : j < (app c L).length := by
                cases Nat.lt_or_ge j (app c L).length with
                | inl h => exact h
                | inr h => rw [List.getElem?_eq_none h] at hv; cases hv
              rw [app_eq] at hv hj
              have ha : All2 (fun v V => conc σ ρ v = some V) (c ++ L) (C.toList.take c.length ++ N) := All2.append r4 hL
              obtain ⟨V, hV, hc⟩ := ha.get hv
              refine ⟨V, ?_, conc_le hle _ _ hc⟩
              rw [List.getElem?_toArray, hfull, List.getElem?_append_left (by rw [← All2.length ha]; exact hj)]
              exact hV
            · exact r5) hheap (setCells_env N (n' * i.size) w)
          refine ⟨_, _, run_append_room_some (ty := ty) h0 h1 hU hu hn hi (hrun w rfl).1 (hrun w rfl).2 hroom (by rw [add_plain]; simpa using hst), ρ', _, _, rfl, ?_, ?_, ?_⟩
          · simp only [conc, e3, Option.bind_some, Nat.add_zero, Nat.sub_zero, if_pos hroom', Nat.zero_mul]
          · rw [put_get, put_get]; exact e1
          · rw [put_get, put_get]; exact e2
        · have hold : takeN (n' * i.size) (dropN 0 c) = some c := by
            rw [takeN_eq, dropN_eq]
            simp [hfull]
          obtain ⟨cs, d1, d2, d3, d4⟩ := s.range hob hX' hold
          obtain ⟨V, w', hR', ρ', e1, e2, e3⟩ := grow (base := some ⟨X'.1, 0, none⟩) (sLen := n') (sCap := X'.2 - 0) (old := cs) (l := c) hroom hbig
            (fun w' e => range_firstCells d1 fun j v hj => by rw [cell_of_heap e]; exact d4 j v hj) d1 d3 hfr
          refine ⟨V, w', by simpa using hR', ρ', V, w', rfl, e3, ?_, ?_⟩
          · rw [put_get, put_get]
            refine e1.sub fun c hc => ?_
            by_cases e : c = q
            · simp [e]
            · by_cases e' : c = b'
              · simp [e'] at hc; exact absurd (e'.trans hc) e
              · simpa [e, e'] using hc
          · rw [put_get, put_get]
            refine e2.sub fun c o hc => ?_
            by_cases e : c = q
            · simpa [e] using hc
            · by_cases e' : c = b'
              · simp [e'] at hc; exact absurd (e'.trans hc.1) e
              · simpa [e, e'] using hc
    · cases hb
  · cases h
end
end Go.Proofs.YtogmhgklmjbfaaaGreatDoor.Kv
