/-
  Slices, conversions, the built-in functions that only look; maps looked into.
-/
import Derived.Test.YtogmhgklmjbfaaaGreatDoorKvH
import Derived.Laws.Slices
namespace Go.Proofs.YtogmhgklmjbfaaaGreatDoor.Kv
section
variable {P : Program} {p : PT} {σ : Nat → Value} {ρ : Loc} {H : Hp} {q : Nat} {w : World} {m : Nat} {E : Env} {T : Tr AV} {a : Act} {o : Oper} {res : OR}

/-! ### bounds -/
theorem bound_ok (g : GlobOk p ρ) (r : ERel σ ρ m E T a) {x : Option Operand} {d lim n : Nat} (h : bound p x d lim E T = some n) :
    (x = none ∧ n = d) ∨ ∃ y k, x = some y ∧ a.eval y = .int k n ∧ n ≤ lim := by
  cases x with
  | none =>
    have h : some d = some n := h
    cases h
    exact .inl ⟨rfl, rfl⟩
  | some y =>
    right
    obtain ⟨v, h', hv⟩ := opdK_ok g r h
    clear h
    simp only [AV.intK_eq, natK_eq, chk_eq] at h'
    obtain ⟨k, i, rfl, j, rfl, hj, h'⟩ := h'
    cases h'
    simp only [conc, Option.some.injEq] at hv
    exact ⟨y, k, rfl, hv.symm, Nat.le_of_ble_eq_true hj⟩

theorem run_sliceBound_k (k : IntKind) (n y : Nat) (code : BoundsCode) (h : n ≤ y) : (Instr.sliceBound (.int k n) y code).run P w = .ok n w := by
  simp only [Instr.sliceBound, asIntOf, Sem.run_bind, Sem.run_pure, Result.andThen_ok]
  rw [if_pos ⟨by omega, by omega⟩]
  simp

/-- what a bound comes to -/
def IsB (a : Act) (x : Option Operand) (d lim n : Nat) : Prop := (x = none ∧ n = d) ∨ ∃ y k, x = some y ∧ a.eval y = .int k n ∧ n ≤ lim
theorem sliceBounds_ok (isS : Bool) {lo hi mx : Option Operand} {n cap l h' mm : Nat}
    (hm : IsB a mx cap cap mm) (hh : IsB a hi n mm h') (hl : IsB a lo 0 h' l) (hmh : mx.isSome = true → hi.isSome = true) :
    (Instr.sliceBounds isS n cap (lo.map a.eval) (hi.map a.eval) (mx.map a.eval)).run P w = .ok (l, h', mm) w := by
  rcases hm with ⟨rfl, rfl⟩ | ⟨ym, km, rfl, em, lm⟩
  · rcases hh with ⟨rfl, rfl⟩ | ⟨yh, kh, rfl, eh, lh⟩
    · rcases hl with ⟨rfl, rfl⟩ | ⟨yl, kl, rfl, el, ll⟩
      · simp [Instr.sliceBounds]
      · simp [Instr.sliceBounds, el, run_sliceBound_k, ll]
    · rcases hl with ⟨rfl, rfl⟩ | ⟨yl, kl, rfl, el, ll⟩
      · simp [Instr.sliceBounds, eh, run_sliceBound_k, lh]
      · simp [Instr.sliceBounds, el, eh, run_sliceBound_k, ll, lh]
  · rcases hh with ⟨rfl, rfl⟩ | ⟨yh, kh, rfl, eh, lh⟩
    · simp at hmh
    · rcases hl with ⟨rfl, rfl⟩ | ⟨yl, kl, rfl, el, ll⟩
      · simp [Instr.sliceBounds, eh, em, run_sliceBound_k, lh, lm]
      · simp [Instr.sliceBounds, el, eh, em, run_sliceBound_k, ll, lh, lm]
theorem IsB.le {a : Act} {x : Option Operand} {d lim n : Nat} (h : IsB a x d lim n) (hd : d ≤ lim) : n ≤ lim := by
  rcases h with ⟨_, rfl⟩ | ⟨_, _, _, _, h⟩
  · exact hd
  · exact h
theorem IsB.wide {a : Act} {x : Option Operand} {d lim lim' n : Nat} (h : IsB a x d lim n) (hd : lim ≤ lim') : IsB a x d lim' n := by
  rcases h with h | ⟨y, k, h1, h2, h⟩
  · exact .inl h
  · exact .inr ⟨y, k, h1, h2, Nat.le_trans h hd⟩

theorem isNone_eq {α : Type} (x : Option α) : isNone x = x.isNone := by cases x <;> rfl

theorem run_slice_k {t e : TypeId} {n : Nat} (hU : P.underlying t = some (.slice e)) (hs : (sizeOf e).run P w = .ok n w) {ad : Option Addr} {len cap l h mm : Nat} {lo hi mx : Option Value}
    (hb : (Instr.sliceBounds true len cap lo hi mx).run P w = .ok (l, h, mm) w) :
    (Instr.sliceAt t (.slice ad len cap) lo hi mx).run P w = .ok (.slice (if mm = l then ad else ad.map (·.add (l * n))) (h - l) (mm - l)) w := by
  simp only [Instr.sliceAt, Instr.slice, Sem.run_bind, run_underlying hU, Result.andThen_ok, hb, hs, Sem.run_pure]

theorem slc_cap (s : Sim P σ ρ H.get w) : True := trivial

/-- A slice of known room has its length within it. -/
theorem oSlice_ok (k : PTOk P p) (g : GlobOk p ρ) (r : ERel σ ρ m E T a) (s : Sim P σ ρ H.get w) {t : TypeId} {x : Operand} {lo hi mx : Option Operand} (ho : o.op = .slice t x lo hi mx)
    (h : oSlice p t x lo hi mx E T H q = some res) : OpOk P σ ρ H.get q w ((execOp a.eval o).run P w) res := by
  obtain ⟨v, h', hv⟩ := opdK_ok g r h; clear h; revert h'; intro h
  have he : execOp a.eval o = (do pure (.value (← Instr.sliceAt t (a.eval x) (lo.map a.eval) (hi.map a.eval) (mx.map a.eval))) : Sem Next) := by simp [execOp, ho]
  unfold sliceA at h
  split at h
  · -- a string
    rename_i l
    rw [ob_eq] at h
    obtain ⟨d, hd, h⟩ := h
    split at h
    · simp only [chk_eq, ob_eq, len_eq] at h
      obtain ⟨hn, hh, hhi, ll, hlo, r', hr', h⟩ := h
      rw [isNone_eq] at hn
      have hmx : mx = none := by simpa using hn
      subst hmx
      simp only [conc, Option.some.injEq] at hv
      have hsz : (ByteArray.mk l.toArray).size = l.length := by simp [ByteArray.size]
      have hb := sliceBounds_ok (P := P) (w := w) (a := a) false (n := l.length) (cap := l.length) (mx := none) (mm := l.length) (.inl ⟨rfl, rfl⟩) (bound_ok g r hhi) (bound_ok g r hlo) (by simp)
      rw [takeN_eq, dropN_eq] at hr'
      obtain ⟨h4, rfl⟩ := hr'
      refine .of s he (V := .string ((ByteArray.mk l.toArray).extract ll hh)) ?_ ?_ h
      · simp only [Instr.sliceAt, Instr.slice, Sem.run_bind, run_underlying (k.under hd), Result.andThen_ok, ← hv, hsz, Option.map_none]
        simp only [Option.map_none] at hb
        simp [hb]
      · rw [conc_str]
        congr 2
        apply ByteArray.ext
        apply Array.ext'
        simp [ByteArray.data_extract, List.extract_eq_take_drop]
    · cases h
  · simp only [ob_eq, sliceK_eq, chk_eq] at h
    obtain ⟨d, hd, e, rfl, n, hn, hm, mm, hmm, hh, hhi, ll, hlo, h⟩ := h
    simp only [conc, Option.some.injEq] at hv
    have hm' : mx.isSome = true → hi.isSome = true := by
      intro e1
      cases mx with
      | none => cases e1
      | some y => cases hi with
        | none => cases hm
        | some z => rfl
    have bm : IsB a mx 0 0 mm := bound_ok g r hmm
    have bh : IsB a hi 0 mm hh := bound_ok g r hhi
    have bl : IsB a lo 0 hh ll := bound_ok g r hlo
    have hb := sliceBounds_ok (P := P) (w := w) true bm bh bl hm'
    have h1 := bm.le (Nat.le_refl _)
    have h2 := bh.le (Nat.zero_le _)
    have h3 := bl.le (Nat.zero_le _)
    refine .of s he (V := .slice none 0 0) ?_ (by simp [conc]) h
    rw [← hv, run_slice_k (k.under hd) (k.runSize w hn) hb]
    have e1 : mm = 0 := by omega
    have e2 : hh = 0 := by omega
    have e3 : ll = 0 := by omega
    subst e1 e2 e3
    simp
  · rename_i b off n cap
    simp only [ob_eq, sliceK_eq, chk_eq] at h
    obtain ⟨d, hd, e, rfl, sz, hsz, hm, mm, hmm, hh, hhi, ll, hlo, h⟩ := h
    simp only [conc, Option.map_eq_some_iff] at hv
    obtain ⟨y, hy, hv⟩ := hv
    have hm' : mx.isSome = true → hi.isSome = true := by
      intro e1
      cases mx with
      | none => cases e1
      | some y => cases hi with
        | none => cases hm
        | some z => rfl
    have bm : IsB a mx cap cap mm := bound_ok g r hmm
    have bh : IsB a hi n mm hh := bound_ok g r hhi
    have bl : IsB a lo 0 hh ll := bound_ok g r hlo
    have hb := sliceBounds_ok (P := P) (w := w) true bm bh bl hm'
    refine .of s he (V := .slice (some ⟨y.1, if mm = ll then off else off + ll * sz, none⟩) (hh - ll) (mm - ll)) ?_ ?_ h
    · rw [← hv, run_slice_k (k.under hd) (k.runSize w hsz) hb]
      congr 2
      split
      · rfl
      · simp [add_plain]
    · simp only [conc, hy, Option.map_some]
      congr 4
      by_cases e1 : mm = ll
      · simp [e1]
      · have : Nat.beq mm ll = false := by
          cases e2 : Nat.beq mm ll
          · rfl
          · exact absurd (Nat.eq_of_beq_eq_true e2) e1
        simp [e1, this]
  · rename_i b off n sk
    simp only [ob_eq, sliceK_eq, bt_eq, chk_eq] at h
    obtain ⟨d, hd, e, rfl, sz, hsz, h⟩ := h
    simp only [conc, Option.bind_eq_some_iff] at hv
    obtain ⟨y, hy, hv⟩ := hv
    split at hv
    case isFalse => cases hv
    rename_i hcap
    injection hv with hv
    rcases h with ⟨hm, hh, hhi, ll, hlo, hz, h⟩ | ⟨hm, hm', mm, hmm, hh, hhi, ll, hlo, hz, h⟩
    · rw [isNone_eq] at hm
      have hmx : mx = none := by simpa using hm
      subst hmx
      have bh : IsB a hi n n hh := bound_ok g r hhi
      have bl : IsB a lo 0 hh ll := bound_ok g r hlo
      have h1 := bh.le (Nat.le_refl _)
      have h2 := bl.le (Nat.zero_le _)
      have hb := sliceBounds_ok (P := P) (w := w) (a := a) true (n := n) (cap := y.2 - sk) (mx := none) (mm := y.2 - sk) (.inl ⟨rfl, rfl⟩) (bh.wide (by omega)) bl (by simp)
      have hz : ll < n ∨ ll = 0 := by
        cases e1 : Nat.blt ll n with
        | true => exact .inl (Nat.le_of_ble_eq_true e1)
        | false => rw [e1] at hz; exact .inr (Nat.eq_of_beq_eq_true hz)
      refine .of s he (V := .slice (some ⟨y.1, off + ll * sz, none⟩) (hh - ll) (y.2 - (sk + ll))) ?_ ?_ h
      · rw [← hv, run_slice_k (k.under hd) (k.runSize w hsz) hb]
        congr 2
        · split
          · have : ll = 0 := by omega
            subst this
            simp
          · simp [add_plain]
        · omega
      · simp only [conc, hy, Option.bind_some]
        rw [if_pos (by omega)]
    · have hm2 : mx.isSome = true → hi.isSome = true := by
        intro _
        cases hi with
        | none => cases hm'
        | some z => rfl
      have bm : IsB a mx n n mm := bound_ok g r hmm
      have bh : IsB a hi n mm hh := bound_ok g r hhi
      have bl : IsB a lo 0 hh ll := bound_ok g r hlo
      have h0 := bm.le (Nat.le_refl _)
      have bm' : IsB a mx (y.2 - sk) (y.2 - sk) mm := by
        rcases bm with ⟨rfl, _⟩ | ⟨z, kz, h1, h2, h3⟩
        · cases hm
        · exact .inr ⟨z, kz, h1, h2, by omega⟩
      have hb := sliceBounds_ok (P := P) (w := w) true (n := n) bm' bh bl hm2
      have hz : ll < mm ∨ ll = 0 := by
        cases e1 : Nat.blt ll mm with
        | true => exact .inl (Nat.le_of_ble_eq_true e1)
        | false => rw [e1] at hz; exact .inr (Nat.eq_of_beq_eq_true hz)
      refine .of s he (V := .slice (some ⟨y.1, off + ll * sz, none⟩) (hh - ll) (mm - ll)) ?_ (by simp [conc, hy]) h
      rw [← hv, run_slice_k (k.under hd) (k.runSize w hsz) hb]
      congr 2
      split
      · have : ll = 0 := by omega
        subst this
        simp
      · simp [add_plain]
  · cases h

/-! ### conversions -/
theorem cellsAt_ok (s : Sim P σ ρ H.get w) {b off n : Nat} {r : List AV} (h : cellsAt H b off n = some r) {x : Nat × Nat} (hx : ρ b = some x) :
    ∃ cs : List Value, cs.length = n ∧ r.length = n ∧ All2 (fun v V => conc σ ρ v = some V) r cs ∧ ∀ (j : Nat) (v : Value), cs[j]? = some v → w.cell? ((⟨x.1, off, none⟩ : Addr).add j) = some v := by
  simp only [cellsAt, ob_eq, AO.cellsK_eq] at h
  obtain ⟨ob', hb, l, e, op, g, rfl, h⟩ := h
  exact s.range hb hx h

theorem byteOfA_ok {x : AV} {b : UInt8} (h : byteOfA x = some b) {X : Value} (hx : conc σ ρ x = some X) : ∃ n : Int, X = .int .u8 n ∧ UInt8.ofNat n.toNat = b := by
  simp only [byteOfA, AV.intK_eq, natK_eq, chk_eq, kBeq_eq] at h
  obtain ⟨k, n, rfl, j, rfl, rfl, h⟩ := h
  simp only [conc, Option.some.injEq] at hx
  cases h
  exact ⟨_, hx.symm, by simp⟩

theorem bytes_loop (f : Value → ByteArray → Sem (ForInStep ByteArray)) (hf : ∀ n acc, f (.int .u8 n) acc = pure (.yield (acc.push (UInt8.ofNat n.toNat)))) :
    ∀ (l : List UInt8) (cs : List Value) (acc : ByteArray), All2 (fun b V => ∃ n : Int, V = .int .u8 n ∧ UInt8.ofNat n.toNat = b) l cs →
    (forIn (m := Sem) cs acc f).run P w = .ok ⟨(acc.data.toList ++ l).toArray⟩ w
  | [], [], acc, _ => by simp
  | b :: l, V :: cs, acc, h => by
    obtain ⟨⟨n, rfl, hb⟩, h⟩ := h
    simp only [List.forIn_cons, Sem.run_bind, hf, Sem.run_pure, Result.andThen_ok]
    rw [bytes_loop f hf l cs _ h]
    congr 2
    rw [hb]
    simp [ByteArray.push]
  | [], _ :: _, _, h => h.elim
  | _ :: _, [], _, h => h.elim

theorem encode_ascii (n : Nat) (h : n < 128) : Utf8.encode (n : Int) = ⟨#[UInt8.ofNat n]⟩ := by
  have hv : Utf8.valid (n : Int) = true := by
    simp [Utf8.valid]; omega
  simp only [Utf8.encode, hv, if_true, Int.toNat_natCast]
  rw [if_pos h]

theorem run_bytesToString {y : Addr} {n cap : Nat} {l : List UInt8} {cs : List Value} (h1 : cs.length = n) (h2 : All2 (fun b V => ∃ n : Int, V = .int .u8 n ∧ UInt8.ofNat n.toNat = b) l cs)
    (h3 : ∀ (j : Nat) (v : Value), cs[j]? = some v → w.cell? (y.add j) = some v) : (Conv.bytesToString (.slice (some y) n cap)).run P w = .ok (.string ⟨l.toArray⟩) w := by
  subst h1
  simp only [Conv.bytesToString, Sem.run_bind, run_loadCells_list w y cs h3, Result.andThen_ok]
  rw [← Array.forIn_toList]
  rw [bytes_loop (P := P) (w := w) _ (fun n acc => rfl) l cs ByteArray.empty h2]
  simp

theorem isByte_eq {d : TypeDesc} (h : isByte d = true) : d = .int .u8 := by
  unfold isByte at h
  split at h
  · rfl
  · cases h

theorem oConvert_ok (k : PTOk P p) (g : GlobOk p ρ) (r : ERel σ ρ m E T a) (s : Sim P σ ρ H.get w) (hq : Fresh ρ q (res.next q)) {src dst : TypeId} {x : Operand} (ho : o.op = .convert src dst x)
    (h : oConvert p src dst x E T H q = some res) : OpOk P σ ρ H.get q w ((execOp a.eval o).run P w) res := by
  obtain ⟨v, h', hv⟩ := opdK_ok g r h; clear h; revert h'; intro h
  simp only [ob_eq] at h
  obtain ⟨d, hd, d', hd', h⟩ := h
  have hD := k.under hd
  have hS := k.under hd'
  have he : execOp a.eval o = (do pure (.value (← convert src dst (a.eval x))) : Sem Next) := by simp [execOp, ho]
  unfold convA at h
  split at h
  · rename_i kk
    rw [AV.intK_eq] at h
    obtain ⟨i, n, rfl, h⟩ := h
    simp only [conc, Option.some.injEq] at hv
    refine .of s he (V := .int kk (kk.wrap n)) ?_ (by rw [wrapK_eq]; exact conc_int _ _) h
    simp only [convert, Sem.run_bind, run_underlying hS, run_underlying hD, Result.andThen_ok, ← hv]
    cases d' <;> rfl
  · split at h
    · rename_i e
      rw [ob_eq] at h
      obtain ⟨u, hu, h⟩ := h
      rw [chk_eq] at h
      obtain ⟨hb, h⟩ := h
      have hU := k.under hu
      rw [isByte_eq hb] at hU
      unfold toStrB at h
      split at h
      · simp only [conc, Option.some.injEq] at hv
        refine .of s he (V := .string .empty) ?_ (by rw [conc_str]; rfl) h
        simp only [convert, Sem.run_bind, run_underlying hS, run_underlying hD, Result.andThen_ok, ← hv, run_underlying hU]
        rfl
      all_goals first
        | (cases h; done)
        | (rename_i b off n c
           simp only [ob_eq] at h
           obtain ⟨r', hr, l, hl, h⟩ := h
           have hx : ∃ x' C, ρ b = some x' ∧ a.eval x = .slice (some ⟨x'.1, off, none⟩) n C := by
             simp only [conc, Option.map_eq_some_iff, Option.bind_eq_some_iff] at hv
             first
               | (obtain ⟨y, hy, hv⟩ := hv; exact ⟨y, _, hy, hv.symm⟩)
               | (obtain ⟨y, hy, hv⟩ := hv; split at hv <;> first | (cases hv; done) | (injection hv with hv; exact ⟨y, _, hy, hv.symm⟩))
           obtain ⟨y, C, hy, hv'⟩ := hx
           obtain ⟨cs, h1, h2, h3, h4⟩ := cellsAt_ok s hr hy
           refine .of s he (V := .string ⟨l.toArray⟩) ?_ (conc_str _) h
           simp only [convert, Sem.run_bind, run_underlying hS, run_underlying hD, Result.andThen_ok, hv', run_underlying hU]
           refine run_bytesToString h1 ?_ h4
           rw [mapO_eq] at hl
           refine All2.of_get (by rw [← All2.length hl, All2.length h3]) fun i b V hb hV => ?_
           cases hri : r'[i]? with
           | none =>
             have : l[i]? = none := by
               rw [List.getElem?_eq_none_iff] at hri ⊢
               rw [← All2.length hl]; exact hri
             rw [this] at hb; cases hb
           | some u =>
             obtain ⟨b', hb', e1⟩ := hl.get hri
             rw [hb] at hb'; cases hb'
             obtain ⟨V', hV', e2⟩ := h3.get hri
             rw [hV] at hV'; cases hV'
             exact byteOfA_ok e1 e2)
    · unfold toStr at h
      split at h
      · simp only [conc, Option.some.injEq] at hv
        refine .of s he ?_ (conc_str _) h
        simp only [convert, Sem.run_bind, run_underlying hS, run_underlying hD, Result.andThen_ok, ← hv]
        cases d' <;> rfl
      · rename_i kk n
        simp only [conc, Option.some.injEq] at hv
        rw [chk_eq] at h
        have h1 : n < 128 := Nat.le_of_ble_eq_true h.1
        refine .of s he ?_ (conc_str _) h.2
        simp only [convert, Sem.run_bind, run_underlying hS, run_underlying hD, Result.andThen_ok, ← hv]
        cases d' <;> simp [Conv.intToString, show Int.ofNat n = (n : Int) from rfl, encode_ascii n h1]
      · cases h
  · rename_i e
    simp only [AV.strK_eq, ob_eq, chk_eq, len_eq] at h
    obtain ⟨l, rfl, u, hu, hb, sz, hsz, h1, h⟩ := h
    have hU := k.under hu
    rw [isByte_eq hb] at hU
    have h1 := Nat.eq_of_beq_eq_true h1
    subst h1
    have hcell := (k.size hsz).1
    cases h
    simp only [conc, Option.some.injEq] at hv
    have hf : ρ q = none := hq q (Nat.le_refl _) (by simp [OR.next])
    have hsz' : (ByteArray.mk l.toArray).size = l.length := by simp [ByteArray.size]
    obtain ⟨C, hC, hC'⟩ : ∃ C, (Question.appendCap l.length 0 e).cut (w.tape w.drawn (.appendCap l.length 0 e)) = C ∧ l.length ≤ C := ⟨_, rfl, by simp only [Question.cut]; omega⟩
    let c : Array Value := (ByteArray.mk l.toArray).data.map (fun b => Value.int .u8 b.toNat) ++ Array.replicate (C - l.length) (.int .u8 0)
    have hcs : c.size = C := by simp [c]; omega
    have hpush : ((w.heap.push (Obj.cells c e)).modify w.heap.size fun
        | .cells c elem (lo, hi) => .cells c elem (if lo == hi then (C, C + 1) else (min lo C, max hi (C + 1)))
        | o => o) = w.heap.push (Obj.cells c e (C, C + 1)) := by
      apply Array.ext_getElem?
      intro i
      rw [Array.getElem?_modify]
      by_cases hi : w.heap.size = i
      · subst hi
        simp
      · rw [if_neg hi, Array.getElem?_push, Array.getElem?_push]
        simp [Ne.symm hi]
    refine OpOk.make s hf (R := .cells c e (C, C + 1)) (cap := C) (V := .slice (some ⟨w.heap.size, 0, none⟩) l.length C)
      (w' := { w with drawn := w.drawn + 1, heap := w.heap.push (.cells c e (C, C + 1)) }) ?_ ?_ rfl
    · intro ρ' hle hx
      refine ⟨⟨c, (C, C + 1), rfl, by simp [hcs]; omega, (fun h => by cases h), (fun _ => by rw [hcs, hcell]; omega), fun i v hv => ?_, by simp [hcs]⟩, ?_⟩
      · rw [List.getElem?_map, Option.map_eq_some_iff] at hv
        obtain ⟨b, hb', rfl⟩ := hv
        have hi : i < l.length := by
          cases Nat.lt_or_ge i l.length with
          | inl h => exact h
          | inr h => rw [List.getElem?_eq_none h] at hb'; cases hb'
        refine ⟨.int .u8 b.toNat, ?_, conc_int _ _⟩
        simp only [c]
        rw [Array.getElem?_append_left (by simpa using hi)]
        simp [hb']
      · simp only [conc, hx, Option.bind_some]
        rw [if_pos (by simpa using hC')]
        simp
    · rw [he]
      simp only [convert, Sem.run_bind, run_underlying hS, run_underlying hD, Result.andThen_ok, ← hv, run_underlying hU, Conv.stringToBytes, run_choose, Question.forced, Bool.false_eq_true, if_false, hsz', hC]
      simp only [newRow, Sem.run_bind, run_newObj, Result.andThen_ok, Sem.run_pure, markStringish, run_shape, World.shape?, Array.getElem?_push_size]
      simp only [run_freeze, World.freeze, Nat.one_ne_zero, if_false]
      have hs2 : (Array.map (fun b => Value.int IntKind.u8 ↑b.toNat) (ByteArray.mk l.toArray).data ++ Array.replicate (C - l.length) (Value.int IntKind.u8 0)).size = C := hcs
      simp only [hs2, Sem.run_bind, run_freeze, World.freeze, Nat.one_ne_zero, if_false, Result.andThen_ok, Sem.run_pure]
      congr 2
  · cases h
end
end Go.Proofs.YtogmhgklmjbfaaaGreatDoor.Kv
