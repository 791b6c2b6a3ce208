/-
  The evaluator is sound.
-/
import Derived.Test.YtogmhgklmjbfaaaGreatDoorKvX
namespace Go.Proofs.YtogmhgklmjbfaaaGreatDoor.Kv
section
variable {P : Program} {p : PT} {σ : Nat → Value} {rec : Rec}

theorem recOk (hrec : ∀ t r, rec t = some r → TaskOk P p σ t r) : RecOk P p σ rec := fun f args H q v H' q' h => hrec _ _ h

/-- an end of the code's own -/
theorem sound_end {c : Code} (hl : isLoop c = none) {m mask : Nat} {T : Tr AV} {H : Hp} {q : Nat} {r : Res} {e : Ex} (h : some (Res.code e T H q) = some r)
    (hw : ∀ (Q : Exit → Act → World → Prop) a w, Q (exOf e) a w → c.wp P Q a w) : TaskOk P p σ (.code c m mask T H q) r := by
  cases h
  intro hm
  refine ⟨hm, fun ρ a w Q hpre hQ => ⟨hw Q a w (hQ ρ a w ⟨hpre.2.1, .refl _ _ _ _, hpre.2.2.1⟩), fun b hb => by rw [hl] at hb; cases hb⟩⟩

theorem sound_code (hσ : Plain σ) (k : PTOk P p) (hmix : P.follows .mixedOrders = true) (hgrow : Grows rec) (hrec : ∀ t r, rec t = some r → TaskOk P p σ t r) {c : Code} {m mask : Nat} {T : Tr AV} {H : Hp} {q : Nat} {r : Res}
    (h : evCode p c rec m mask T H q = some r) : TaskOk P p σ (.code c m mask T H q) r := by
  cases c with
  | skip => exact sound_end (e := .normal) rfl h fun Q a w hq => wp_skip hq
  | exit i => exact sound_end (e := .exit i) rfl h fun Q a w hq => wp_exit hq
  | label l => exact sound_end (e := .normal) rfl h fun Q a w hq => wp_label hq
  | goto l => exact sound_end (e := .goto l) rfl h fun Q a w hq => wp_goto hq
  | ret => exact sound_end (e := .ret) rfl h fun Q a w hq => wp_ret hq
  | scope b =>
    have h : rec (.sc b b m mask T H q) = some r := h
    have hs := hrec _ _ h
    cases r with
    | call => exact hs.elim
    | code e T1 H1 q1 =>
      intro hm
      obtain ⟨hm1, hsem⟩ := hs hm
      exact ⟨hm1, fun ρ a w Q hpre hQ => ⟨(hsem ρ a w Q hpre hQ).wp, fun b hb => by cases hb⟩⟩
  | cond x a b =>
    have h : opdK p x .nil T (fun c => c.boolK fun g => rec (.code (Bool.rec b a g) m mask T H q)) = some r := h
    have hex : ∃ g, rec (.code (Bool.rec b a g) m mask T H q) = some r ∧ ∀ ρ ac, GlobOk p ρ → ERel σ ρ m .nil T ac → ac.eval x = .bool g := by
      cases x with
      | tmp t =>
        have h : rd .nil T t _ = some r := h
        rw [rd_look, ob_eq] at h
        obtain ⟨v, hv, h⟩ := h
        rw [AV.boolK_eq] at h
        obtain ⟨g, rfl, h⟩ := h
        refine ⟨g, h, fun ρ ac _ hr => ?_⟩
        obtain ⟨V, h1, h2⟩ := hr.val t _ hv
        simp only [conc, Option.some.injEq] at h2
        subst h2
        simp [Act.eval, h1]
      | const V =>
        have h : ob (ofV V) _ = some r := h
        rw [ob_eq] at h
        obtain ⟨v, hv, h⟩ := h
        rw [AV.boolK_eq] at h
        obtain ⟨g, rfl, h⟩ := h
        refine ⟨g, h, fun ρ ac _ _ => ?_⟩
        have := ofV_conc σ ρ V _ hv
        simp only [conc, Option.some.injEq] at this
        exact this.symm
      | global i =>
        have h : chk _ _ = some r := h
        rw [chk_eq] at h
        obtain ⟨_, h⟩ := h
        cases h
      | func f => cases h
    obtain ⟨g, h, hev⟩ := hex
    have hs := hrec _ _ h
    cases r with
    | call => exact hs.elim
    | code e T1 H1 q1 =>
      intro hm
      obtain ⟨hm1, hsem⟩ := hs hm
      refine ⟨hm1, fun ρ ac w Q hpre hQ => ⟨wp_cond (hev ρ ac hpre.1 hpre.2.1) ?_, fun b hb => by cases hb⟩⟩
      have := (hsem ρ ac w Q hpre hQ).1
      cases g <;> exact this
  | block i b =>
    have h : cBlock i b rec m mask T H q = some r := h
    unfold cBlock at h
    rw [codeK_eq] at h
    obtain ⟨e, T1, H1, q1, h1, h⟩ := h
    have hs := hrec _ _ h1
    have go : ∀ e', r = .code e' T1 H1 q1 → (∀ (Q : Exit → Act → World → Prop) a w, Q (exOf e') a w → Exit.inBlock i Q (exOf e) a w) → TaskOk P p σ (.code (.block i b) m mask T H q) r := by
      rintro e' rfl he hm
      obtain ⟨hm1, hsem⟩ := hs hm
      exact ⟨hm1, fun ρ a w Q hpre hQ => ⟨wp_block (hsem ρ a w _ hpre fun ρ' a' w' hp => he Q a' w' (hQ ρ' a' w' hp)).1, fun b hb => by cases hb⟩⟩
    cases e with
    | normal =>
      have h : some (Res.code .normal T1 H1 q1) = some r := h
      cases h
      exact go .normal rfl fun Q a w hq => hq
    | exit j =>
      have h : some (Res.code (Bool.rec (.exit j) .normal (Nat.beq j i)) T1 H1 q1) = some r := h
      by_cases hji : j = i
      · subst hji
        rw [show Nat.beq j j = true from Nat.beq_refl j] at h
        cases h
        exact go .normal rfl fun Q a w hq => by simpa [Exit.inBlock, exOf] using hq
      · have : Nat.beq j i = false := by
          cases e : Nat.beq j i with
          | false => rfl
          | true => exact absurd (Nat.eq_of_beq_eq_true e) hji
        rw [this] at h
        cases h
        exact go (.exit j) rfl fun Q a w hq => by simpa [Exit.inBlock, exOf, hji] using hq
    | goto l =>
      have h : some (Res.code (.goto l) T1 H1 q1) = some r := h
      cases h
      exact go (.goto l) rfl fun Q a w hq => hq
    | ret =>
      have h : some (Res.code .ret T1 H1 q1) = some r := h
      cases h
      exact go .ret rfl fun Q a w hq => hq
  | seq a b =>
    have h : cSeq a b rec m mask T H q = some r := h
    unfold cSeq at h
    rw [codeK_eq] at h
    obtain ⟨e, T1, H1, q1, h1, h⟩ := h
    have hs := hrec _ _ h1
    have go : e ≠ .normal → r = .code e T1 H1 q1 → TaskOk P p σ (.code (.seq a b) m mask T H q) r := by
      rintro hne rfl hm
      obtain ⟨hm1, hsem⟩ := hs hm
      refine ⟨hm1, fun ρ ac w Q hpre hQ => ⟨wp_seq (hsem ρ ac w _ hpre fun ρ' a' w' hp => ?_).1, fun b hb => by cases hb⟩⟩
      have := hQ ρ' a' w' hp
      cases e <;> first | exact absurd rfl hne | exact this
    cases e with
    | normal =>
      have h : rec (.code b m mask T1 H1 q1) = some r := h
      have h2 := hrec _ _ h
      have hq := hgrow _ _ h
      cases r with
      | call => exact h2.elim
      | code e2 T2 H2 q2 =>
        intro hm
        obtain ⟨hm1, hsem1⟩ := hs hm
        obtain ⟨hm2, hsem2⟩ := h2 hm1
        exact ⟨hm2, fun ρ ac w Q hpre hQ => ⟨wp_seq (hsem1 ρ ac w _ (hpre.first hq) fun ρ1 a1 w1 hp => (hsem2 ρ1 a1 w1 Q (hpre.next hp) fun ρ2 a2 w2 hp2 => hQ ρ2 a2 w2 (Post.trans hpre hp hp2)).1).1, fun b hb => by cases hb⟩⟩
    | exit i =>
      have h : some (Res.code (.exit i) T1 H1 q1) = some r := h
      cases h; exact go (by intro e; cases e) rfl
    | goto l =>
      have h : some (Res.code (.goto l) T1 H1 q1) = some r := h
      cases h; exact go (by intro e; cases e) rfl
    | ret =>
      have h : some (Res.code .ret T1 H1 q1) = some r := h
      cases h; exact go (by intro e; cases e) rfl
  | loop b =>
    have h : cLoop b rec m mask T H q = some r := h
    unfold cLoop at h
    rw [codeK_eq] at h
    obtain ⟨e, T1, H1, q1, h1, h⟩ := h
    have hs := hrec _ _ h1
    have out : ∀ {ρ : Loc} {ac : Act} {w : World} {Q : Exit → Act → World → Prop}, LoopWp P b Q ac w → (Code.loop b).wp P Q ac w ∧ ∀ b', isLoop (.loop b) = some b' → LoopWp P b' Q ac w := by
      intro ρ ac w Q hl
      exact ⟨hl.wp, fun b' hb => by cases hb; exact hl⟩
    have go : e ≠ .normal → r = .code e T1 H1 q1 → TaskOk P p σ (.code (.loop b) m mask T H q) r := by
      rintro hne rfl hm
      obtain ⟨hm1, hsem⟩ := hs hm
      refine ⟨hm1, fun ρ ac w Q hpre hQ => out (ρ := ρ) (LoopWp.step (hsem ρ ac w _ hpre fun ρ' a' w' hp => ?_).1)⟩
      have := hQ ρ' a' w' hp
      cases e <;> first | exact absurd rfl hne | exact this
    cases e with
    | normal =>
      have h : rec (.code (.loop b) m mask T1 H1 q1) = some r := h
      have h2 := hrec _ _ h
      have hq := hgrow _ _ h
      cases r with
      | call => exact h2.elim
      | code e2 T2 H2 q2 =>
        intro hm
        obtain ⟨hm1, hsem1⟩ := hs hm
        obtain ⟨hm2, hsem2⟩ := h2 hm1
        exact ⟨hm2, fun ρ ac w Q hpre hQ => out (ρ := ρ) (LoopWp.step (hsem1 ρ ac w _ (hpre.first hq) fun ρ1 a1 w1 hp =>
          (hsem2 ρ1 a1 w1 Q (hpre.next hp) fun ρ2 a2 w2 hp2 => hQ ρ2 a2 w2 (Post.trans hpre hp hp2)).2 b rfl).1)⟩
    | exit i =>
      have h : some (Res.code (.exit i) T1 H1 q1) = some r := h
      cases h; exact go (by intro e; cases e) rfl
    | goto l =>
      have h : some (Res.code (.goto l) T1 H1 q1) = some r := h
      cases h; exact go (by intro e; cases e) rfl
    | ret =>
      have h : some (Res.code .ret T1 H1 q1) = some r := h
      cases h; exact go (by intro e; cases e) rfl
  | region id ops d =>
    have h : cRegion p ops d rec m mask T H q = some r := h
    unfold cRegion at h
    rw [stK_eq] at h
    obtain ⟨E', H', q', h2, h3⟩ := h
    injection h3 with h3
    subst h3
    intro hm
    obtain ⟨hm1, hfl⟩ := flush_ok hm E'
    refine ⟨hm1, fun ρ a w Q hpre hQ => ⟨?_, fun b hb => by cases hb⟩⟩
    obtain ⟨g, hr, s, fr⟩ := hpre
    have fin : ∀ ρ' a' w', ERel σ ρ' m E' T a' → Ext ρ H.get q w ρ' H'.get q' w' → Sim P σ ρ' H'.get w' → Q .normal a' w' := by
      intro ρ' a' w' r' e' s'
      refine hQ ρ' a' w' ⟨⟨fun t v hv => ?_, r'.room, r'.defers⟩, e', s'⟩
      rw [look_nil] at hv
      exact r'.val t v (hfl t v hv)
    cases d with
    | false =>
      have h2 : evOps p rec ops.toList m T ops.toList .nil H q = some (.mk E' H' q') := h2
      refine wp_region ?_
      have := evOps_ok hσ k (recOk hrec) hgrow (Q := Q) ops.toList 0 rfl h2 g hr s fr fin
      rw [List.range_eq_range']
      simpa using this
    | true =>
      have h2 : dRegion p rec ops.toList m (befs ops.toList) T H q = some (.mk E' H' q') := h2
      exact dRegion_ok hσ k (recOk hrec) hmix h2 g hr s fr fin
  | _ => cases h

/-- The evaluator is sound. -/
theorem sound (hσ : Plain σ) (k : PTOk P p) (hmix : P.follows .mixedOrders = true) : ∀ n t r, ev p n t = some r → TaskOk P p σ t r
  | 0, t, r, h => by cases h
  | n + 1, t, r, h => by
    have h : stepF p (ev p n) t = some r := h
    have ih := sound hσ k hmix n
    cases t with
    | code c m mask T H q => exact sound_code hσ k hmix (ev_grow n) ih h
    | sc b c m mask T H q => exact sound_sc (ev_grow n) ih h
    | call f args H q => exact sound_call hσ k ih h

/-- A call that the evaluator has reckoned from an empty heap. -/
theorem calls_of_ev (hσ : Plain σ) (k : PTOk P p) (hmix : P.follows .mixedOrders = true) (hg : p.glob = 0) {n : Nat} {f : FuncId} {args : List AV} {q : Nat} {v : AV} {H' : Hp} {q' : Nat} (h : ev p n (.call f args .nil q) = some (.call v H' q'))
    {L : List Value} (hL : concs σ (fun _ => none) args = some L) (w : World) :
    Calls P f L.toArray w fun e w' => ∃ ρ' V, e = .returned V ∧ conc σ ρ' v = some V ∧ (w'.os = w.os ∧ w'.output = w.output) ∧ ∀ r, r < w.heap.size → w'.heap[r]? = w.heap[r]? := by
  obtain ⟨_, hc⟩ := sound hσ k hmix n _ _ h
  refine Calls.mono (hc (fun _ => none) w L (fun g hg' => by rw [hg] at hg'; omega) ⟨(fun b o hb => by cases hb), (fun b b' x x' hb _ _ _ _ => absurd rfl hb), (fun b x hx => by cases hx)⟩ (fun b _ _ => rfl) hL) ?_
  rintro e w' ⟨ρ', V, rfl, hv, e', _⟩
  exact ⟨ρ', V, rfl, hv, e'.env, fun r hr => e'.frame r hr fun b x hb _ => absurd rfl hb⟩
end
end Go.Proofs.YtogmhgklmjbfaaaGreatDoor.Kv
