/- The reckoner's lookups and lengths. -/
import Derived.Test.YtffkmfgmdepfcaaGreatDoorRk12
set_option linter.unusedSimpArgs false
set_option linter.unusedVariables false
set_option linter.unusedSectionVars false
namespace Go.Rk
open Go.Sl (run_bind run_underlying' run_sizeOf run_zeroValue run_isAgg)
open Go.RowKit
variable [Sym]

abbrev Es := List (AV × AV × Nat)

/-- the place of the first entry whose key is the same -/
inductive Fnd (eq : Eq2) (k : AV) : Es → Option Nat → Prop where
  | nil : Fnd eq k [] none
  | here {k' : AV} {x : AV × Nat} {es : Es} : eq k k' = some true → Fnd eq k ((k', x) :: es) (some 0)
  | there {k' : AV} {x : AV × Nat} {es : Es} {o : Option Nat} : eq k k' = some false → Fnd eq k es o → Fnd eq k ((k', x) :: es) (o.map (· + 1))

theorem findK_fnd {eq : Eq2} {k : AV} : ∀ {es : Es} {r : Option (AV × Nat)}, findK eq k es = some r → ∃ o, Fnd eq k es o ∧ r = (o.bind (es[·]?)).map (·.2)
  | [], r, h => by simp only [findK, Option.some.injEq] at h; subst h; exact ⟨none, .nil, rfl⟩
  | (k', v, b) :: es, r, h => by
    simp only [findK] at h
    obtain ⟨c, h1, h2⟩ := ob_some h
    cases c with
    | true =>
      simp only [Option.some.injEq] at h2
      subst h2
      exact ⟨some 0, .here h1, rfl⟩
    | false =>
      obtain ⟨o, h3, h4⟩ := findK_fnd h2
      refine ⟨o.map (· + 1), .there h1 h3, ?_⟩
      rw [h4]
      cases o <;> rfl

theorem updK_fnd {eq : Eq2} {k v : AV} {c : Nat} : ∀ {es : Es} {r : Es × Nat}, updK eq k v c es = some r → ∃ o, Fnd eq k es o ∧ (match o with
    | none => r = (es ++ [(k, v, c)], c + 1)
    | some j => r = (es.modify j (fun e => (k, v, e.2.2)), c))
  | [], r, h => by simp only [updK, Option.some.injEq] at h; subst h; exact ⟨none, .nil, rfl⟩
  | (k', v', b) :: es, r, h => by
    simp only [updK] at h
    obtain ⟨q, h1, h2⟩ := ob_some h
    cases q with
    | true =>
      simp only [Option.some.injEq] at h2
      subst h2
      exact ⟨some 0, .here h1, rfl⟩
    | false =>
      obtain ⟨⟨r', c'⟩, h3, h4⟩ := ob_some h2
      simp only [Option.some.injEq] at h4
      subst h4
      obtain ⟨o, h5, h6⟩ := updK_fnd h3
      refine ⟨o.map (· + 1), .there h1 h5, ?_⟩
      cases o with
      | none => simp only [Prod.mk.injEq] at h6; simp [h6.1, h6.2]
      | some j => simp only [Prod.mk.injEq] at h6; simp [h6.1, h6.2]

theorem delK_fnd {eq : Eq2} {k : AV} : ∀ {es r : Es}, delK eq k es = some r → ∃ o, Fnd eq k es o ∧ (match o with
    | none => r = es
    | some j => r = es.eraseIdx j)
  | [], r, h => by simp only [delK, Option.some.injEq] at h; subst h; exact ⟨none, .nil, rfl⟩
  | (k', v', b) :: es, r, h => by
    simp only [delK] at h
    obtain ⟨q, h1, h2⟩ := ob_some h
    cases q with
    | true =>
      simp only [Option.some.injEq] at h2
      subst h2
      exact ⟨some 0, .here h1, rfl⟩
    | false =>
      obtain ⟨r', h3, h4⟩ := ob_some h2
      simp only [Option.some.injEq] at h4
      subst h4
      obtain ⟨o, h5, h6⟩ := delK_fnd h3
      refine ⟨o.map (· + 1), .there h1 h5, ?_⟩
      cases o with
      | none => simp only at h6; simp [h6]
      | some j => simp only at h6; simp [h6]

theorem Fnd.lt {eq : Eq2} {k : AV} {es : Es} {o : Option Nat} (h : Fnd eq k es o) : ∀ j, o = some j → j < es.length := by
  induction h with
  | nil => intro j h; cases h
  | here _ => intro j h; cases h; simp
  | @there k' x es o h1 h2 ih =>
    intro j h
    cases o with
    | none => cases h
    | some i => cases h; have := ih i rfl; simp; omega

section
variable {P : Program} {tb : Tab} {p : Pl}

theorem EsR.length {p : Pl} : ∀ {es : Es} {l : List MapEntry}, EsR p es l → l.length = es.length
  | [], l, h => by simp only [EsR] at h; simp [h]
  | (k, v, b) :: es, l, h => by obtain ⟨e, m, rfl, _, _, _, h⟩ := h; simp [h.length]
theorem EsR.get {p : Pl} : ∀ {es : Es} {l : List MapEntry}, EsR p es l → ∀ {j : Nat} {x : AV × AV × Nat}, es[j]? = some x → ∃ e, l[j]? = some e ∧ VR p x.1 e.key ∧ VR p x.2.1 e.val ∧ e.born = x.2.2
  | [], l, h, j, x, hj => by simp at hj
  | (k, v, b) :: es, l, h, 0, x, hj => by
    obtain ⟨e, m, rfl, h1, h2, h3, h⟩ := h
    simp only [List.getElem?_cons_zero, Option.some.injEq] at hj
    subst hj
    exact ⟨e, rfl, h1, h2, h3⟩
  | (k, v, b) :: es, l, h, j + 1, x, hj => by
    obtain ⟨e, m, rfl, h1, h2, h3, h⟩ := h
    simp only [List.getElem?_cons_succ] at hj ⊢
    exact h.get hj
theorem EsR.append {p : Pl} : ∀ {es es' : Es} {l l' : List MapEntry}, EsR p es l → EsR p es' l' → EsR p (es ++ es') (l ++ l')
  | [], _, l, _, h, h' => by simp only [EsR] at h; subst h; simpa using h'
  | (k, v, b) :: es, _, l, _, h, h' => by
    obtain ⟨e, m, rfl, h1, h2, h3, h⟩ := h
    exact ⟨e, _, rfl, h1, h2, h3, h.append h'⟩
theorem EsR.modify {p : Pl} {f : AV × AV × Nat → AV × AV × Nat} {g : MapEntry → MapEntry} (hfg : ∀ x e, VR p x.1 e.key → VR p x.2.1 e.val → e.born = x.2.2 → VR p (f x).1 (g e).key ∧ VR p (f x).2.1 (g e).val ∧ (g e).born = (f x).2.2) :
    ∀ {es : Es} {l : List MapEntry}, EsR p es l → ∀ j, EsR p (es.modify j f) (l.modify j g)
  | [], l, h, j => by simp only [EsR] at h; subst h; cases j <;> simp [EsR]
  | (k, v, b) :: es, l, h, 0 => by
    obtain ⟨e, m, rfl, h1, h2, h3, h⟩ := h
    have := hfg (k, v, b) e h1 h2 h3
    simp only [List.modify_zero_cons]
    exact ⟨g e, m, rfl, this.1, this.2.1, this.2.2, h⟩
  | (k, v, b) :: es, l, h, j + 1 => by
    obtain ⟨e, m, rfl, h1, h2, h3, h⟩ := h
    simp only [List.modify_succ_cons]
    exact ⟨e, _, rfl, h1, h2, h3, h.modify hfg j⟩
theorem EsR.eraseIdx {p : Pl} : ∀ {es : Es} {l : List MapEntry}, EsR p es l → ∀ j, EsR p (es.eraseIdx j) (l.eraseIdx j)
  | [], l, h, j => by simp only [EsR] at h; subst h; simp [EsR]
  | (k, v, b) :: es, l, h, 0 => by obtain ⟨e, m, rfl, h1, h2, h3, h⟩ := h; simpa using h
  | (k, v, b) :: es, l, h, j + 1 => by
    obtain ⟨e, m, rfl, h1, h2, h3, h⟩ := h
    simp only [List.eraseIdx_cons_succ]
    exact ⟨e, _, rfl, h1, h2, h3, h.eraseIdx j⟩

/-- the key of the entry that is found is the key itself -/
theorem Fnd.key {kt : TypeId} {d : TypeDesc} {eq : Eq2} (he : EqOk P kt d eq) {k : AV} {es : Es} {o : Option Nat} (h : Fnd eq k es o) : ∀ {l : List MapEntry} {u : Value}, EsR p es l → VR p k u → ∀ j, o = some j → ∃ e, l[j]? = some e ∧ e.key = u ∧ Instr.sameBits 10000 e.key u = true := by
  induction h with
  | nil => intro l u _ _ j hj; cases hj
  | @here k' x es h1 =>
    intro l u hl hu j hj
    cases hj
    obtain ⟨v, b⟩ := x
    obtain ⟨e, m, rfl, h2, _⟩ := hl
    obtain ⟨h3, h4⟩ := he.same p k k' u e.key hu h2 h1
    refine ⟨e, rfl, h3.symm, ?_⟩
    rw [← h3] at h4 ⊢; exact h4
  | @there k' x es o h1 h2 ih =>
    intro l u hl hu j hj
    obtain ⟨v, b⟩ := x
    obtain ⟨e, m, rfl, _, _, _, hl⟩ := hl
    cases o with
    | none => cases hj
    | some i =>
      cases hj
      simpa using ih hl hu i rfl

theorem run_findKey {kt : TypeId} {d : TypeDesc} {eq : Eq2} (he : EqOk P kt d eq) {k : AV} {es : Es} {o : Option Nat} (h : Fnd eq k es o) {l : List MapEntry} {u : Value} (hl : EsR p es l) (hu : VR p k u) (w : World) :
    (Instr.findKey kt u l).run P w = .ok (o.bind fun j => (l[j]?).map fun e => (j, e.val)) w := by
  have asks : (∀ (p : Pl) (k k' : AV) (u v : Value) r, VR p k u → VR p k' v → eq k k' = some r → Instr.sameNow d u v = none ∧ ∀ w, (Op.equal kt u v).run P w = .ok r w) →
      ∀ {es : Es} {o : Option Nat}, Fnd eq k es o → ∀ {l : List MapEntry} (i : Nat), EsR p es l → (Instr.findAsking kt u l i).run P w = .ok (o.bind fun j => (l[j]?).map fun e => (i + j, e.val)) w := by
    intro hw es o hf
    induction hf with
    | nil => intro l i hl; simp only [EsR] at hl; subst hl; rfl
    | @here k' x es h1 =>
      intro l i hl
      obtain ⟨v, b⟩ := x
      obtain ⟨e, m, rfl, h2, _⟩ := hl
      unfold Instr.findAsking
      simp only [Bind.bind, run_bind, (hw p k k' u e.key true hu h2 h1).2, if_true, Pure.pure, Sem.run]
      simp
    | @there k' x es o h1 h2 ih =>
      intro l i hl
      obtain ⟨v, b⟩ := x
      obtain ⟨e, m, rfl, h3, _, _, hl⟩ := hl
      unfold Instr.findAsking
      simp only [Bind.bind, run_bind, (hw p k k' u e.key false hu h3 h1).2, Bool.false_eq_true, if_false, ih (i + 1) hl]
      cases o with
      | none => rfl
      | some j => simp only [Option.map_some, Option.bind_some, List.getElem?_cons_succ, show i + 1 + j = i + (j + 1) from by omega]
  unfold Instr.findKey
  simp only [Bind.bind, run_bind, run_underlying' he.und]
  rcases he.how with hw | hw
  · have now : ∀ {es : Es} {o : Option Nat}, Fnd eq k es o → ∀ {l : List MapEntry} (i : Nat), EsR p es l → Instr.findNow d u l i = some (o.bind fun j => (l[j]?).map fun e => (i + j, e.val)) := by
      intro es o hf
      induction hf with
      | nil => intro l i hl; simp only [EsR] at hl; subst hl; rfl
      | @here k' x es h1 =>
        intro l i hl
        obtain ⟨v, b⟩ := x
        obtain ⟨e, m, rfl, h2, _⟩ := hl
        unfold Instr.findNow
        rw [hw p k k' u e.key true hu h2 h1]
        simp
      | @there k' x es o h1 h2 ih =>
        intro l i hl
        obtain ⟨v, b⟩ := x
        obtain ⟨e, m, rfl, h3, _, _, hl⟩ := hl
        unfold Instr.findNow
        rw [hw p k k' u e.key false hu h3 h1]
        simp only [ih (i + 1) hl]
        cases o with
        | none => rfl
        | some j => simp only [Option.map_some, Option.bind_some, List.getElem?_cons_succ, show i + 1 + j = i + (j + 1) from by omega]
    rw [now h 0 hl]
    simp only [Pure.pure, Sem.run, Nat.zero_add]
  · cases h with
    | nil =>
      simp only [EsR] at hl
      subst hl
      rfl
    | @here k' x es h1 =>
      have h0 := asks hw (.here (x := x) (es := es) h1) 0 hl
      obtain ⟨v, b⟩ := x
      obtain ⟨e, m, rfl, h2, _⟩ := hl
      have : Instr.findNow d u (e :: m) 0 = none := by unfold Instr.findNow; rw [(hw p k k' u e.key true hu h2 h1).1]
      rw [this]
      simpa using h0
    | @there k' x es o h1 h2 =>
      have h0 := asks hw (.there (x := x) h1 h2) 0 hl
      obtain ⟨v, b⟩ := x
      obtain ⟨e, m, rfl, h3, _⟩ := hl
      have : Instr.findNow d u (e :: m) 0 = none := by unfold Instr.findNow; rw [(hw p k k' u e.key false hu h3 h1).1]
      rw [this]
      simpa using h0

/-- a key that is compared with entries may be a key; over none it is not asked for -/
theorem Fnd.check {kt : TypeId} {d : TypeDesc} {eq : Eq2} (he : EqOk P kt d eq) {k : AV} {es : Es} {o : Option Nat} (h : Fnd eq k es o) {u : Value} (hu : VR p k u) (hne : es ≠ [] ∨ ∃ k' r, eq k k' = some r) (em : Bool) (w : World) : (Instr.checkKey em 10000 kt u).run P w = .ok () w := by
  rcases hne with hne | ⟨k', r, hr⟩
  · cases h with
    | nil => exact absurd rfl hne
    | here h1 => exact he.check p k _ u _ hu h1 em w
    | there h1 _ => exact he.check p k _ u _ hu h1 em w
  · exact he.check p k k' u r hu hr em w
end
end Go.Rk
