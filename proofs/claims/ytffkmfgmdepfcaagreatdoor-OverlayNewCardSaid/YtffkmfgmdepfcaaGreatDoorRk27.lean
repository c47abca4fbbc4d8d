/- Closed checks of the reckoner's tables. -/
import Derived.Test.YtffkmfgmdepfcaaGreatDoorRk26
set_option linter.unusedSimpArgs false
set_option linter.unusedVariables false
set_option linter.unusedSectionVars false
namespace Go.Rk

noncomputable def Tr.allAt {α : Type} (f : Nat → α → Bool) : Tr α → (Nat → Nat) → Bool
  | .lf, _ => true
  | .nd o l r, g => (match o with | some a => f (g 0) a | none => true) && l.allAt f (fun k => g (2 * k + 1)) && r.allAt f (fun k => g (2 * k + 2))
theorem Tr.allAt_get {α : Type} {f : Nat → α → Bool} : ∀ {t : Tr α} {g : Nat → Nat}, t.allAt f g = true → ∀ {i : Nat} {a : α}, t.get i = some a → f (g i) a = true
  | .lf, g, _, i, a, h => by cases h
  | .nd o l r, g, h, i, a, hg => by
    simp only [Tr.allAt, Bool.and_eq_true] at h
    cases i with
    | zero =>
      have : o = some a := hg
      subst this
      exact h.1.1
    | succ j =>
      by_cases hj : j % 2 = 0
      · rw [Tr.get_even _ _ _ _ hj] at hg
        have := Tr.allAt_get h.1.2 hg
        rw [show 2 * (j / 2) + 1 = j + 1 from by omega] at this
        exact this
      · rw [Tr.get_odd _ _ _ _ hj] at hg
        have := Tr.allAt_get h.2 hg
        rw [show 2 * (j / 2) + 2 = j + 1 from by omega] at this
        exact this
def Tr.AllP {α : Type} (f : Nat → α → Prop) : Tr α → (Nat → Nat) → Prop
  | .lf, _ => True
  | .nd o l r, g => (match o with | some a => f (g 0) a | none => True) ∧ l.AllP f (fun k => g (2 * k + 1)) ∧ r.AllP f (fun k => g (2 * k + 2))
theorem Tr.AllP_get {α : Type} {f : Nat → α → Prop} : ∀ {t : Tr α} {g : Nat → Nat}, t.AllP f g → ∀ {i : Nat} {a : α}, t.get i = some a → f (g i) a
  | .lf, g, _, i, a, h => by cases h
  | .nd o l r, g, h, i, a, hg => by
    cases i with
    | zero =>
      have : o = some a := hg
      subst this
      exact h.1
    | succ j =>
      by_cases hj : j % 2 = 0
      · rw [Tr.get_even _ _ _ _ hj] at hg
        have := Tr.AllP_get h.2.1 hg
        rw [show 2 * (j / 2) + 1 = j + 1 from by omega] at this
        exact this
      · rw [Tr.get_odd _ _ _ _ hj] at hg
        have := Tr.AllP_get h.2.2 hg
        rw [show 2 * (j / 2) + 2 = j + 1 from by omega] at this
        exact this

noncomputable def eqFK : FloatKind → FloatKind → Bool
  | .f32, .f32 => true
  | .f64, .f64 => true
  | _, _ => false
theorem eqFK_eq {k k' : FloatKind} (h : eqFK k k' = true) : k = k' := by cases k <;> cases k' <;> first | rfl | (cases h; done)
mutual
noncomputable def eqZ : AV → AV → Bool
  | .bool a, .bool b => a == b
  | .int j a, .int k b => eqK j k && decide (a = b)
  | .flt j a, .flt k b => eqFK j k && Nat.beq a b
  | .str a, .str b => eqNs a b
  | .nilp, .nilp => true
  | .snil, .snil => true
  | .mnil, .mnil => true
  | .nilFn, .nilFn => true
  | .nilI, .nilI => true
  | .agg l, .agg m => eqZs l m
  | .tup l, .tup m => eqZs l m
  | _, _ => false
noncomputable def eqZs : List AV → List AV → Bool
  | [], [] => true
  | a :: l, b :: m => eqZ a b && eqZs l m
  | _, _ => false
end
theorem eqK_eq' {k k' : IntKind} (h : eqK k k' = true) : k = k' := by cases k <;> cases k' <;> first | rfl | (cases h; done)
theorem eqNs_eq' : ∀ {a b : List Nat}, eqNs a b = true → a = b
  | [], [], _ => rfl
  | [], _ :: _, h => by cases h
  | _ :: _, [], h => by cases h
  | a :: l, b :: m, h => by
    simp only [eqNs] at h
    split at h
    · rename_i hb
      rw [Nat.eq_of_beq_eq_true hb, eqNs_eq' h]
    · cases h
mutual
theorem eqZ_eq : ∀ {a b : AV}, eqZ a b = true → a = b := by
  intro a b h
  cases a <;> cases b <;> simp only [eqZ, Bool.false_eq_true, Bool.and_eq_true] at h <;> first | (cases h; done) | rfl | skip
  case bool => rw [eq_of_beq h]
  case int => rw [eqK_eq' h.1, of_decide_eq_true h.2]
  case flt => rw [eqFK_eq h.1, Nat.eq_of_beq_eq_true h.2]
  case str => rw [eqNs_eq' h]
  case agg => rw [eqZs_eq h]
  case tup => rw [eqZs_eq h]
theorem eqZs_eq : ∀ {a b : List AV}, eqZs a b = true → a = b := by
  intro a b h
  cases a <;> cases b <;> simp only [eqZs, Bool.false_eq_true, Bool.and_eq_true] at h <;> first | (cases h; done) | rfl | skip
  case cons => rw [eqZ_eq h.1, eqZs_eq h.2]
end

noncomputable def tkB : TK → TypeDesc → Bool
  | .bool, .bool => true
  | .int k, .int k' => eqK k k'
  | .flt j, .float k => eqFK j k
  | .str, .string => true
  | .ptr e, .pointer e' => Nat.beq e e'
  | .slice e, .slice e' => Nat.beq e e'
  | .arr n e, .array n' e' => Nat.beq n n' && Nat.beq e e'
  | .map k e, .map k' e' => Nat.beq k k' && Nat.beq e e'
  | .struct fs, .struct a => fsB fs a.toList
  | .func, .func _ _ _ => true
  | .iface, .interface _ => true
  | _, _ => false
where
  fsB : List (Nat × Nat) → List Field → Bool
    | [], [] => true
    | (o, t) :: l, f :: m => Nat.beq f.offset o && Nat.beq f.type t && fsB l m
    | _, _ => false
theorem fsB_eq : ∀ {fs : List (Nat × Nat)} {l : List Field}, tkB.fsB fs l = true → l.map (fun f => (f.offset, f.type)) = fs
  | [], [], _ => rfl
  | [], _ :: _, h => by cases h
  | _ :: _, [], h => by cases h
  | (o, t) :: l, f :: m, h => by
    simp only [tkB.fsB, Bool.and_eq_true] at h
    rw [List.map_cons, fsB_eq h.2, Nat.eq_of_beq_eq_true h.1.1, Nat.eq_of_beq_eq_true h.1.2]
theorem tkB_ok {P : Program} {k : TK} {d : TypeDesc} (h : tkB k d = true) : tkM P k d := by
  cases k <;> cases d <;> simp only [tkB, Bool.false_eq_true, Bool.and_eq_true] at h <;> first | (cases h; done) | skip
  all_goals simp only [tkM]
  case int => rw [eqK_eq' h]
  case flt => rw [eqFK_eq h]
  case ptr => rw [Nat.eq_of_beq_eq_true h]
  case slice => rw [Nat.eq_of_beq_eq_true h]
  case arr => rw [Nat.eq_of_beq_eq_true h.1, Nat.eq_of_beq_eq_true h.2]
  case map => rw [Nat.eq_of_beq_eq_true h.1, Nat.eq_of_beq_eq_true h.2]
  case struct => exact ⟨_, rfl, fsB_eq h⟩
  case func => exact ⟨_, _, _, rfl⟩
  case iface => exact ⟨_, rfl⟩

noncomputable def tyB (P : Program) (T : Nat) (t : TI) : Bool :=
  (match P.underlying T with
    | some d => tkB t.k d && (match d with | .struct arr => (Sl.placesL P arr.toList).isSome | _ => true)
    | none => false) &&
  (match P.info? T with
    | some i => Nat.beq i.size t.size && Nat.beq i.bytes t.bytes && (match i.zero with
      | some z => (match absV z with
        | some a => eqZ a t.zero
        | none => false)
      | none => false)
    | none => false) && Nat.beq (cellsOf t.zero).length t.size
theorem tyB_ok {P : Program} {T : Nat} {t : TI} (h : tyB P T t = true) : TyOk P T t := by
  simp only [tyB, Bool.and_eq_true] at h
  obtain ⟨⟨h1, h2⟩, h3⟩ := h
  cases hd : P.underlying T with
  | none => rw [hd] at h1; cases h1
  | some d =>
    rw [hd] at h1
    simp only [Bool.and_eq_true] at h1
    cases hi : P.info? T with
    | none => rw [hi] at h2; cases h2
    | some i =>
      rw [hi] at h2
      simp only [Bool.and_eq_true] at h2
      obtain ⟨⟨h4, h5⟩, h6⟩ := h2
      cases hz : i.zero with
      | none => rw [hz] at h6; cases h6
      | some z =>
        rw [hz] at h6
        simp only at h6
        cases ha : absV z with
        | none => rw [ha] at h6; cases h6
        | some a =>
          rw [ha] at h6
          have := eqZ_eq h6
          subst this
          refine ⟨⟨d, hd, tkB_ok h1.1⟩, by simp [hi, Nat.eq_of_beq_eq_true h4], by simp [hi, Nat.eq_of_beq_eq_true h5], ⟨z, by simp [hi, hz], ha⟩, fun arr harr => ?_, Nat.eq_of_beq_eq_true h3⟩
          rw [hd] at harr
          cases harr
          exact Option.isSome_iff_exists.1 h1.2

noncomputable def funB (tb : Tab) (f : Nat) (fn : Func) : Bool := match fn.body with
  | none => true
  | some c => codeOk fn.ntmps ((tb.plan.get f).getD []) c && !(fn.name == "runtime.NumGoroutine")
theorem funsOk_of {tb : Tab} (h : tb.funs.AllP (fun f g => funB tb f g = true) (fun k => k)) : FunsOk tb := fun f fn c hf hc => by
  have := Tr.AllP_get (f := fun f g => funB tb f g = true) (g := fun k => k) h hf
  simp only [funB, hc, Bool.and_eq_true, Bool.not_eq_true'] at this
  exact this
end Go.Rk
