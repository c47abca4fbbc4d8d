/- The reckoner's quiet operations in one. -/
import Derived.Test.YtffkmfgmdepfcaaGreatDoorRk14
set_option linter.unusedSimpArgs false
set_option linter.unusedVariables false
set_option linter.unusedSectionVars false
namespace Go.Rk
open Go.Sl (run_bind run_underlying' run_sizeOf run_zeroValue run_isAgg)
open Go.RowKit
variable [Sym]

structure TabOk (P : Program) (tb : Tab) : Prop where
  ty : ∀ T t, tb.tys.get T = some t → TyOk P T t
  keys : KeysOk P tb
  fn : ∀ f g, tb.funs.get f = some g → P.funcs[f]? = some g
  res : (symV 2).tmod 6 = tb.res
  meth : ∀ t nm f, (t, nm, f) ∈ tb.meths → ∀ v w, (Go.method (P.types.size + Made.depth) t v nm).run P w = .ok (f, v) w

section
variable {P : Program} {tb : Tab} {p : Pl} {a : Act} {e : En} {x y : Operand} {va vb r : AV} {T U : TypeId} {n : Nat}
variable {B0 : Nat} {w0 : World} {Fr : Nat → Option Obj} {s s' : S} {w : World}

theorem pv_some {v : Option AV} {x : AV} (h : pv s v = some (.val x s')) : s' = s ∧ v = some x := by
  unfold pv at h
  split at h
  · simp only [Option.some.injEq, Res.val.injEq] at h
    exact ⟨h.2.symm, by rw [h.1]⟩
  · cases h
theorem o2_some {x y : Operand} {f : AV → AV → Option AV} {v : AV} (h : o2 e s x y f = some (.val v s')) : s' = s ∧ ∃ a b, opd e x = some a ∧ opd e y = some b ∧ f a b = some v := by
  obtain ⟨h1, h2⟩ := pv_some h
  obtain ⟨a, h3, h4⟩ := ob_some h2
  obtain ⟨b, h5, h6⟩ := ob_some h4
  exact ⟨h1, a, b, h3, h5, h6⟩
theorem o1_some {x : Operand} {f : AV → Option AV} {v : AV} (h : pv s (ob (opd e x) f) = some (.val v s')) : s' = s ∧ ∃ a, opd e x = some a ∧ f a = some v := by
  obtain ⟨h1, h2⟩ := pv_some h
  obtain ⟨a, h3, h4⟩ := ob_some h2
  exact ⟨h1, a, h3, h4⟩

/-- what a quiet operation yields: in this world, or (it reads no memory) in every one -/
def Quiet (P : Program) (ρ : Operand → Value) (op : Op) (m : Bool) (u : Value) (w : World) : Prop := PW P ρ op u w ∧ (m = false → PR P ρ op u)

theorem Quiet.pr {ρ : Operand → Value} {op : Op} {m : Bool} {u : Value} (h : PR P ρ op u) (w : World) : Quiet P ρ op m u w := ⟨h.pw w, fun _ => h⟩
theorem Quiet.pw {ρ : Operand → Value} {op : Op} {u : Value} {w : World} (h : PW P ρ op u w) : Quiet P ρ op true u w := ⟨h, fun h => by cases h⟩
theorem qx {ρ : Operand → Value} {op : Op} {m : Bool} {w : World} (h : ∃ u, VR p r u ∧ PR P ρ op u) : ∃ u, VR p r u ∧ Quiet P ρ op m u w := let ⟨u, h1, h2⟩ := h; ⟨u, h1, .pr h2 w⟩
theorem qw {ρ : Operand → Value} {op : Op} {w : World} (h : ∃ u, VR p r u ∧ PW P ρ op u w) : ∃ u, VR p r u ∧ Quiet P ρ op true u w := let ⟨u, h1, h2⟩ := h; ⟨u, h1, .pw h2⟩

theorem exOp_quiet {op : Op} {m : Bool} (ht : TabOk P tb) (hq : readsMem op = some m) (hs : Sim B0 w0 Fr p s w) (hoe : OE p e a.eval) (h : exOp tb e s op = some (.val r s')) : s' = s ∧ ∃ u, VR p r u ∧ Quiet P a.eval op m u w := by
  have htb := ht.ty
  cases op <;> simp only [readsMem, Option.some.injEq] at hq <;> first | (cases hq; done) | skip
  case move x => obtain ⟨h1, h2⟩ := pv_some h; exact ⟨h1, qx (move_ok hoe h2)⟩
  case assign x => obtain ⟨h1, h2⟩ := pv_some h; exact ⟨h1, qx (assign_ok hoe h2)⟩
  case pick c x y => obtain ⟨h1, h2⟩ := pv_some h; exact ⟨h1, qx (pick_ok hoe h2)⟩
  case build T ps => obtain ⟨h1, h2⟩ := pv_some h; exact ⟨h1, qx (build_ok htb hoe h2)⟩
  case load T x => obtain ⟨h1, va, h2, h3⟩ := o1_some h; subst hq; exact ⟨h1, qw (load_ok htb hs (hoe _ _ h2) h3)⟩
  case nilCheck x => obtain ⟨h1, va, h2, h3⟩ := o1_some h; exact ⟨h1, qx (nilCheck_ok h2 (hoe _ _ h2) h3)⟩
  case binOp o T x y U => obtain ⟨h1, va, vb, h2, h3, h4⟩ := o2_some h; exact ⟨h1, qx (bin_ok ht.res htb h2 h3 (hoe _ _ h2) (hoe _ _ h3) h4)⟩
  case unOp o T x => obtain ⟨h1, va, h2, h3⟩ := o1_some h; exact ⟨h1, qx (un_ok h2 (hoe _ _ h2) h3)⟩
  case convert src dst x => obtain ⟨h1, va, h2, h3⟩ := o1_some h; exact ⟨h1, qx (convert_ok htb h2 (hoe _ _ h2) h3)⟩
  case makeInterface T x => obtain ⟨h1, va, h2, h3⟩ := o1_some h; exact ⟨h1, qx (iface_ok htb h2 (hoe _ _ h2) h3)⟩
  case makeFunc f xs ys =>
    obtain ⟨h1, h2⟩ := pv_some h
    obtain ⟨l, h3, h4⟩ := ob_some h2
    obtain ⟨m, h5, h6⟩ := ob_some h4
    simp only [Option.some.injEq] at h6
    subst h6
    exact ⟨h1, qx (makeFunc_ok hoe h3 h5)⟩
  case slice T x lo hi mx =>
    cases mx with
    | none => obtain ⟨h1, va, h2, h3⟩ := o1_some (show pv s (ob (opd e x) fun x => oSlice tb e T x lo hi) = _ from h); exact ⟨h1, qx (slice_ok htb hoe (hoe _ _ h2) h3)⟩
    | some _ => cases h
  case fieldAddr T x f => obtain ⟨h1, va, h2, h3⟩ := o1_some h; exact ⟨h1, qx (fieldAddr_ok htb h2 (hoe _ _ h2) h3)⟩
  case field T x f => obtain ⟨h1, va, h2, h3⟩ := o1_some h; exact ⟨h1, qx (field_ok htb h2 (hoe _ _ h2) h3)⟩
  case indexAddr T x y => obtain ⟨h1, va, vb, h2, h3, h4⟩ := o2_some h; exact ⟨h1, qx (indexAddr_ok htb h2 h3 (hoe _ _ h2) (hoe _ _ h3) h4)⟩
  case index T x y => obtain ⟨h1, va, vb, h2, h3, h4⟩ := o2_some h; exact ⟨h1, qx (index_ok htb h2 h3 (hoe _ _ h2) (hoe _ _ h3) h4)⟩
  case lookup T x y ok => obtain ⟨h1, va, vb, h2, h3, h4⟩ := o2_some h; subst hq; exact ⟨h1, qw (lookup_ok htb ht.keys hs (hoe _ _ h2) (hoe _ _ h3) h4)⟩
  case extract x i => obtain ⟨h1, va, h2, h3⟩ := o1_some h; exact ⟨h1, qx (extract_ok h2 (hoe _ _ h2) h3)⟩
  case call c =>
    obtain ⟨callee, args, ats⟩ := c
    obtain ⟨l, hl, h1⟩ := ob_some (show ob (opds e args.toList) _ = _ from h)
    simp only at hq h1
    split at hq <;> first | (cases hq; done) | skip
    · cases hq
      simp only [builtinO] at h1
      split at h1 <;> first | (cases h1; done) | skip
      rename_i T ts va _ hts
      exact ⟨(len_ok hts htb hs hoe hl h1).1, qw (len_ok hts htb hs hoe hl h1).2⟩
    · simp only [builtinO] at h1
      split at h1 <;> first | (cases h1; done) | skip
      exact ⟨(max_ok (P := P) (ats := ats) hoe hl h1).1, qx (max_ok hoe hl h1).2⟩
    · simp only [builtinO] at h1
      split at h1 <;> first | (cases h1; done) | skip
      exact ⟨(min_ok (P := P) (ats := ats) hoe hl h1).1, qx (min_ok hoe hl h1).2⟩
end

/-! ### values that are told to be the same -/
mutual
theorem eqV_det {p : Pl} : ∀ {a b : AV} {u v : Value}, eqV a b = true → VR p a u → VR p b v → u = v := by
  intro a b u v h ha hb
  cases a <;> cases b <;> simp only [eqV, Bool.false_eq_true, Bool.and_eq_true] at h <;> first | (cases h; done) | skip
  case bool => have := eq_of_beq h; subst this; simp only [VR] at ha hb; rw [ha, hb]
  case int => have h1 := eqK_eq h.1; have h2 : _ = _ := of_decide_eq_true ((eqI_eq _ _).symm.trans h.2); subst h1; subst h2; simp only [VR] at ha hb; rw [ha, hb]
  case str =>
    rw [eqNs_eq, decide_eq_true_eq] at h
    subst h
    exact VR.det ha hb
  case nilp => simp only [VR] at ha hb; rw [ha, hb]
  case ptr => have h1 := Nat.eq_of_beq_eq_true h.1; have h2 := Nat.eq_of_beq_eq_true h.2; subst h1; subst h2; exact VR.det ha hb
  case snil => simp only [VR] at ha hb; rw [ha, hb]
  case sl => have h1 := Nat.eq_of_beq_eq_true h.1.1.1; have h2 := Nat.eq_of_beq_eq_true h.1.1.2; have h3 := Nat.eq_of_beq_eq_true h.1.2; have h4 := Nat.eq_of_beq_eq_true h.2; subst h1; subst h2; subst h3; subst h4; exact VR.det ha hb
  case slg => have h1 := Nat.eq_of_beq_eq_true h.1.1.1.1; have h2 := Nat.eq_of_beq_eq_true h.1.1.1.2; have h3 := Nat.eq_of_beq_eq_true h.1.1.2; have h4 := Nat.eq_of_beq_eq_true h.1.2; have h5 := Nat.eq_of_beq_eq_true h.2; subst h1; subst h2; subst h3; subst h4; subst h5; exact VR.det ha hb
  case mnil => simp only [VR] at ha hb; rw [ha, hb]
  case map => have h1 := Nat.eq_of_beq_eq_true h; subst h1; exact VR.det ha hb
  case nilFn => simp only [VR] at ha hb; rw [ha, hb]
  case nilI => simp only [VR] at ha hb; rw [ha, hb]
  case agg l m =>
    simp only [VR] at ha hb
    obtain ⟨l', rfl, hl⟩ := ha
    obtain ⟨m', rfl, hm⟩ := hb
    rw [eqVs_det h hl hm]
  case tup l m =>
    simp only [VR] at ha hb
    obtain ⟨l', rfl, hl⟩ := ha
    obtain ⟨m', rfl, hm⟩ := hb
    rw [eqVs_det h hl hm]
theorem eqVs_det {p : Pl} : ∀ {a b : List AV} {u v : List Value}, eqVs a b = true → VRs p a u → VRs p b v → u = v := by
  intro a b u v h ha hb
  cases a <;> cases b <;> simp only [eqVs, Bool.false_eq_true, Bool.and_eq_true] at h <;> first | (cases h; done) | skip
  case nil => simp only [VRs] at ha hb; rw [ha, hb]
  case cons =>
    simp only [VRs] at ha hb
    obtain ⟨u1, us, rfl, h1, h2⟩ := ha
    obtain ⟨v1, vs, rfl, h3, h4⟩ := hb
    rw [eqV_det h.1 h1 h3, eqVs_det h.2 h2 h4]
end
end Go.Rk
