/- The reckoner's operations that leave the world as it is. -/
import Derived.Test.YtffkmfgmdepfcaaGreatDoorRk3
set_option linter.unusedSimpArgs false
set_option linter.unusedVariables false
set_option linter.unusedSectionVars false
namespace Go.Rk
open Go.Sl (cell_of add_mk run_bind run_storeCells run_underlying' run_sizeOf run_zeroValue run_loadCells run_load)
open Go.RowKit
variable [Sym]

mutual
theorem absV_ok {p : Pl} : ∀ {v : Value} {a : AV}, absV v = some a → VR p a v
  | .bool _, _, h => by simp only [absV, Option.some.injEq] at h; subst h; simp [VR]
  | .int _ _, _, h => by simp only [absV, Option.some.injEq] at h; subst h; simp [VR]
  | .float _ _, _, h => by simp only [absV, Option.some.injEq] at h; subst h; simp [VR]
  | .complex _ _ _, _, h => by simp [absV] at h
  | .string s, _, h => by simp only [absV, Option.some.injEq] at h; subst h; simp [VR]
  | .pointer none, _, h => by simp only [absV, Option.some.injEq] at h; subst h; simp [VR]
  | .pointer (some _), _, h => by simp [absV] at h
  | .slice a n c, _, h => by
    unfold absV at h
    split at h <;> first | (cases h; done) | (rename_i e; cases e; done) | skip
    · rename_i e; cases e; simp only [Option.some.injEq] at h; subst h; simp [VR]
  | .map none, _, h => by simp only [absV, Option.some.injEq] at h; subst h; simp [VR]
  | .map (some _), _, h => by simp [absV] at h
  | .chan _, _, h => by simp [absV] at h
  | .func _ _ _, _, h => by simp [absV] at h
  | .nilFunc, _, h => by simp only [absV, Option.some.injEq] at h; subst h; simp [VR]
  | .iface _ _, _, h => by simp [absV] at h
  | .nilIface, _, h => by simp only [absV, Option.some.injEq] at h; subst h; simp [VR]
  | .agg ⟨l⟩, _, h => by
    simp only [absV] at h
    obtain ⟨r, e1, e2⟩ := ob_some h
    simp only [Option.some.injEq] at e2; subst e2
    simp only [VR]; exact ⟨l, rfl, absVs_ok e1⟩
  | .tuple ⟨l⟩, _, h => by
    simp only [absV] at h
    obtain ⟨r, e1, e2⟩ := ob_some h
    simp only [Option.some.injEq] at e2; subst e2
    simp only [VR]; exact ⟨l, rfl, absVs_ok e1⟩
theorem absVs_ok {p : Pl} : ∀ {l : List Value} {r : List AV}, absVs l = some r → VRs p r l
  | [], _, h => by simp only [absVs, Option.some.injEq] at h; subst h; simp [VRs]
  | v :: l, _, h => by
    simp only [absVs] at h
    obtain ⟨a, e1, e2⟩ := ob_some h
    obtain ⟨r, e3, e4⟩ := ob_some e2
    simp only [Option.some.injEq] at e4; subst e4
    simp only [VRs]; exact ⟨v, l, rfl, absV_ok e1, absVs_ok e3⟩
end

/-- the frame's temporaries are the reckoner's -/
structure RE (p : Pl) (n : Nat) (e : En) (a : Act) : Prop where
  size : n ≤ a.tmps.size
  defers : a.defers = []
  get : ∀ t, VR p (tmpV e t) (a.tmps.getD t undef)

theorem RE.mono {p q : Pl} (h : Pl.le p q) {n : Nat} {e : En} {a : Act} (r : RE p n e a) : RE q n e a := ⟨r.size, r.defers, fun t => (r.get t).mono h⟩

/-- what the operands read -/
def OE (p : Pl) (e : En) (ρ : Operand → Value) : Prop := ∀ x v, opd e x = some v → VR p v (ρ x)

theorem RE.oe {p : Pl} {n : Nat} {e : En} {a : Act} (r : RE p n e a) : OE p e a.eval := fun x v h => by
  cases x with
  | tmp t => simp only [opd, Option.some.injEq] at h; subst h; exact r.get t
  | const c => exact absV_ok h
  | global g => cases h
  | func f => simp only [opd, Option.some.injEq] at h; subst h; simp only [VR, Act.eval]; exact ⟨[], [], rfl, by simp [VRs], by simp [VRs]⟩

theorem OE.list {p : Pl} {e : En} {ρ : Operand → Value} (h : OE p e ρ) : ∀ {l : List Operand} {r : List AV}, opds e l = some r → VRs p r (l.map ρ)
  | [], _, k => by simp only [opds, Option.some.injEq] at k; subst k; simp [VRs]
  | x :: l, _, k => by
    simp only [opds] at k
    obtain ⟨a, e1, e2⟩ := ob_some k
    obtain ⟨r, e3, e4⟩ := ob_some e2
    simp only [Option.some.injEq] at e4; subst e4
    simp only [List.map_cons, VRs]; exact ⟨_, _, rfl, h _ _ e1, h.list e3⟩

theorem RE.put {p : Pl} {n : Nat} {e : En} {a : Act} (r : RE p n e a) {d : Option Nat} {v : AV} {u : Value} (h : VR p v u) (hd : ∀ k, d = some k → k < n) : RE p n (putT e d v) (a.put d u) := by
  cases d with
  | none => exact r
  | some d =>
    refine ⟨by simp [Act.put, r.size], by simp [Act.put, r.defers], fun t => ?_⟩
    have hds : d < a.tmps.size := Nat.lt_of_lt_of_le (hd d rfl) r.size
    simp only [putT, tmpV, Act.put]
    by_cases ht : t = d
    · subst ht
      rw [Tr.put_same]
      simp only [Array.getD_eq_getD_getElem?, Array.getElem?_setIfInBounds_self_of_lt hds, Option.getD_some]
      exact h
    · rw [Tr.put_ne _ _ _ _ ht]
      simp only [Array.getD_eq_getD_getElem?, Array.getElem?_setIfInBounds_ne (Ne.symm ht)]
      simpa [Array.getD_eq_getD_getElem?, tmpV] using r.get t

/-! ### numbers -/
theorem leI_eq (a b : Int) : leI a b = decide (a ≤ b) := by
  cases a <;> cases b <;> simp only [leI] <;> rw [Bool.eq_iff_iff] <;> simp [Nat.ble_eq] <;> omega
theorem eqI_eq (a b : Int) : eqI a b = decide (a = b) := by
  cases a <;> cases b <;> simp only [eqI] <;> rw [Bool.eq_iff_iff] <;> simp [Nat.beq_eq] <;> omega
theorem eqK_eq {k k' : IntKind} (h : eqK k k' = true) : k = k' := by cases k <;> cases k' <;> first | rfl | (cases h; done)
theorem wrapK_eq (k : IntKind) (n : Int) : wrapK k n = k.wrap n := by
  unfold wrapK
  split
  · rename_i h
    cases k <;> simp only [inK] at h <;> first | (cases h; done) | skip
    all_goals simp only [leI_eq, Bool.and_eq_true, decide_eq_true_eq] at h
    · exact (IntWalk.i32_in n h).symm
    · exact (IntWalk.i64_in n h).symm
    · exact (IntWalk.u8_in n h).symm
    · exact (IntWalk.u32_in n h).symm
    · exact (IntWalk.u64_in n h).symm
  · rfl
theorem eqNs_eq : ∀ (a b : List Nat), eqNs a b = decide (a = b)
  | [], [] => rfl
  | [], _ :: _ => rfl
  | _ :: _, [] => rfl
  | a :: l, b :: m => by
    simp only [eqNs]
    split
    · rename_i h
      have := Nat.eq_of_beq_eq_true h
      subst this
      rw [eqNs_eq l m]
      simp
    · rename_i h
      have := Nat.ne_of_beq_eq_false h
      simp [this]

theorem lessNs_eq : ∀ (a b : List UInt8), lessNs (a.map (·.toNat)) (b.map (·.toNat)) = Op.bytesLess a b
  | [], [] => rfl
  | [], _ :: _ => rfl
  | _ :: _, [] => rfl
  | a :: l, b :: m => by
    simp only [List.map_cons, lessNs, Op.bytesLess]
    rw [lessNs_eq l m]
    have h1 : Nat.blt a.toNat b.toNat = decide (a < b) := by
      rw [Bool.eq_iff_iff]; simp [Nat.blt_eq, UInt8.lt_iff_toNat_lt]
    have h2 : Nat.beq a.toNat b.toNat = (a == b) := by
      rw [Bool.eq_iff_iff]; simp [Nat.beq_eq, UInt8.toNat_inj]
    rw [h1, h2]
    cases decide (a < b) <;> cases (a == b) <;> rfl

theorem envFor (a : Act) : ∀ ys : List Operand, (∀ y ∈ ys, ∀ g, y ≠ .global g) → ∃ E, Sl.Ok E a.eval ∧ ∀ y ∈ ys, Sl.ev E y = some (a.eval y)
  | [], _ => ⟨[], fun y u h => by
      cases y with
      | tmp t => simp [Sl.ev, Sl.look] at h
      | const v => simpa [Sl.ev, Act.eval] using h
      | global g => simpa [Sl.ev, Act.eval] using h
      | func f => simpa [Sl.ev, Act.eval] using h, by simp⟩
  | y :: ys, hg => by
    obtain ⟨E, h1, h2⟩ := envFor a ys (fun z hz => hg z (List.mem_cons_of_mem _ hz))
    cases y with
    | tmp t =>
      refine ⟨(t, a.eval (.tmp t)) :: E, fun z u hz => ?_, fun z hz => ?_⟩
      · cases z with
        | tmp t' =>
          change Sl.look ((t, a.eval (.tmp t)) :: E) t' = some u at hz
          unfold Sl.look at hz
          split at hz
          · rename_i e
            have e := Nat.eq_of_beq_eq_true e
            subst e
            simpa using hz
          · exact h1 (.tmp t') u hz
        | const v => exact h1 _ _ hz
        | global g => exact h1 _ _ hz
        | func f => exact h1 _ _ hz
      · have look_cons : ∀ t', Sl.look ((t, a.eval (.tmp t)) :: E) t' = some (a.eval (.tmp t')) ∨ Sl.look ((t, a.eval (.tmp t)) :: E) t' = Sl.look E t' := fun t' => by
          by_cases e : Nat.beq t t' = true
          · have e' := Nat.eq_of_beq_eq_true e
            subst e'
            left
            unfold Sl.look
            simp
          · right
            conv => lhs; unfold Sl.look
            simp only [Bool.not_eq_true] at e
            rw [e]
        rcases List.mem_cons.1 hz with rfl | hz
        · change Sl.look ((t, a.eval (.tmp t)) :: E) t = _
          unfold Sl.look
          simp
        · cases z with
          | tmp t' =>
            rcases look_cons t' with h | h
            · exact h
            · exact h.trans (h2 _ hz)
          | const v => exact h2 _ hz
          | global g => exact h2 _ hz
          | func f => exact h2 _ hz
    | const v => exact ⟨E, h1, fun z hz => by
        rcases List.mem_cons.1 hz with rfl | hz
        · rfl
        · exact h2 z hz⟩
    | global g => exact absurd rfl (hg _ (by simp) g)
    | func f => exact ⟨E, h1, fun z hz => by
        rcases List.mem_cons.1 hz with rfl | hz
        · rfl
        · exact h2 z hz⟩

/-- whatever the world, it yields u and leaves the world -/
def PR (P : Program) (ρ : Operand → Value) (op : Op) (u : Value) : Prop :=
  ∀ dst t pos after g w, (execOp ρ ⟨dst, op, t, pos, after, g⟩).run P w = .ok (.value u) w

theorem opd_glob {e : En} {x : Operand} {v : AV} (h : opd e x = some v) : ∀ g, x ≠ .global g := fun g e' => by subst e'; cases h

theorem PR.of1 {P : Program} {a : Act} {e : En} {x : Operand} {va : AV} {op : Op} {u : Value} (hx : opd e x = some va) (h : ∀ E, Sl.ev E x = some (a.eval x) → Sl.PureOp P E op u) : PR P a.eval op u := by
  obtain ⟨E, h1, h2⟩ := envFor a [x] (by simpa using opd_glob hx)
  exact h E (h2 x (by simp)) a.eval h1
theorem PR.of2 {P : Program} {a : Act} {e : En} {x y : Operand} {va vb : AV} {op : Op} {u : Value} (hx : opd e x = some va) (hy : opd e y = some vb) (h : ∀ E, Sl.ev E x = some (a.eval x) → Sl.ev E y = some (a.eval y) → Sl.PureOp P E op u) : PR P a.eval op u := by
  obtain ⟨E, h1, h2⟩ := envFor a [x, y] (by simpa using ⟨opd_glob hx, opd_glob hy⟩)
  exact h E (h2 x (by simp)) (h2 y (by simp)) a.eval h1

section
variable {P : Program} {E : Sl.Env} {T U : TypeId} {y z : Operand}
theorem op_bits {k : IntKind} {o : BinOp} {a b r : Int} (hy : Sl.ev E y = some (.int k a)) (hz : Sl.ev E z = some (.int k b)) (hb : ∀ w, (Go.binOp o T (.int k a) (.int k b)).run P w = .ok (.int k r) w) : Sl.PureOp P E (.binOp o T y z U) (.int k r) :=
  Sl.run_bin hy hz (fun w => by cases o <;> simp [eqGuard, Bind.bind, Sem.bind, Pure.pure, Sem.run]) hb
end

theorem VR_int (p : Pl) (k : IntKind) (n : Int) : VR p (.int k n) (.int k n) := by simp only [VR]
theorem VR_bool (p : Pl) (b : Bool) : VR p (.bool b) (.bool b) := by simp only [VR]

theorem binI_ok {P : Program} {E : Sl.Env} {T U : TypeId} {y z : Operand} {o : BinOp} {k : IntKind} {a b : Int} {r : AV} (hs : isShift o = false) (hy : Sl.ev E y = some (.int k a)) (hz : Sl.ev E z = some (.int k b)) (h : binI o k a b = some r) :
    ∃ u, (∀ p, VR p r u) ∧ Sl.PureOp P E (.binOp o T y z U) u := by
  cases o <;> simp only [binI, isShift, Option.some.injEq] at h hs <;> first | (cases h; done) | (cases hs; done) | skip
  all_goals try subst h
  · exact ⟨_, fun p => VR_int p k _, (wrapK_eq k (a + b)).symm ▸ Sl.op_addw hy hz⟩
  · exact ⟨_, fun p => VR_int p k _, (wrapK_eq k (a - b)).symm ▸ Sl.op_subw hy hz⟩
  · exact ⟨_, fun p => VR_int p k _, (wrapK_eq k (a * b)).symm ▸ Sl.op_mulw hy hz⟩
  · split at h
    · cases h
    · rename_i hb
      simp only [Option.some.injEq] at h; subst h
      rw [eqI_eq, decide_eq_false_iff_not] at hb
      exact ⟨_, fun p => VR_int p k _, op_bits hy hz fun w => by simp [Go.binOp, Op.intDiv, hb, Pure.pure, Sem.run, wrapK_eq]⟩
  · split at h
    · cases h
    · rename_i hb
      simp only [Option.some.injEq] at h; subst h
      rw [eqI_eq, decide_eq_false_iff_not] at hb
      exact ⟨_, fun p => VR_int p k _, op_bits hy hz fun w => by simp [Go.binOp, Op.intDiv, hb, Pure.pure, Sem.run]⟩
  · exact ⟨_, fun p => VR_int p k _, op_bits hy hz fun w => by simp [Go.binOp, Op.intBits, Pure.pure, Sem.run]⟩
  · exact ⟨_, fun p => VR_int p k _, op_bits hy hz fun w => by simp [Go.binOp, Op.intBits, Pure.pure, Sem.run]⟩
  · exact ⟨_, fun p => VR_int p k _, op_bits hy hz fun w => by simp [Go.binOp, Op.intBits, Pure.pure, Sem.run]⟩
  · exact ⟨_, fun p => VR_int p k _, op_bits hy hz fun w => by simp [Go.binOp, Op.intBits, Pure.pure, Sem.run]⟩
  all_goals simp only [leI_eq, eqI_eq, ← decide_not, Int.not_le]
  · exact ⟨_, fun p => VR_bool p _, Sl.op_eql hy hz⟩
  · exact ⟨_, fun p => VR_bool p _, Sl.op_neq hy hz⟩
  · exact ⟨_, fun p => VR_bool p _, Sl.op_lss hy hz⟩
  · exact ⟨_, fun p => VR_bool p _, Sl.op_leq hy hz⟩
  · exact ⟨_, fun p => VR_bool p _, Sl.op_gtr hy hz⟩
  · exact ⟨_, fun p => VR_bool p _, Sl.op_geq hy hz⟩
end Go.Rk
