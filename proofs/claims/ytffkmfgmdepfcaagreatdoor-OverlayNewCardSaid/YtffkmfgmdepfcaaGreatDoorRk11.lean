/- The reckoner's built-in functions that leave the world as it is. -/
import Derived.Test.YtffkmfgmdepfcaaGreatDoorRk10
set_option linter.unusedSimpArgs false
set_option linter.unusedVariables false
set_option linter.unusedSectionVars false
namespace Go.Rk
open Go.Sl (run_bind run_underlying' run_sizeOf)
open Go.RowKit
variable [Sym]

section
variable {P : Program} {tb : Tab} {p : Pl} {a : Act} {e : En} {x y : Operand} {va vb r : AV} {T U : TypeId}
variable {B0 : Nat} {w0 : World} {Fr : Nat → Option Obj} {s s' : S} {w : World}

theorem VRs.two {u v : AV} {l : List Value} (h : VRs p [u, v] l) : ∃ b c, l = [b, c] ∧ VR p u b ∧ VR p v c := by
  simp only [VRs] at h
  obtain ⟨b, m, rfl, h1, c, m', rfl, h2, rfl⟩ := h
  exact ⟨b, c, rfl, h1, h2⟩
theorem VRs.single {u : AV} {l : List Value} (h : VRs p [u] l) : ∃ b, l = [b] ∧ VR p u b := by
  simp only [VRs] at h
  obtain ⟨b, m, rfl, h1, rfl⟩ := h
  exact ⟨b, rfl, h1⟩

theorem max_ok {args : Array Operand} {ats : Array TypeId} (hoe : OE p e a.eval) (hargs : opds e args.toList = some [va, vb]) (h : maxO va vb s = some (.val r s')) : s' = s ∧ ∃ u, VR p r u ∧ PR P a.eval (.call ⟨.builtin .max, args, ats⟩) u := by
  obtain ⟨b, c, hbc, hb, hc⟩ := (hoe.list hargs).two
  unfold maxO at h
  split at h <;> first | (cases h; done) | skip
  rename_i k m k' n
  have := Option.some.inj h
  simp only [Res.val.injEq] at this
  obtain ⟨rfl, rfl⟩ := this
  simp only [VR] at hb hc
  subst hb; subst hc
  refine ⟨rfl, _, VR_int p k _, fun dst t pos after g w => ?_⟩
  have he : (args.map a.eval).toList = [.int k m, .int k' n] := by rw [Array.toList_map]; exact hbc
  cases hl : leI n m with
  | true =>
    rw [leI_eq, decide_eq_true_eq] at hl
    simp only [execOp, resolve, Bind.bind, run_bind, Pure.pure, Sem.run, invoke, Go.builtin, Builtin.max_, he, List.foldlM_cons, List.foldlM_nil, Builtin.max2, show ¬ n > m from by omega, if_false]
  | false =>
    rw [leI_eq, decide_eq_false_iff_not] at hl
    simp only [execOp, resolve, Bind.bind, run_bind, Pure.pure, Sem.run, invoke, Go.builtin, Builtin.max_, he, List.foldlM_cons, List.foldlM_nil, Builtin.max2, show n > m from by omega, if_true]
theorem min_ok {args : Array Operand} {ats : Array TypeId} (hoe : OE p e a.eval) (hargs : opds e args.toList = some [va, vb]) (h : minO va vb s = some (.val r s')) : s' = s ∧ ∃ u, VR p r u ∧ PR P a.eval (.call ⟨.builtin .min, args, ats⟩) u := by
  obtain ⟨b, c, hbc, hb, hc⟩ := (hoe.list hargs).two
  unfold minO at h
  split at h <;> first | (cases h; done) | skip
  rename_i k m k' n
  have := Option.some.inj h
  simp only [Res.val.injEq] at this
  obtain ⟨rfl, rfl⟩ := this
  simp only [VR] at hb hc
  subst hb; subst hc
  refine ⟨rfl, _, VR_int p k _, fun dst t pos after g w => ?_⟩
  have he : (args.map a.eval).toList = [.int k m, .int k' n] := by rw [Array.toList_map]; exact hbc
  cases hl : leI m n with
  | true =>
    rw [leI_eq, decide_eq_true_eq] at hl
    simp only [execOp, resolve, Bind.bind, run_bind, Pure.pure, Sem.run, invoke, Go.builtin, Builtin.min_, he, List.foldlM_cons, List.foldlM_nil, Builtin.min2, show ¬ n < m from by omega, if_false]
  | false =>
    rw [leI_eq, decide_eq_false_iff_not] at hl
    simp only [execOp, resolve, Bind.bind, run_bind, Pure.pure, Sem.run, invoke, Go.builtin, Builtin.min_, he, List.foldlM_cons, List.foldlM_nil, Builtin.min2, show n < m from by omega, if_true]
end
end Go.Rk
