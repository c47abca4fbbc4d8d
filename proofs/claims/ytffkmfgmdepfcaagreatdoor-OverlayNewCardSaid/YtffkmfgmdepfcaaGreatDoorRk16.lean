/- The reckoner's operations that make a block; those that write. -/
import Derived.Test.YtffkmfgmdepfcaaGreatDoorRk15
set_option linter.unusedSimpArgs false
set_option linter.unusedVariables false
set_option linter.unusedSectionVars false
namespace Go.Rk
open Go.Sl (run_bind run_underlying' run_sizeOf run_zeroValue run_isAgg add_mk)
open Go.RowKit
variable [Sym]

def floatOp : Op → Bool
  | .buildSlice .. | .alloc _ | .box .. => true
  | .makeMap _ none => true
  | _ => false

/-- an operation that makes a block and nothing else: what it makes, the value as the block's number tells it -/
structure Makes (P : Program) (ρ : Operand → Value) (op : Op) (ob : Obj) (mk : Nat → Value) : Prop where
  run : ∀ dst t pos after g w, (execOp ρ ⟨dst, op, t, pos, after, g⟩).run P w = .ok (.value (mk w.heap.size)) (w.alloc ob)

structure Made (p : Pl) (s : S) (v : AV) (s' : S) (ao : AO) (ob : Obj) (mk : Nat → Value) (Sz : Nat) : Prop where
  push : s' = s.push ao
  dead : ao ≠ .dead
  val : ∀ q b, q s.nx = some (b, 0, Sz) → VR q v (mk b)
  obj : ∀ q b w, Pl.le p q → w.heap[b]? = some ob → OR q ao b 0 Sz w

section
variable {P : Program} {tb : Tab} {p : Pl} {a : Act} {e : En} {x y : Operand} {va vb r : AV} {T U : TypeId} {n : Nat}
variable {B0 : Nat} {w0 : World} {Fr : Nat → Option Obj} {s s' : S} {w : World}

theorem range_cells (z : Array Value) : ∀ n, ((Array.range (n * z.size)).map (z[· % z.size]!)).toList = List.flatten (List.replicate n z.toList) := by
  intro n
  by_cases h0 : z.size = 0
  · have : z = #[] := Array.eq_empty_of_size_eq_zero h0
    subst this
    simp
  · have hpos : 0 < z.size := by omega
    rw [Array.toList_map, Array.toList_range]
    induction n with
    | zero => simp
    | succ n ih =>
      rw [Nat.succ_mul, Nat.add_comm, List.range_add, List.map_append, List.map_map, List.replicate_succ, List.flatten_cons]
      congr 1
      · apply List.ext_getElem?
        intro i
        rw [List.getElem?_map]
        by_cases hi : i < z.size
        · rw [List.getElem?_range hi]
          simp [Nat.mod_eq_of_lt hi, hi]
        · rw [List.getElem?_eq_none (by simpa using hi), List.getElem?_eq_none (by simpa using hi)]
          rfl
      · rw [← ih]
        apply List.map_congr_left
        intro i _
        simp [Nat.add_mod_left]

theorem pval {ρ : Operand → Value} : (Value.pointer (some ⟨0, 0, none⟩)) = .pointer (some ⟨0, 0, none⟩) := rfl

theorem cellsMade {l : List AV} {cs : List Value} {T : TypeId} (hv : VRs p l cs) : Made p s (.ptr s.nx 0) (s.push (.cells l)) (.cells l) (.cells cs.toArray T (0, 0)) (fun b => .pointer (some ⟨b, 0, none⟩)) cs.length where
  push := rfl
  dead := by intro h; cases h
  val q b hq := by simp only [VR]; exact ⟨b, 0, _, hq, rfl⟩
  obj q b w hle hw := by
    refine ⟨cs.toArray, T, hw, by simp, by rw [hv.length]; exact Nat.le_refl _, ?_⟩
    have e : (cs.toArray.toList.drop 0).take l.length = cs := by simp [← hv.length]
    rw [e]
    exact hv.mono hle
theorem rowMade {l : List AV} {cs : List Value} {T n c : Nat} (hv : VRs p l cs) : Made p s (.sl s.nx 0 n c) (s.push (.cells l)) (.cells l) (.cells cs.toArray T (0, 0)) (fun b => .slice (some ⟨b, 0, none⟩) n c) cs.length where
  push := rfl
  dead := by intro h; cases h
  val q b hq := by simp only [VR]; exact ⟨b, 0, _, hq, rfl⟩
  obj q b w hle hw := by
    refine ⟨cs.toArray, T, hw, by simp, by rw [hv.length]; exact Nat.le_refl _, ?_⟩
    have e : (cs.toArray.toList.drop 0).take l.length = cs := by simp [← hv.length]
    rw [e]
    exact hv.mono hle

theorem elemOf_some {T el : Nat} {te : TI} (htb : ∀ T t, tb.tys.get T = some t → TyOk P T t) (h : elemOf tb T = some (el, te)) : P.underlying T = some (.slice el) ∧ TyOk P el te := by
  unfold elemOf at h
  obtain ⟨t, ht, h1⟩ := ob_some h
  obtain ⟨d, hd, hk⟩ := (htb _ _ ht).und
  split at h1
  · rename_i el' hkk
    obtain ⟨te', hte, h2⟩ := ob_some h1
    simp only [Option.some.injEq, Prod.mk.injEq] at h2
    obtain ⟨rfl, rfl⟩ := h2
    rw [hkk] at hk
    simp only [tkM] at hk
    subst hk
    exact ⟨hd, htb _ _ hte⟩
  · cases h1

theorem rep_nil : ∀ n, rep ([] : List AV) n = []
  | 0 => rfl
  | n + 1 => by simp [rep, rep_nil n]

theorem float_ok {op : Op} (ht : TabOk P tb) (hf : floatOp op = true) (hoe : OE p e a.eval) (h : exOp tb e s op = some (.val r s')) : ∃ ao ob mk Sz, Makes P a.eval op ob mk ∧ Made p s r s' ao ob mk Sz := by
  have htb := ht.ty
  cases op <;> simp only [floatOp] at hf <;> first | (cases hf; done) | skip
  case alloc T =>
    obtain ⟨t, hT, h1⟩ := ob_some (show ob (tb.tys.get T) _ = _ from h)
    simp only [Option.some.injEq, Res.val.injEq] at h1
    obtain ⟨rfl, rfl⟩ := h1
    obtain ⟨z, hz, hza⟩ := (htb _ _ hT).zero
    refine ⟨_, _, _, _, ⟨fun dst tt pos after g w => ?_⟩, cellsMade (T := T) (s := s) (absV_ok (p := p) hza).cells⟩
    simp only [execOp, Instr.alloc, Bind.bind, run_bind, run_zeroValue hz, newVar, newRow, newObj, Pure.pure, Sem.run, Array.toArray_toList]; rfl
  case box T x =>
    obtain ⟨v, hv, h1⟩ := ob_some (show ob (opd e x) _ = _ from h)
    simp only [Option.some.injEq, Res.val.injEq] at h1
    obtain ⟨rfl, rfl⟩ := h1
    refine ⟨_, _, _, _, ⟨fun dst tt pos after g w => ?_⟩, cellsMade (T := T) (s := s) (hoe _ _ hv).cells⟩
    simp only [execOp, Instr.box, Bind.bind, run_bind, newVar, newRow, newObj, Pure.pure, Sem.run, Array.toArray_toList]; rfl
  case buildSlice T n ps =>
    obtain ⟨⟨el, te⟩, hel, h1⟩ := ob_some (show ob (elemOf tb T) _ = _ from h)
    obtain ⟨vs, hvs, h2⟩ := ob_some h1
    obtain ⟨hc, h3⟩ := bb_some h2
    obtain ⟨l, hl, h4⟩ := ob_some h3
    simp only [Option.some.injEq, Res.val.injEq] at h4
    obtain ⟨rfl, rfl⟩ := h4
    simp only [Bool.and_eq_true] at hc
    have hle := Nat.le_of_ble_eq_true hc.1
    have hzl := Nat.eq_of_beq_eq_true hc.2
    obtain ⟨hT, hte⟩ := elemOf_some htb hel
    obtain ⟨z, hz, hza⟩ := hte.zero
    have hzc : VRs p (cellsOf te.zero) z.cells.toList := (absV_ok hza).cells
    have hzs : z.cells.size = te.size := by rw [← hzl, ← hzc.length]; simp
    have hrep := hzc.rep n
    rw [← range_cells, hzs] at hrep
    have hps := evParts_ok (p := p) hoe hvs
    obtain ⟨cs', e1, e2⟩ := fills_ok (pl' := fun i => some (i * te.size, te.size)) (fun i x hx => hx) hps hrep hl
    have hparts : ∀ f : Nat × Operand → Nat × Value, (∀ q, f q = (q.1, a.eval q.2)) → (ps.map f).toList = ps.toList.map fun q => (q.1, a.eval q.2) := fun f hf => by
      rw [Array.toList_map]; exact List.map_congr_left fun q _ => hf q
    refine ⟨_, .cells cs'.toArray el (0, 0), _, _, ⟨fun dst tt pos after g w => ?_⟩, rowMade (T := el) (n := n) (c := n) e2⟩
    have hle' : ¬ (n * te.size > 2 ^ 24) := by omega
    simp only [execOp, Instr.buildSlice, Bind.bind, run_bind, run_underlying' hT, run_sizeOf hte.size, hle', if_false]
    by_cases h0 : n * te.size = 0
    · have er : ∀ f : Nat → Value, (Array.range 0).map f = #[] := fun f => Array.ext' (by simp)
      have e1' : Instr.fill (fun i => some (i * te.size, te.size)) (#[] : Array Value) (ps.toList.map fun q => (q.1, a.eval q.2)) = some cs'.toArray := by
        rw [Array.toArray_toList, h0, er] at e1
        exact e1
      simp only [h0, if_true, run_bind, Bind.bind, Pure.pure, Sem.run, er]
      rw [hparts _ (fun q => by cases q; rfl), e1']
      simp only [newRow, newObj, Bind.bind, run_bind, Pure.pure, Sem.run]; rfl
    · simp only [h0, if_false, run_bind, run_zeroValue hz, Pure.pure, Sem.run, Bind.bind]
      have e1' : Instr.fill (fun i => some (i * te.size, te.size)) ((Array.range (n * te.size)).map (fun x => z.cells[x % z.cells.size]!)) (ps.toList.map fun q => (q.1, a.eval q.2)) = some cs'.toArray := by
        rw [Array.toArray_toList] at e1
        rw [hzs]
        exact e1
      rw [hparts _ (fun q => by cases q; rfl), e1']
      simp only [newRow, newObj, Bind.bind, run_bind, Pure.pure, Sem.run]; rfl
  case makeMap T o =>
    cases o with
    | some _ => cases hf
    | none =>
      have h1 : some (Res.val (.map s.nx) (s.push (.map [] 0))) = some (.val r s') := h
      simp only [Option.some.injEq, Res.val.injEq] at h1
      obtain ⟨rfl, rfl⟩ := h1
      refine ⟨.map [] 0, .map #[] 0, fun b => .map (some b), 0, ⟨fun dst tt pos after g w => ?_⟩, ⟨rfl, (by intro h; cases h), fun q b hq => ?_, fun q b w hle hw => ⟨[], hw, rfl⟩⟩⟩
      · simp only [execOp, Option.map_none, Instr.makeMap, Bind.bind, run_bind, newObj, Pure.pure, Sem.run]; rfl
      · simp only [VR]; exact ⟨b, 0, 0, hq, rfl⟩

/-- an operation is done: what it yields, the state behind it -/
def Done (P : Program) (B0 : Nat) (w0 : World) (Fr : Nat → Option Obj) (p : Pl) (ρ : Operand → Value) (op : Op) (w : World) (v : AV) (s' : S) : Prop :=
  ∀ dst t pos after g, ∃ nx u w' p', (execOp ρ ⟨dst, op, t, pos, after, g⟩).run P w = .ok nx w' ∧ (nx = .value u ∨ (nx = .skip ∧ u = undef)) ∧ Pl.le p p' ∧ Sim B0 w0 Fr p' s' w' ∧ VR p' v u

theorem Made.done {op : Op} {ao : AO} {ob : Obj} {mk : Nat → Value} {Sz : Nat} (hs : Sim B0 w0 Fr p s w) (h1 : Makes P a.eval op ob mk) (h2 : Made p s r s' ao ob mk Sz) : Done P B0 w0 Fr p a.eval op w r s' := fun dst t pos after g => by
  have hle : Pl.le p (p.add s.nx (w.heap.size, 0, Sz)) := Pl.le_add (hs.fresh _ (Nat.le_refl _)).1 _
  refine ⟨_, _, _, p.add s.nx (w.heap.size, 0, Sz), h1.run dst t pos after g w, .inl rfl, hle, ?_, h2.val _ _ (Pl.add_same _ _ _)⟩
  rw [h2.push]
  have := h2.obj p w.heap.size (w.alloc ob) (Pl.le_refl p) (alloc_at w ob)
  exact hs.push this
end
end Go.Rk
