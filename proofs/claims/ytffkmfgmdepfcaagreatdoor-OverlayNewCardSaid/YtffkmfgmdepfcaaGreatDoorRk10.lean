/- The reckoner's literals of structs and arrays. -/
import Derived.Test.YtffkmfgmdepfcaaGreatDoorRk9
import Derived.Test.YtffkmfgmdepfcaaGreatDoorSl9
set_option linter.unusedSimpArgs false
set_option linter.unusedVariables false
set_option linter.unusedSectionVars false
namespace Go.Rk
open Go.Sl (run_bind run_underlying' run_sizeOf run_zeroValue run_isAgg add_mk fold_set)
open Go.RowKit
variable [Sym]

section
variable {P : Program} {tb : Tab} {p : Pl} {a : Act} {e : En} {x y : Operand} {va vb r : AV} {T U : TypeId}

def PsR (p : Pl) : List (Nat × AV) → List (Nat × Value) → Prop
  | [], l => l = []
  | (i, v) :: ps, l => ∃ u m, l = (i, u) :: m ∧ VR p v u ∧ PsR p ps m

theorem evParts_ok (hoe : OE p e a.eval) : ∀ {l : List (Nat × Operand)} {r : List (Nat × AV)}, evParts e l = some r → PsR p r (l.map fun q => (q.1, a.eval q.2))
  | [], _, h => by simp only [evParts, Option.some.injEq] at h; subst h; rfl
  | (i, x) :: l, _, h => by
    simp only [evParts] at h
    obtain ⟨v, h1, h2⟩ := ob_some h
    obtain ⟨r, h3, h4⟩ := ob_some h2
    simp only [Option.some.injEq] at h4; subst h4
    exact ⟨_, _, rfl, hoe _ _ h1, evParts_ok hoe h3⟩

theorem fills_ok {pl pl' : Nat → Option (Nat × Nat)} (hpl : ∀ i x, pl i = some x → pl' i = some x) : ∀ {ps : List (Nat × AV)} {qs : List (Nat × Value)} {l r : List AV} {cs : List Value}, PsR p ps qs → VRs p l cs → fills pl ps l = some r →
    ∃ cs', Instr.fill pl' cs.toArray qs = some cs'.toArray ∧ VRs p r cs'
  | [], qs, l, r, cs, hq, hl, h => by
    simp only [fills, Option.some.injEq] at h
    subst h
    simp only [PsR] at hq
    subst hq
    exact ⟨cs, rfl, hl⟩
  | (i, v) :: ps, qs, l, r, cs, hq, hl, h => by
    obtain ⟨u, m, rfl, hv, hm⟩ := hq
    simp only [fills] at h
    obtain ⟨⟨off, size⟩, h1, h2⟩ := ob_some h
    simp only at h2
    cases hsz : Nat.beq (cellsOf v).length size with
    | false => rw [hsz] at h2; cases h2
    | true =>
      rw [hsz] at h2
      have hsz' := Nat.eq_of_beq_eq_true hsz
      obtain ⟨l', h3, h4⟩ := ob_some h2
      have hc := hv.cells
      have hcl := hc.length
      have hput := hc.putX hl h3
      have hll := hl.length
      obtain ⟨cs', e1, e2⟩ := fills_ok hpl hm hput.1 h4
      refine ⟨cs', ?_, e2⟩
      unfold Instr.fill
      rw [hpl _ _ h1]
      have hus : u.cells.size = size := by rw [← hsz', ← hcl]; simp
      have hcond : ¬ (u.cells.size ≠ size ∨ off + u.cells.size > cs.toArray.size) := by
        simp only [List.size_toArray, hus]; omega
      simp only [hcond, if_false]
      have hsplit : cs = cs.take off ++ (cs.drop off).take u.cells.size ++ cs.drop (off + u.cells.size) := by
        rw [List.append_assoc, ← List.drop_drop, List.take_append_drop, List.take_append_drop]
      have hfold : u.cells.zipIdx.foldl (fun (a : Array Value) (x : Value × Nat) => a.setIfInBounds (off + x.2) x.1) cs.toArray = (cs.take off ++ u.cells.toList ++ cs.drop (off + u.cells.size)).toArray := by
        have h := fold_set u.cells.toList off 0 (cs.take off) ((cs.drop off).take u.cells.size) (cs.drop (off + u.cells.size)) (by simp; omega) (by simp; omega)
        rw [← hsplit] at h
        rw [← h, ← Array.foldl_toList]
        simp
      have hfold' : Array.foldl (fun (cs : Array Value) (x : Value × Nat) => match x with | (c, j) => cs.setIfInBounds (off + j) c) cs.toArray u.cells.zipIdx = (cs.take off ++ u.cells.toList ++ cs.drop (off + u.cells.size)).toArray := hfold
      rw [hfold']
      have hle : off + u.cells.size ≤ cs.length := by omega
      have e1' : Instr.fill pl' (List.take off cs ++ (u.cells.toList ++ List.drop (off + u.cells.size) cs)).toArray m = some cs'.toArray := by simpa using e1
      simpa using ⟨⟨hus, hle⟩, e1'⟩

theorem placesL_get : ∀ {fs : List Field} {ps : List (Nat × Nat)}, Sl.placesL P fs = some ps → ∀ {i : Nat} {d : Field} {n : Nat}, fs[i]? = some d → (P.info? d.type).map (·.size) = some n → ps[i]? = some (d.offset, n)
  | [], ps, h, i, d, n, hd, _ => by simp at hd
  | f :: fs, ps, h, i, d, n, hd, hn => by
    unfold Sl.placesL at h
    split at h
    · rename_i inf r hi hr
      simp only [Option.some.injEq] at h
      subst h
      cases i with
      | zero =>
        simp at hd
        subst hd
        rw [hi] at hn
        simp at hn
        simp [hn]
      | succ i =>
        simp at hd ⊢
        exact placesL_get hr hd hn
    · cases h

theorem build_ok {ps : Array (Nat × Operand)} (htb : ∀ T t, tb.tys.get T = some t → TyOk P T t) (hoe : OE p e a.eval) (h : oBuild tb e T ps = some r) : ∃ u, VR p r u ∧ PR P a.eval (.build T ps) u := by
  unfold oBuild at h
  obtain ⟨t, ht, h1⟩ := ob_some h
  obtain ⟨vs, hvs, h2⟩ := ob_some h1
  clear h h1
  have hT := htb _ _ ht
  obtain ⟨d, hd, hm⟩ := hT.und
  obtain ⟨z, hz, hza⟩ := hT.zero
  have hzc : VRs p (cellsOf t.zero) z.cells.toList := (absV_ok hza).cells
  have hps := evParts_ok (p := p) hoe hvs
  have hparts : ∀ f : Nat × Operand → Nat × Value, (∀ q, f q = (q.1, a.eval q.2)) → (ps.map f).toList = ps.toList.map fun q => (q.1, a.eval q.2) := fun f hf => by
    rw [Array.toList_map]; exact List.map_congr_left fun q _ => hf q
  split at h2 <;> first | (cases h2; done) | skip
  · rename_i fs hk
    obtain ⟨l, hl, h3⟩ := ob_some h2
    obtain rfl := Option.some.inj h3
    have hm' := hm
    rw [hk] at hm'
    simp only [tkM] at hm'
    obtain ⟨arr, rfl, hfs⟩ := hm'
    obtain ⟨pls, hpl⟩ := hT.flds arr hd
    obtain ⟨cs', e1, e2⟩ := fills_ok (pl' := fun i => pls.toArray[i]?) (fun i x hx => by
      unfold structPlace at hx
      obtain ⟨⟨o, ft⟩, hf, hx1⟩ := ob_some hx
      obtain ⟨tf, htf, hx2⟩ := ob_some hx1
      obtain rfl := Option.some.inj hx2
      obtain ⟨arr', d, hd', hfd, ho, hft⟩ := field_of hT hk hf
      rw [hd] at hd'
      cases hd'
      subst ho; subst hft
      have := placesL_get hpl (i := i) (d := d) (by simpa using hfd) (htb _ _ htf).size
      simpa using this) hps hzc hl
    refine ⟨.agg cs'.toArray, by simp only [VR]; exact ⟨cs', rfl, e2⟩, fun dst t pos after g w => ?_⟩
    have hrun : (arr.mapM fun f => (do pure (f.offset, ← sizeOf f.type) : Sem (Nat × Nat))).run P w = .ok pls.toArray w := by
      have := Sl.run_places (w := w) arr.toList pls hpl
      rw [Array.mapM_eq_mapM_toList, ← bind_pure_comp]
      simp only [Bind.bind, run_bind] at this ⊢
      rw [this]
      rfl
    simp only [execOp, Instr.build, Bind.bind, run_bind, run_zeroValue hz, run_underlying' hd]
    simp only [Bind.bind] at hrun
    rw [hrun]
    have hz' : z.cells = z.cells.toList.toArray := by simp
    simp only
    rw [hparts _ (fun q => by cases q; rfl), hz', e1]
    rfl
  · rename_i n el hk
    obtain ⟨te, hte, h3⟩ := ob_some h2
    obtain ⟨l, hl, h4⟩ := ob_some h3
    obtain rfl := Option.some.inj h4
    rw [hk] at hm
    simp only [tkM] at hm
    subst hm
    obtain ⟨cs', e1, e2⟩ := fills_ok (pl' := fun i => some (i * te.size, te.size)) (fun i x hx => hx) hps hzc hl
    refine ⟨.agg cs'.toArray, by simp only [VR]; exact ⟨cs', rfl, e2⟩, fun dst t pos after g w => ?_⟩
    simp only [execOp, Instr.build, Bind.bind, run_bind, run_zeroValue hz, run_underlying' hd, run_sizeOf (htb _ _ hte).size]
    have hz' : z.cells = z.cells.toList.toArray := by simp
    rw [hparts _ (fun q => by cases q; rfl), hz', e1]
    rfl
end
end Go.Rk
