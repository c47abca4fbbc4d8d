/- Structs made by literals; parts of slices and strings. -/
import Derived.Test.YtffkmfgmdepfcaaGreatDoorSl8
set_option linter.unusedSimpArgs false
namespace Go.Sl
open Go.RowKit

def placesL (P : Program) : List Field → Option (List (Nat × Nat))
  | [] => some []
  | f :: fs => match P.info? f.type, placesL P fs with
    | some i, some r => some ((f.offset, i.size) :: r)
    | _, _ => none
def placesOf (P : Program) (T : TypeId) : Option (List (Nat × Nat)) :=
  match P.underlying T with
  | some (.struct fs) => placesL P fs.toList
  | _ => none
/-- where the fields of a struct lie, and how many cells each has -/
class PL (P : Program) (T : TypeId) (ps : outParam (List (Nat × Nat))) : Prop where
  eq : placesOf P T = some ps

class NthP (ps : List (Nat × Nat)) (i : Nat) (off sz : outParam Nat) : Prop where
  eq : ps[i]? = some (off, sz)
instance {a b : Nat} {ps : List (Nat × Nat)} : NthP ((a, b) :: ps) 0 a b := ⟨rfl⟩
instance {q : Nat × Nat} {ps : List (Nat × Nat)} {i a b : Nat} [h : NthP ps i a b] : NthP (q :: ps) (i + 1) a b := ⟨by simpa using h.eq⟩

class BuildC (ps : List (Nat × Nat)) (zs : List Value) (ivs : List (Nat × Value)) (out : outParam (List Value)) : Prop where
  eq : Instr.fill (ps.toArray[·]?) zs.toArray ivs = some out.toArray
instance {ps : List (Nat × Nat)} {zs : List Value} : BuildC ps zs [] zs := ⟨rfl⟩
instance {ps : List (Nat × Nat)} {zs zs' us out : List Value} {i off sz n : Nat} {v : Value} {rest : List (Nat × Value)} [h1 : NthP ps i off sz] [h2 : VCells v us] [h3 : LenC us n] [h4 : IsEq n sz] [h5 : PutC zs off us zs'] [h6 : BuildC ps zs' rest out] :
    BuildC ps zs ((i, v) :: rest) out := ⟨by
  have e1 : ps.toArray[i]? = some (off, sz) := by simpa using h1.eq
  have e2 : v.cells.size = sz := by rw [h2.eq]; simp [h3.eq, h4.eq]
  have e3 := h5.eq
  have hle : off + us.length ≤ zs.length := e3.2
  have hul : us.length = sz := by rw [h3.eq, h4.eq]
  simp only [Instr.fill, e1]
  have hcond : ¬ ((decide (v.cells.size ≠ sz) || decide (off + v.cells.size > zs.toArray.size)) = true) := by
    simp [e2]; omega
  rw [if_neg (by simpa using hcond)]
  have hf : v.cells.zipIdx.foldl (fun (a : Array Value) (x : Value × Nat) => a.setIfInBounds (off + x.2) x.1) zs.toArray = zs'.toArray := by
    have h := fold_set us off 0 (zs.take off) ((zs.drop off).take us.length) (zs.drop (off + us.length)) (by simp; omega) (by simp; omega)
    have e : zs.take off ++ (zs.drop off).take us.length ++ zs.drop (off + us.length) = zs := by
      rw [List.append_assoc, ← List.drop_drop, List.take_append_drop, List.take_append_drop]
    rw [e, e3.1] at h
    rw [← h, ← Array.foldl_toList, h2.eq]
    simp
  have hf' : Array.foldl (fun (cs : Array Value) (x : Value × Nat) => match x with | (c, j) => cs.setIfInBounds (off + j) c) zs.toArray v.cells.zipIdx = zs'.toArray := hf
  rw [hf']
  exact h6.eq⟩

theorem run_places {P : Program} {w : World} : ∀ (fs : List Field) (ps : List (Nat × Nat)), placesL P fs = some ps → (fs.mapM fun f => (do pure (f.offset, ← sizeOf f.type) : Sem (Nat × Nat))).run P w = .ok ps w
  | [], ps, h => by
    simp only [placesL, Option.some.injEq] at h
    subst h
    rfl
  | f :: fs, ps, h => by
    unfold placesL at h
    split at h
    · rename_i i r hi hr
      simp only [Option.some.injEq] at h
      subst h
      have hs : (P.info? f.type).map (·.size) = some i.size := by simp [hi]
      rw [List.mapM_cons]
      simp only [Bind.bind, run_bind, run_sizeOf hs, Pure.pure, Sem.run]
      have := run_places (P := P) (w := w) fs r hr
      simp only [Bind.bind, Pure.pure] at this
      rw [this]
    · cases h

def pairO (parts : List (Nat × Operand)) (ivs : List (Nat × Value)) (E : Env) : Prop := ∀ ρ, Ok E ρ → parts.map (fun q => (q.1, ρ q.2)) = ivs
theorem pairO.nil {E : Env} : pairO [] [] E := fun _ _ => rfl
theorem pairO.cons {E : Env} {i : Nat} {y : Operand} {v : Value} {ps : List (Nat × Operand)} {vs : List (Nat × Value)} (h : ev E y = some v) (k : pairO ps vs E) : pairO ((i, y) :: ps) ((i, v) :: vs) E := fun ρ ok => by
  simp [ok _ _ h, k ρ ok]

theorem op_build {P : Program} {E : Env} {T : TypeId} {ps : List (Nat × Nat)} {zs out : List Value} {parts : List (Nat × Operand)} {ivs : List (Nat × Value)} [h : PL P T ps] [hz : TZ P T (.agg zs.toArray)] (hp : pairO parts ivs E) [hb : BuildC ps zs ivs out] :
    PureOp P E (.build T parts.toArray) (.agg out.toArray) := fun ρ ok _ _ _ _ _ w => by
  have he := h.eq
  unfold placesOf at he
  split at he
  · rename_i fs hu
    have hpl : (fs.mapM fun f => (do pure (f.offset, ← sizeOf f.type) : Sem (Nat × Nat))).run P w = .ok ps.toArray w := by
      have := run_places (w := w) fs.toList ps he
      rw [Array.mapM_eq_mapM_toList, ← bind_pure_comp]
      simp only [Bind.bind, run_bind] at this ⊢
      rw [this]
      rfl
    have hparts : (parts.toArray.map fun (i, y) => (i, ρ y)).toList = ivs := by
      simp only [List.map_toArray]
      exact hp ρ ok
    simp only [execOp, Instr.build, Bind.bind, run_bind, run_zeroValue hz.eq, run_underlying' hu]
    simp only [Bind.bind] at hpl
    rw [hpl]
    simp only [Value.cells, hparts, hb.eq, Pure.pure, Sem.run]
  · cases he

section
variable {P : Program} {E : Env}
/-- s[lo:hi] of a string -/
theorem op_sliceS {T : TypeId} {y l u : Operand} {s : ByteArray} {lo hi : Int} [h : TU P T .string] (hy : ev E y = some (.string s)) (hl : ev E l = some (.int .i64 lo)) (hu : ev E u = some (.int .i64 hi)) (h0 : 0 ≤ lo ∧ lo ≤ hi ∧ hi ≤ s.size) :
    PureOp P E (.slice T y (some l) (some u) none) (.string (s.extract lo.toNat hi.toNat)) := fun ρ ok _ _ _ _ _ w => by
  have c1 : 0 ≤ hi ∧ hi ≤ (s.size : Int) := by omega
  have c2 : 0 ≤ lo ∧ lo ≤ (hi.toNat : Int) := by omega
  simp only [execOp, Instr.sliceAt, Bind.bind, run_bind, run_underlying' h.eq, Instr.slice, ok _ _ hy, ok _ _ hl, ok _ _ hu, Option.map_some, Option.map_none, Option.isSome_none, Bool.false_eq_true, if_false, Instr.sliceBounds, Instr.sliceBound, asIntOf, Pure.pure, Sem.run, c1, c2, and_self, if_true]
theorem op_sliceSlo {T : TypeId} {y l : Operand} {s : ByteArray} {lo : Int} [h : TU P T .string] (hy : ev E y = some (.string s)) (hl : ev E l = some (.int .i64 lo)) (h0 : 0 ≤ lo ∧ lo ≤ s.size) :
    PureOp P E (.slice T y (some l) none none) (.string (s.extract lo.toNat s.size)) := fun ρ ok _ _ _ _ _ w => by
  simp only [execOp, Instr.sliceAt, Bind.bind, run_bind, run_underlying' h.eq, Instr.slice, ok _ _ hy, ok _ _ hl, Option.map_some, Option.map_none, Option.isSome_none, Bool.false_eq_true, if_false, Instr.sliceBounds, Instr.sliceBound, asIntOf, Pure.pure, Sem.run, h0, and_self, if_true]
theorem op_sliceShi {T : TypeId} {y u : Operand} {s : ByteArray} {hi : Int} [h : TU P T .string] (hy : ev E y = some (.string s)) (hu : ev E u = some (.int .i64 hi)) (h0 : 0 ≤ hi ∧ hi ≤ s.size) :
    PureOp P E (.slice T y none (some u) none) (.string (s.extract 0 hi.toNat)) := fun ρ ok _ _ _ _ _ w => by
  simp only [execOp, Instr.sliceAt, Bind.bind, run_bind, run_underlying' h.eq, Instr.slice, ok _ _ hy, ok _ _ hu, Option.map_some, Option.map_none, Option.isSome_none, Bool.false_eq_true, if_false, Instr.sliceBounds, Instr.sliceBound, asIntOf, Pure.pure, Sem.run, h0, and_self, if_true]
end
end Go.Sl
