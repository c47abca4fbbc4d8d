/- Regions that draw their order: the plan, the pending blocks. -/
import Derived.Test.YtffkmfgmdepfcaaGreatDoorRk20
set_option linter.unusedSimpArgs false
set_option linter.unusedVariables false
set_option linter.unusedSectionVars false
namespace Go.Rk
open Go.Sl (opR opR_mono opR_wp run_bind takeOk sinkOk takeOk_spec sinkOk_spec wpAnyC opC wpAnyC_first wpAnyC_mono YieldsC)
open Go.RowKit
variable [Sym]

def isFloatAt (ops : Array Oper) (j : Nat) : Bool := match ops[j]? with
  | some o => floatOp o.op && o.guard.isNone && o.dst.isSome
  | none => false
def waitsFor (ops : Array Oper) (j i : Nat) : Bool := match ops[j]? with
  | some o => o.after.any fun e => Region.binds .any e && e.on == i
  | none => false
def apartB (ops : Array Oper) (i j : Nat) : Bool := match ops[i]?, ops[j]? with
  | some oi, some oj => oi.apart ops oj
  | _, _ => false
/-- those that make a block and are not listed, but one -/
def floats (ops : Array Oper) (listed : Array Bool) (i : Nat) : List Nat := (List.range ops.size).filter fun j => j != i && !listed.getD j true && isFloatAt ops j
def listAll (listed : Array Bool) (l : List Nat) : Array Bool := l.foldl (fun a j => a.setIfInBounds j true) listed
/-- waits for one that is not listed and makes no block -/
def blocked (ops : Array Oper) (listed : Array Bool) (j : Nat) : Bool := match ops[j]? with
  | some o => o.after.any fun e => Region.binds .any e && !listed.getD e.on false && !isFloatAt ops e.on
  | none => false

def stepOk (ops : Array Oper) (listed : Array Bool) (i : Nat) (q : Bool) (z : List Nat) (rest : Plan) : Bool :=
  (Region.ready .any ops listed).contains i &&
  if q then takeOk ops listed i && sinkOk ops listed i z && z.all (fun j => !isFloatAt ops j)
  else (Region.ready .any ops (listAll listed (floats ops listed i)) == [i]) &&
    (floats ops listed i).all (fun j => (waitsFor ops j i || apartB ops i j) && (z.contains j || blocked ops listed j)) &&
    z.all (fun j => (floats ops listed i).contains j && rest.any (fun q => q.1 == j) && (floats ops listed j).all (fun g => apartB ops j g))

def planOk (ops : Array Oper) : Plan → Array Bool → Bool
  | [], listed => (Region.ready .any ops listed).isEmpty
  | (i, q, z) :: p, listed => stepOk ops listed i q z p && planOk ops p (listed.setIfInBounds i true)

/-! ### lists of what is listed -/
theorem listAll_size (l : List Nat) : ∀ (listed : Array Bool), (listAll listed l).size = listed.size := by
  induction l with
  | nil => intro _; rfl
  | cons j l ih => intro listed; show (listAll (listed.setIfInBounds j true) l).size = _; rw [ih]; simp
theorem getD_set (listed : Array Bool) (i j : Nat) (d : Bool) : (listed.setIfInBounds i true).getD j d = if i = j ∧ j < listed.size then true else listed.getD j d := by
  by_cases h : i = j
  · subst h
    by_cases hlt : i < listed.size
    · simp [hlt]
    · simp [hlt]
  · simp [Array.getElem?_setIfInBounds_ne h, h]
theorem getD_listAll (l : List Nat) : ∀ (listed : Array Bool) (j : Nat) (d : Bool), (listAll listed l).getD j d = if j ∈ l ∧ j < listed.size then true else listed.getD j d := by
  induction l with
  | nil => intro listed j d; simp [listAll]
  | cons k l ih =>
    intro listed j d
    show (listAll (listed.setIfInBounds k true) l).getD j d = _
    rw [ih, getD_set]
    simp only [Array.size_setIfInBounds, List.mem_cons]
    by_cases h1 : j ∈ l
    · by_cases h2 : j < listed.size
      · simp [h1, h2]
      · simp [h2]
    · by_cases h2 : j < listed.size
      · by_cases h3 : k = j
        · simp [h3, h2]
        · simp [h1, h3, Ne.symm h3]
      · simp [h2]
theorem listAll_set (l : List Nat) : ∀ (listed : Array Bool) (i : Nat), listAll (listed.setIfInBounds i true) l = (listAll listed l).setIfInBounds i true := by
  induction l with
  | nil => intro listed i; rfl
  | cons j l ih =>
    intro listed i
    show listAll ((listed.setIfInBounds i true).setIfInBounds j true) l = (listAll (listed.setIfInBounds j true) l).setIfInBounds i true
    rw [← ih]
    by_cases h : i = j
    · subst h; rfl
    · rw [Array.setIfInBounds_comm _ _ h]
theorem listAll_append (l m : List Nat) (listed : Array Bool) : listAll listed (l ++ m) = listAll (listAll listed l) m := by
  unfold listAll; rw [List.foldl_append]
theorem listAll_snoc (l : List Nat) (j : Nat) (listed : Array Bool) : listAll listed (l ++ [j]) = (listAll listed l).setIfInBounds j true := by
  rw [listAll_append]; rfl

/-! ### pending blocks -/
structure Pnd where
  i : Nat
  d : Nat
  b : Nat
  v : Value
  ob : Obj

def putsF (a : Act) (F : List Pnd) : Act := F.foldl (fun a f => a.put (some f.d) f.v) a
def frF (Fr : Nat → Option Obj) (F : List Pnd) : Nat → Option Obj := fun b => match F.find? (fun f => f.b == b) with
  | some f => some f.ob
  | none => Fr b

theorem putsF_put {F : List Pnd} : ∀ {a : Act} {dst : Option Nat} {u : Value}, (∀ f ∈ F, ∀ d, dst = some d → f.d ≠ d) → (putsF a F).put dst u = putsF (a.put dst u) F := by
  induction F with
  | nil => intro a dst u _; rfl
  | cons f F ih =>
    intro a dst u h
    show (putsF (a.put (some f.d) f.v) F).put dst u = putsF ((a.put dst u).put (some f.d) f.v) F
    rw [ih (fun g hg => h g (List.mem_cons_of_mem _ hg))]
    congr 1
    rw [Act.put_comm]
    intro d hd hdd
    cases hd
    exact h f (by simp) f.d hdd rfl
theorem putsF_mid {F1 F2 : List Pnd} {f : Pnd} {a : Act} (h : ∀ g ∈ F1, g.d ≠ f.d) : putsF a (F1 ++ f :: F2) = putsF (a.put (some f.d) f.v) (F1 ++ F2) := by
  unfold putsF
  rw [List.foldl_append, List.foldl_append]
  show List.foldl _ ((List.foldl _ a F1).put (some f.d) f.v) F2 = _
  congr 1
  exact putsF_put (F := F1) (fun g hg d hd => by cases hd; exact h g hg)

section
variable {ops : Array Oper}
theorem putsF_exec (o : Oper) (hs : ∀ cs b, o.op ≠ .select cs b) : ∀ {F : List Pnd} {a : Act}, (∀ f ∈ F, f.d ∉ o.looksAt ops) → execOp (putsF a F).eval o = execOp a.eval o := by
  intro F
  induction F with
  | nil => intro a _; rfl
  | cons f F ih =>
    intro a h
    show execOp (putsF (a.put (some f.d) f.v) F).eval o = _
    rw [ih (fun g hg => h g (List.mem_cons_of_mem _ hg))]
    exact execOp_put (ops := ops) o hs a (some f.d) f.v (fun d hd => by cases hd; exact h f (by simp))
theorem putsF_wanted (o : Oper) : ∀ {F : List Pnd} {a : Act}, (∀ f ∈ F, f.d ∉ o.looksAt ops) → Region.wanted o (yielded ops (putsF a F).tmps) = Region.wanted o (yielded ops a.tmps) := by
  intro F
  induction F with
  | nil => intro a _; rfl
  | cons f F ih =>
    intro a h
    show Region.wanted o (yielded ops (putsF (a.put (some f.d) f.v) F).tmps) = _
    rw [ih (fun g hg => h g (List.mem_cons_of_mem _ hg))]
    exact wanted_put o a (some f.d) f.v (fun d hd => by cases hd; exact h f (by simp))
end

theorem frF_none {Fr : Nat → Option Obj} {F : List Pnd} {b : Nat} (h : frF Fr F b = none) : Fr b = none ∧ ∀ f ∈ F, f.b ≠ b := by
  unfold frF at h
  split at h
  · cases h
  · rename_i hn
    refine ⟨h, fun f hf e => ?_⟩
    have := List.find?_eq_none.1 hn f hf
    simp [e] at this
end Go.Rk
