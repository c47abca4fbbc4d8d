/- The operations that read the frame alone, and those that read memory, as rules of the walk. -/
import Derived.Test.YtffkmfgmdepfcaaGreatDoorSl2c
import Derived.IntWalk
import Derived.Laws.Strings
set_option linter.unusedSimpArgs false
namespace Go.Sl
open Go.RowKit

/-! ### Facts on types, read off the program -/
def fieldOff (P : Program) (T : TypeId) (f : Nat) : Option Nat :=
  match P.underlying T with
  | some (.struct fs) => match fs[f]? with
    | some d => match P.info? d.type with
      | some i => if i.size = 0 then none else some d.offset
      | none => none
    | none => none
  | _ => none
/-- where field f of struct type T begins -/
class FA (P : Program) (T : TypeId) (f : Nat) (off : outParam Nat) : Prop where
  eq : fieldOff P T f = some off

def aggD : TypeDesc → Bool
  | .struct _ | .array _ _ => true
  | _ => false
def loadShape (P : Program) (T : TypeId) : Option (Bool × Nat) :=
  match P.underlying T, P.info? T with
  | some d, some i => some (aggD d, i.size)
  | _, _ => none
/-- is it a struct or an array, and of how many cells? -/
class TL (P : Program) (T : TypeId) (agg : outParam Bool) (sz : outParam Nat) : Prop where
  eq : loadShape P T = some (agg, sz)
/-- its zero value -/
class TZ (P : Program) (T : TypeId) (z : outParam Value) : Prop where
  eq : (P.info? T).bind (·.zero) = some z
class TU (P : Program) (T : TypeId) (d : outParam TypeDesc) : Prop where
  eq : P.underlying T = some d
/-- how many cells a field has -/
def fieldSz (P : Program) (T : TypeId) (f : Nat) : Option Nat :=
  match P.underlying T with
  | some (.struct fs) => match fs[f]? with
    | some d => (P.info? d.type).map (·.size)
    | none => none
  | _ => none
class FS (P : Program) (T : TypeId) (f : Nat) (sz : outParam Nat) : Prop where
  eq : fieldSz P T f = some sz
class TSz (P : Program) (T : TypeId) (sz : outParam Nat) : Prop where
  eq : (P.info? T).map (·.size) = some sz
class TBy (P : Program) (T : TypeId) (bytes : outParam Nat) : Prop where
  eq : (P.info? T).map (·.bytes) = some bytes

theorem TL.und {P : Program} {T : TypeId} {agg : Bool} {sz : Nat} (h : TL P T agg sz) : ∃ d i, P.underlying T = some d ∧ P.info? T = some i ∧ aggD d = agg ∧ i.size = sz := by
  have := h.eq
  unfold loadShape at this
  split at this
  · rename_i d i hd hi
    simp only [Option.some.injEq, Prod.mk.injEq] at this
    exact ⟨d, i, hd, hi, this.1, this.2⟩
  · cases this

/-! ### Pure operations -/
def Ok (E : Env) (ρ : Operand → Value) : Prop := ∀ y u, ev E y = some u → ρ y = u
theorem Rep.ok {n : Nat} {E : Env} {a : Act} (r : Rep n E a) : Ok E a.eval := fun _ _ h => r.ev h

/-- whatever the world, it yields v and leaves the world -/
def PureOp (P : Program) (E : Env) (op : Op) (v : Value) : Prop :=
  ∀ ρ, Ok E ρ → ∀ dst t pos after g w, (execOp ρ ⟨dst, op, t, pos, after, g⟩).run P w = .ok (.value v) w

theorem PureOp.read {x : Cx} {E : Env} {As : List Assn} {op : Op} {v : Value} (h : PureOp x.P E op v) : ReadOp x E As op v := fun _ a _ _ r _ w' _ dst t pos after g => h a.eval r.ok dst t pos after g w'

theorem ReadOp.step {x : Cx} {E : Env} {As : List Assn} {op : Op} {v : Value} (h : ReadOp x E As op v) : Step x op E As (fun _ : Unit => v) (fun _ => As) := fun D a w hl r st dst t pos after g => by
  unfold opR
  rw [h D a w hl r st w st.dat]
  exact ⟨(), D, Dat.le_refl D, rfl, st⟩

theorem ReadOwn.step {x : Cx} {E : Env} {As : List Assn} {op : Op} {v : Value} {b : Nat} {o : Obj} (h : ReadOwn x E As b o op v) : Step x op E As (fun _ : Unit => v) (fun _ => As) := fun D a w hl r st dst t pos after g => by
  obtain ⟨hb, hr⟩ := h D a w hl r st
  unfold opR
  rw [hr w st.dat hb]
  exact ⟨(), D, Dat.le_refl D, rfl, st⟩

section
variable {x : Cx} {Q : Exit → Act → World → Prop} {K : Act → World → Prop} {E : Env} {As Bs : List Assn} {ops : Array Oper} {rest l : List Oper} {op : Op} {v : Value} {d t i : Nat} {pos : String} {after : Array Edge} {p : List (Nat × Bool)} {listed : Array Bool} {Cs : List Keep}

theorem L.read (h : ReadOp x E As op v) (hd : Nat.blt d x.n = true) (k : L x ops Q rest ((d, v) :: E) As) : L x ops Q (⟨some d, op, t, pos, after, none⟩ :: rest) E As := L.step h.step hd fun _ => k
theorem L.readOwn {b : Nat} {o : Obj} (h : ReadOwn x E As b o op v) (hd : Nat.blt d x.n = true) (k : L x ops Q rest ((d, v) :: E) As) : L x ops Q (⟨some d, op, t, pos, after, none⟩ :: rest) E As := L.step h.step hd fun _ => k
theorem L.pure (h : PureOp x.P E op v) (hd : Nat.blt d x.n = true) (k : L x ops Q rest ((d, v) :: E) As) : L x ops Q (⟨some d, op, t, pos, after, none⟩ :: rest) E As := L.read h.read hd k
theorem M.pure (hi : nthO l i = some ⟨some d, op, t, pos, after, none⟩) (h : PureOp x.P E op v) (hd : Nat.blt d x.n = true) (k : M x l K p (listed.setIfInBounds i true) Cs ((d, v) :: E) As) :
    M x l K ((i, true) :: p) listed Cs E As := M.read hi h.read hd k
theorem M.pureG {j dj : Nat} {want : Bool} {oj : Oper} (hi : nthO l i = some ⟨some d, op, t, pos, after, some (j, want)⟩) (hj : nthO l j = some oj) (hdj : oj.dst = some dj) (hb : look E dj = some (.bool want)) (h : PureOp x.P E op v) (hd : Nat.blt d x.n = true)
    (k : M x l K p (listed.setIfInBounds i true) Cs ((d, v) :: E) As) : M x l K ((i, true) :: p) listed Cs E As := M.readG hi hj hdj hb h.read hd k
end

section
variable {P : Program} {E : Env}

theorem op_move {y : Operand} {v : Value} (h : ev E y = some v) : PureOp P E (.move y) v := fun ρ ok _ _ _ _ _ w => by
  simp [execOp, Pure.pure, Sem.run, ok _ _ h]
theorem op_assign {y : Operand} {v : Value} (h : ev E y = some v) : PureOp P E (.assign y) v := fun ρ ok _ _ _ _ _ w => by
  simp [execOp, Pure.pure, Sem.run, ok _ _ h]
theorem op_pick {c a b : Operand} {cb : Bool} {va vb : Value} (hc : ev E c = some (.bool cb)) (ha : ev E a = some va) (hb : ev E b = some vb) : PureOp P E (.pick c a b) (if cb then va else vb) :=
  fun ρ ok _ _ _ _ _ w => by
    simp [execOp, ok _ _ hc, ok _ _ ha, ok _ _ hb, asBool, Bind.bind, Sem.bind, Pure.pure, Sem.run]
theorem op_pickT {c a b : Operand} {va : Value} (hc : ev E c = some (.bool true)) (ha : ev E a = some va) : PureOp P E (.pick c a b) va :=
  fun ρ ok _ _ _ _ _ w => by
    simp [execOp, ok _ _ hc, ok _ _ ha, asBool, Bind.bind, Sem.bind, Pure.pure, Sem.run]
theorem op_pickF {c a b : Operand} {vb : Value} (hc : ev E c = some (.bool false)) (hb : ev E b = some vb) : PureOp P E (.pick c a b) vb :=
  fun ρ ok _ _ _ _ _ w => by
    simp [execOp, ok _ _ hc, ok _ _ hb, asBool, Bind.bind, Sem.bind, Pure.pure, Sem.run]

theorem op_nilCheck {y : Operand} {a : Addr} (h : ev E y = some (.pointer (some a))) : PureOp P E (.nilCheck y) (.pointer (some a)) := fun ρ ok _ _ _ _ _ w => by
  simp [execOp, ok _ _ h, Bind.bind, Sem.bind, Pure.pure, Sem.run]
theorem op_nilCheckI {y : Operand} {T : TypeId} {v : Value} (h : ev E y = some (.iface T v)) : PureOp P E (.nilCheck y) (.iface T v) := fun ρ ok _ _ _ _ _ w => by
  simp [execOp, ok _ _ h, Bind.bind, Sem.bind, Pure.pure, Sem.run]
theorem op_nilCheckF {y : Operand} {f : FuncId} {a b : Array Value} (h : ev E y = some (.func (.func f) a b)) : PureOp P E (.nilCheck y) (.func (.func f) a b) := fun ρ ok _ _ _ _ _ w => by
  simp [execOp, ok _ _ h, Bind.bind, Sem.bind, Pure.pure, Sem.run]

theorem evs_map {ρ : Operand → Value} (ok : Ok E ρ) : ∀ (l : List Operand) (r : List Value), evs E l = some r → l.map ρ = r := by
  intro l
  induction l with
  | nil => intro r h; simp [evs] at h; simp [h]
  | cons y l ih =>
    intro r h
    unfold evs at h
    split at h
    · rename_i v hv
      split at h
      · rename_i us hus
        simp only [Option.some.injEq] at h
        subst h
        simp [ok _ _ hv, ih _ hus]
      · cases h
    · cases h

theorem op_makeFunc {fn : Fn} {xs ys : Array Operand} {vs us : List Value} (h1 : evs E xs.toList = some vs) (h2 : evs E ys.toList = some us) : PureOp P E (.makeFunc fn xs ys) (.func fn vs.toArray us.toArray) := by
  intro ρ ok _ _ _ _ _ w
  have e1 : xs.map ρ = vs.toArray := by
    apply Array.ext'
    rw [Array.toList_map, evs_map ok _ _ h1]
  have e2 : ys.map ρ = us.toArray := by
    apply Array.ext'
    rw [Array.toList_map, evs_map ok _ _ h2]
  simp [execOp, Instr.makeFunc, e1, e2, Bind.bind, Sem.bind, Pure.pure, Sem.run]

theorem run_underlying' {T : TypeId} {d : TypeDesc} (h : P.underlying T = some d) (w : World) : (underlying T).run P w = .ok d w := by
  simp [underlying, program, Bind.bind, Sem.bind, Pure.pure, Sem.run, h]

theorem run_bind {α β : Type} (p : Program) (e : Sem α) (f : α → Sem β) (w : World) :
    (Sem.bind e f).run p w = match e.run p w with | .ok a w' => (f a).run p w' | .halt h w' => .halt h w' := by
  induction e generalizing w with
  | pure a => simp [Sem.bind, Sem.run]
  | load m a k ih =>
    simp only [Sem.bind, Sem.run]
    split
    · exact ih _ _
    · split
      · exact ih _ _
      · rfl
  | store m a v k ih =>
    cases v <;> simp only [Sem.bind, Sem.run] <;> first
      | rfl
      | (split
         · split
           · rfl
           · exact ih _
         · split
           · exact ih _
           · rfl)
  | new o k ih => simp only [Sem.bind, Sem.run]; exact ih _ _
  | shape r k ih => simp only [Sem.bind, Sem.run]; exact ih _ _
  | freeze a n k ih => simp only [Sem.bind, Sem.run]; exact ih _
  | frozen a k ih => simp only [Sem.bind, Sem.run]; exact ih _ _
  | getObj r k ih =>
    simp only [Sem.bind, Sem.run]
    split
    · rfl
    · exact ih _ _
    · rfl
  | setObj r o k ih =>
    simp only [Sem.bind, Sem.run]
    split
    · rfl
    · exact ih _
    · rfl
  | choose q k ih =>
    simp only [Sem.bind, Sem.run]
    split
    · exact ih _ _
    · exact ih _ _
  | sys c k ih => simp only [Sem.bind, Sem.run]; exact ih _ _
  | program k ih => simp only [Sem.bind, Sem.run]; exact ih _ _
  | mark m k ih => simp only [Sem.bind, Sem.run]; exact ih _
  | halt h => simp [Sem.bind, Sem.run]

theorem run_ok {α β : Type} {p : Program} {e : Sem α} {f : α → Sem β} {w w' : World} {a : α} (h : e.run p w = .ok a w') : (Sem.bind e f).run p w = (f a).run p w' := by
  rw [run_bind, h]
theorem run_ok' {α β : Type} {p : Program} {e : Sem α} {f : α → Sem β} {w w' : World} {a : α} (h : e.run p w = .ok a w') : (e >>= f).run p w = (f a).run p w' := run_ok h
theorem run_pure {α : Type} {p : Program} (a : α) (w : World) : (Pure.pure a : Sem α).run p w = .ok a w := rfl

theorem run_sizeOf {T : TypeId} {sz : Nat} (h : (P.info? T).map (·.size) = some sz) (w : World) : (sizeOf T).run P w = .ok sz w := by
  cases hi : P.info? T with
  | none => simp [hi] at h
  | some i =>
    simp [hi] at h
    simp [sizeOf, typeInfo, program, Bind.bind, Sem.bind, Pure.pure, Sem.run, hi, h]

theorem run_zeroValue {T : TypeId} {z : Value} (h : (P.info? T).bind (·.zero) = some z) (w : World) : (zeroValue T).run P w = .ok z w := by
  cases hi : P.info? T with
  | none => simp [hi] at h
  | some i =>
    simp [hi] at h
    simp [zeroValue, typeInfo, program, Bind.bind, Sem.bind, Pure.pure, Sem.run, hi, h]

class AddN (a b : Nat) (c : outParam Nat) : Prop where
  eq : a + b = c
instance (priority := high) AddN.zl {b : Nat} : AddN 0 b b := ⟨by simp⟩
instance AddN.zr {a : Nat} : AddN a 0 a := ⟨by simp⟩
instance (priority := low) AddN.add {a b : Nat} : AddN a b (a + b) := ⟨rfl⟩

theorem op_fieldAddr {T : TypeId} {y : Operand} {f off b o o' : Nat} [h : FA P T f off] (hy : ev E y = some (.pointer (some ⟨b, o, none⟩))) [ha : AddN o off o'] :
    PureOp P E (.fieldAddr T y f) (.pointer (some ⟨b, o', none⟩)) := by
  rw [← ha.eq]
  intro ρ ok _ _ _ _ _ w
  have he := h.eq
  unfold fieldOff at he
  split at he
  · rename_i fs hu
    split at he
    · rename_i d hd
      split at he
      · rename_i i hi
        split at he
        · cases he
        · rename_i hne
          simp only [Option.some.injEq] at he
          subst he
          have hs : (P.info? d.type).map (·.size) = some i.size := by simp [hi]
          simp only [execOp, ok _ _ hy]
          unfold Instr.fieldAt
          simp only [Bind.bind, run_bind, run_underlying' hu, Instr.sureAddr, hd, Pure.pure, Sem.run, fieldPlace, run_sizeOf hs, hne, if_false]
          by_cases h0 : d.offset = 0 <;> simp [Addr.add, h0]
      · cases he
    · cases he
  · cases he


theorem run_bin {o : BinOp} {T U : TypeId} {y z : Operand} {u v r : Value} (hy : ev E y = some u) (hz : ev E z = some v) (hg : ∀ w, (eqGuard o T y z u v).run P w = .ok () w) (hb : ∀ w, (Go.binOp o T u v).run P w = .ok r w) :
    PureOp P E (.binOp o T y z U) r := fun ρ ok _ _ _ _ _ w => by
  simp only [execOp, ok _ _ hy, ok _ _ hz]
  simp only [Bind.bind, run_bind, hg w, hb w]
  rfl

theorem eqGuard_int {o : BinOp} {T : TypeId} {y z : Operand} {k k' : IntKind} {a b : Int} (w : World) : (eqGuard o T y z (.int k a) (.int k' b)).run P w = .ok () w := by
  cases o <;> simp [eqGuard, Bind.bind, Sem.bind, Pure.pure, Sem.run]
theorem eqGuard_str {o : BinOp} {T : TypeId} {y z : Operand} {a b : ByteArray} (w : World) : (eqGuard o T y z (.string a) (.string b)).run P w = .ok () w := by
  cases o <;> simp [eqGuard, Bind.bind, Sem.bind, Pure.pure, Sem.run]
theorem eqGuard_bool {o : BinOp} {T : TypeId} {y z : Operand} {a b : Bool} (w : World) : (eqGuard o T y z (.bool a) (.bool b)).run P w = .ok () w := by
  cases o <;> simp [eqGuard, Bind.bind, Sem.bind, Pure.pure, Sem.run]
theorem eqGuard_float {o : BinOp} {T : TypeId} {y z : Operand} {k k' : FloatKind} {a b : Nat} (w : World) : (eqGuard o T y z (.float k a) (.float k' b)).run P w = .ok () w := by
  cases o <;> simp [eqGuard, Bind.bind, Sem.bind, Pure.pure, Sem.run]

section
variable {T U : TypeId} {y z : Operand} {k : IntKind} {a b : Int}
theorem op_addw (hy : ev E y = some (.int k a)) (hz : ev E z = some (.int k b)) : PureOp P E (.binOp .add T y z U) (.int k (k.wrap (a + b))) :=
  run_bin hy hz eqGuard_int fun w => by simp [Go.binOp, Op.intArith, Pure.pure, Sem.run]
theorem op_subw (hy : ev E y = some (.int k a)) (hz : ev E z = some (.int k b)) : PureOp P E (.binOp .sub T y z U) (.int k (k.wrap (a - b))) :=
  run_bin hy hz eqGuard_int fun w => by simp [Go.binOp, Op.intArith, Pure.pure, Sem.run]
theorem op_mulw (hy : ev E y = some (.int k a)) (hz : ev E z = some (.int k b)) : PureOp P E (.binOp .mul T y z U) (.int k (k.wrap (a * b))) :=
  run_bin hy hz eqGuard_int fun w => by simp [Go.binOp, Op.intArith, Pure.pure, Sem.run]
theorem op_add (hy : ev E y = some (.int .i64 a)) (hz : ev E z = some (.int .i64 b)) (h : -9223372036854775808 ≤ a + b ∧ a + b ≤ 9223372036854775807) : PureOp P E (.binOp .add T y z U) (.int .i64 (a + b)) := by
  have := op_addw (P := P) (T := T) (U := U) hy hz
  rwa [IntWalk.i64_in _ h] at this
theorem op_sub (hy : ev E y = some (.int .i64 a)) (hz : ev E z = some (.int .i64 b)) (h : -9223372036854775808 ≤ a - b ∧ a - b ≤ 9223372036854775807) : PureOp P E (.binOp .sub T y z U) (.int .i64 (a - b)) := by
  have := op_subw (P := P) (T := T) (U := U) hy hz
  rwa [IntWalk.i64_in _ h] at this
theorem op_mul (hy : ev E y = some (.int .i64 a)) (hz : ev E z = some (.int .i64 b)) (h : -9223372036854775808 ≤ a * b ∧ a * b ≤ 9223372036854775807) : PureOp P E (.binOp .mul T y z U) (.int .i64 (a * b)) := by
  have := op_mulw (P := P) (T := T) (U := U) hy hz
  rwa [IntWalk.i64_in _ h] at this
theorem op_eql (hy : ev E y = some (.int k a)) (hz : ev E z = some (.int k b)) : PureOp P E (.binOp .eql T y z U) (.bool (decide (a = b))) :=
  run_bin hy hz eqGuard_int fun w => by simp [Go.binOp, Op.intCmp, Pure.pure, Sem.run]; rfl
theorem op_neq (hy : ev E y = some (.int k a)) (hz : ev E z = some (.int k b)) : PureOp P E (.binOp .neq T y z U) (.bool (decide (a ≠ b))) :=
  run_bin hy hz eqGuard_int fun w => by simp [Go.binOp, Op.intCmp, Pure.pure, Sem.run, bne]; rfl
theorem op_lss (hy : ev E y = some (.int k a)) (hz : ev E z = some (.int k b)) : PureOp P E (.binOp .lss T y z U) (.bool (decide (a < b))) :=
  run_bin hy hz eqGuard_int fun w => by simp [Go.binOp, Op.intCmp, Pure.pure, Sem.run]
theorem op_leq (hy : ev E y = some (.int k a)) (hz : ev E z = some (.int k b)) : PureOp P E (.binOp .leq T y z U) (.bool (decide (a ≤ b))) :=
  run_bin hy hz eqGuard_int fun w => by simp [Go.binOp, Op.intCmp, Pure.pure, Sem.run]
theorem op_gtr (hy : ev E y = some (.int k a)) (hz : ev E z = some (.int k b)) : PureOp P E (.binOp .gtr T y z U) (.bool (decide (b < a))) :=
  run_bin hy hz eqGuard_int fun w => by simp [Go.binOp, Op.intCmp, Pure.pure, Sem.run]
theorem op_geq (hy : ev E y = some (.int k a)) (hz : ev E z = some (.int k b)) : PureOp P E (.binOp .geq T y z U) (.bool (decide (b ≤ a))) :=
  run_bin hy hz eqGuard_int fun w => by simp [Go.binOp, Op.intCmp, Pure.pure, Sem.run]
end
section
variable {T U : TypeId} {y z : Operand} {a b : ByteArray}
theorem toList_beq (a b : ByteArray) : (a.toList == b.toList) = decide (a = b) := by
  rw [Bool.eq_iff_iff]
  rw [Go.ByteArray.toList_eq, Go.ByteArray.toList_eq]
  simp only [beq_iff_eq, decide_eq_true_eq]
  constructor
  · intro h; cases a; cases b; congr; exact Array.toList_inj.1 h
  · intro h; rw [h]
theorem op_seql (hy : ev E y = some (.string a)) (hz : ev E z = some (.string b)) : PureOp P E (.binOp .eql T y z U) (.bool (decide (a = b))) :=
  run_bin hy hz eqGuard_str fun w => by
    simp only [Go.binOp, Op.stringOp, Pure.pure, Sem.run, toList_beq]
theorem op_sneq (hy : ev E y = some (.string a)) (hz : ev E z = some (.string b)) : PureOp P E (.binOp .neq T y z U) (.bool (decide (a ≠ b))) :=
  run_bin hy hz eqGuard_str fun w => by
    simp only [Go.binOp, Op.stringOp, Pure.pure, Sem.run, toList_beq, decide_not]
theorem op_slss (hy : ev E y = some (.string a)) (hz : ev E z = some (.string b)) : PureOp P E (.binOp .lss T y z U) (.bool (Op.bytesLess a.toList b.toList)) :=
  run_bin hy hz eqGuard_str fun w => by
    simp only [Go.binOp, Op.stringOp, Pure.pure, Sem.run]
theorem op_sgeq (hy : ev E y = some (.string a)) (hz : ev E z = some (.string b)) : PureOp P E (.binOp .geq T y z U) (.bool (!Op.bytesLess a.toList b.toList)) :=
  run_bin hy hz eqGuard_str fun w => by
    simp only [Go.binOp, Op.stringOp, Pure.pure, Sem.run]
theorem op_cat (hy : ev E y = some (.string a)) (hz : ev E z = some (.string b)) (h : a.size + b.size ≤ 9223372036854775807) : PureOp P E (.binOp .add T y z U) (.string (a ++ b)) :=
  run_bin hy hz eqGuard_str fun w => by
    have : ¬ (((a.size + b.size : Nat) : Int) > IntKind.i64.max) := by
      have e : IntKind.i64.max = 9223372036854775807 := by decide
      rw [e]; omega
    simp only [Go.binOp, Op.stringOp, Pure.pure, Sem.run, this, if_false]
end
section
variable {T U : TypeId} {y z : Operand} {a b : Bool}
theorem op_beql {h : TU P T .bool} (hy : ev E y = some (.bool a)) (hz : ev E z = some (.bool b)) : PureOp P E (.binOp .eql T y z U) (.bool (a == b)) :=
  run_bin hy hz eqGuard_bool fun w => by
    show ((Op.equalIn (9999 + 1) T (.bool a) (.bool b)).bind _).run P w = _
    unfold Op.equalIn
    simp only [Bind.bind, run_bind, run_underlying' h.eq, Pure.pure, Sem.run]
theorem op_bneq {h : TU P T .bool} (hy : ev E y = some (.bool a)) (hz : ev E z = some (.bool b)) : PureOp P E (.binOp .neq T y z U) (.bool (!(a == b))) :=
  run_bin hy hz eqGuard_bool fun w => by
    show ((Op.equalIn (9999 + 1) T (.bool a) (.bool b)).bind _).run P w = _
    unfold Op.equalIn
    simp only [Bind.bind, run_bind, run_underlying' h.eq, Pure.pure, Sem.run]
end
theorem op_not {T : TypeId} {y : Operand} {b : Bool} (hy : ev E y = some (.bool b)) : PureOp P E (.unOp .not T y) (.bool (!b)) := fun ρ ok _ _ _ _ _ w => by
  simp [execOp, ok _ _ hy, Op.unary, Bind.bind, Sem.bind, Pure.pure, Sem.run]

theorem op_extract {y : Operand} {k : Nat} {vs : Array Value} {v : Value} (hy : ev E y = some (.tuple vs)) (hv : vs[k]? = some v) : PureOp P E (.extract y k) v := fun ρ ok _ _ _ _ _ w => by
  simp [execOp, ok _ _ hy, Instr.extract, hv, Bind.bind, Sem.bind, Pure.pure, Sem.run]

theorem op_makeInterface {T : TypeId} {d : TypeDesc} [h : TU P T d] {y : Operand} {v : Value} (hd : (match d with | .interface _ => false | _ => true) = true) (hy : ev E y = some v) : PureOp P E (.makeInterface T y) (.iface T v) := fun ρ ok _ _ _ _ _ w => by
  simp only [execOp, ok _ _ hy, Instr.makeInterface, Bind.bind, run_bind, run_underlying' h.eq]
  cases d <;> first | (simp at hd; done) | rfl

theorem op_lenS {t : TypeId} {y : Operand} {pp : Option Addr} {n c : Nat} {e : TypeId} [h : TU P t (.slice e)] (hy : ev E y = some (.slice pp n c)) : PureOp P E (.call ⟨.builtin .len, #[y], #[t]⟩) (.int .i64 n) := fun ρ ok _ _ _ _ _ w => by
  simp only [execOp, resolve, Bind.bind, run_bind, Pure.pure, Sem.run, invoke, Go.builtin, Builtin.len_]
  simp [ok _ _ hy, Bind.bind, run_bind, run_underlying' h.eq, Pure.pure, Sem.run, goInt]
theorem op_lenStr {t : TypeId} {y : Operand} {s : ByteArray} [h : TU P t .string] (hy : ev E y = some (.string s)) : PureOp P E (.call ⟨.builtin .len, #[y], #[t]⟩) (.int .i64 s.size) := fun ρ ok _ _ _ _ _ w => by
  simp only [execOp, resolve, Bind.bind, run_bind, Pure.pure, Sem.run, invoke, Go.builtin, Builtin.len_]
  simp [ok _ _ hy, Bind.bind, run_bind, run_underlying' h.eq, Pure.pure, Sem.run, goInt]
end
end Go.Sl
