/- Operations on memory as rules of the walk: loads, stores, new blocks; lists of cells by classes. -/
import Derived.Test.YtffkmfgmdepfcaaGreatDoorSl3
set_option linter.unusedSimpArgs false
set_option linter.unusedVariables false
namespace Go.Sl
open Go.RowKit

/-! ### Lists of cells, written out -/
class NthC (cs : List Value) (o : Nat) (v : outParam Value) : Prop where
  eq : cs[o]? = some v
instance {v : Value} {cs : List Value} : NthC (v :: cs) 0 v := ⟨by simp⟩
instance {c v : Value} {cs : List Value} {o : Nat} [h : NthC cs o v] : NthC (c :: cs) (o + 1) v := ⟨by simpa using h.eq⟩

class TakeC (cs : List Value) (n : Nat) (out : outParam (List Value)) : Prop where
  eq : cs.take n = out ∧ n ≤ cs.length
class SlcC (cs : List Value) (o n : Nat) (out : outParam (List Value)) : Prop where
  eq : (cs.drop o).take n = out ∧ o + n ≤ cs.length
instance {cs : List Value} : TakeC cs 0 [] := ⟨by simp⟩
instance {c : Value} {cs : List Value} {n : Nat} {out : List Value} [h : TakeC cs n out] : TakeC (c :: cs) (n + 1) (c :: out) := ⟨by have := h.eq; simp [this.1]; omega⟩
instance {cs : List Value} {n : Nat} {out : List Value} [h : TakeC cs n out] : SlcC cs 0 n out := ⟨by have := h.eq; simp [this.1]; omega⟩
instance {c : Value} {cs : List Value} {o n : Nat} {out : List Value} [h : SlcC cs o n out] : SlcC (c :: cs) (o + 1) n out := ⟨by have := h.eq; simp [this.1]; omega⟩

/-- us written over cs from place 0 on -/
class OverC (cs us : List Value) (out : outParam (List Value)) : Prop where
  eq : us ++ cs.drop us.length = out ∧ us.length ≤ cs.length
instance {cs : List Value} : OverC cs [] cs := ⟨by simp⟩
instance {c u : Value} {cs us out : List Value} [h : OverC cs us out] : OverC (c :: cs) (u :: us) (u :: out) := ⟨by have := h.eq; simp [this.1]; omega⟩
/-- .. from place o on -/
class PutC (cs : List Value) (o : Nat) (us : List Value) (out : outParam (List Value)) : Prop where
  eq : cs.take o ++ us ++ cs.drop (o + us.length) = out ∧ o + us.length ≤ cs.length
instance {cs us out : List Value} [h : OverC cs us out] : PutC cs 0 us out := ⟨by have := h.eq; simpa using this⟩
instance {c : Value} {cs us out : List Value} {o : Nat} [h : PutC cs o us out] : PutC (c :: cs) (o + 1) us (c :: out) := ⟨by
  have := h.eq
  refine ⟨?_, by simp; omega⟩
  rw [← this.1, show o + 1 + us.length = (o + us.length) + 1 from by omega]
  simp⟩

/-- the value of one cell -/
def one : Value → Bool
  | .agg _ | .tuple _ => false
  | _ => true
class OneC (v : Value) : Prop where
  eq : one v = true
instance {b : Bool} : OneC (.bool b) := ⟨rfl⟩
instance {k : IntKind} {n : Int} : OneC (.int k n) := ⟨rfl⟩
instance {k : FloatKind} {n : Nat} : OneC (.float k n) := ⟨rfl⟩
instance {s : ByteArray} : OneC (.string s) := ⟨rfl⟩
instance {a : Option Addr} : OneC (.pointer a) := ⟨rfl⟩
instance {a : Option Addr} {n c : Nat} : OneC (.slice a n c) := ⟨rfl⟩
instance {r : Option Nat} : OneC (.map r) := ⟨rfl⟩
instance {fn : Fn} {a b : Array Value} : OneC (.func fn a b) := ⟨rfl⟩
instance : OneC .nilFunc := ⟨rfl⟩
instance {t : TypeId} {v : Value} : OneC (.iface t v) := ⟨rfl⟩
instance : OneC .nilIface := ⟨rfl⟩
class OnesC (us : List Value) : Prop where
  eq : ∀ u ∈ us, one u = true
instance : OnesC [] := ⟨fun _ h => by cases h⟩
instance {u : Value} {us : List Value} [h : OneC u] [k : OnesC us] : OnesC (u :: us) := ⟨fun x hx => by
  rcases List.mem_cons.1 hx with rfl | hx
  · exact h.eq
  · exact k.eq x hx⟩

/-- a value's cells -/
class VCells (v : Value) (cs : outParam (List Value)) : Prop where
  eq : v.cells = cs.toArray
instance {cs : List Value} : VCells (.agg cs.toArray) cs := ⟨rfl⟩
instance {b : Bool} : VCells (.bool b) [.bool b] := ⟨rfl⟩
instance {k : IntKind} {n : Int} : VCells (.int k n) [.int k n] := ⟨rfl⟩
instance {k : FloatKind} {n : Nat} : VCells (.float k n) [.float k n] := ⟨rfl⟩
instance {s : ByteArray} : VCells (.string s) [.string s] := ⟨rfl⟩
instance {a : Option Addr} : VCells (.pointer a) [.pointer a] := ⟨rfl⟩
instance {a : Option Addr} {n c : Nat} : VCells (.slice a n c) [.slice a n c] := ⟨rfl⟩
instance {r : Option Nat} : VCells (.map r) [.map r] := ⟨rfl⟩
instance {fn : Fn} {a b : Array Value} : VCells (.func fn a b) [.func fn a b] := ⟨rfl⟩
instance : VCells .nilFunc [.nilFunc] := ⟨rfl⟩
instance {t : TypeId} {v : Value} : VCells (.iface t v) [.iface t v] := ⟨rfl⟩
instance : VCells .nilIface [.nilIface] := ⟨rfl⟩

/-- an owned block of cells among the assertions, by its number -/
class OwnAt (As : List Assn) (b : Nat) (cs : outParam (List Value)) (T : outParam TypeId) (R : outParam (List Assn)) : Prop where
  perm : As.Perm (ownC b cs T :: R)
instance OwnAt.here {As : List Assn} {b : Nat} {cs : List Value} {T : TypeId} : OwnAt (own b (Obj.cells cs.toArray T (0, 0)) :: As) b cs T As := ⟨.refl _⟩
instance (priority := low) OwnAt.there {A : Assn} {As R : List Assn} {b : Nat} {cs : List Value} {T : TypeId} [h : OwnAt As b cs T R] : OwnAt (A :: As) b cs T (A :: R) :=
  ⟨(h.perm.cons A).trans (List.Perm.swap _ _ _)⟩

/-- a block that never changes again -/
class DatAt (As : List Assn) (b : Nat) (cs : outParam (List Value)) : Prop where
  ent : ∀ {B0 w0 D w}, St B0 w0 D As w → ∀ j v, cs[j]? = some v → cellD D b j v
instance DatAt.here {As : List Assn} {b : Nat} {cs : List Value} : DatAt (datC b cs :: As) b cs := ⟨fun s => by
  unfold datC at s
  exact s.pers⟩
instance (priority := low) DatAt.there {A : Assn} {As : List Assn} {b : Nat} {cs : List Value} [h : DatAt As b cs] : DatAt (A :: As) b cs := ⟨fun s => h.ent s.tail⟩

/-! ### Runs -/
section
variable {P : Program} {w : World} {b : Nat} {cs : List Value} {T0 : TypeId} {fz : Nat × Nat}

theorem cell_of (h : w.heap[b]? = some (.cells cs.toArray T0 fz)) (o : Nat) : w.cell? ⟨b, o, none⟩ = cs[o]? := by
  simp [World.cell?, h]

theorem run_load {a : Addr} {v : Value} (h : w.cell? a = some v) : (load a).run P w = .ok v w := by
  simp [load, Sem.run, h]

theorem add_mk (b o i : Nat) : (Addr.mk b o none).add i = ⟨b, o + i, none⟩ := by
  by_cases h : i = 0 <;> simp [Addr.add, h]

theorem run_loadCellsFrom {a : Addr} : ∀ (vs : List Value) (i : Nat) (acc : Array Value), (∀ j v, vs[j]? = some v → w.cell? (a.add (i + j)) = some v) →
    (loadCellsFrom a i vs.length acc).run P w = .ok (acc ++ vs.toArray) w
  | [], _, acc, _ => by simp [loadCellsFrom, Pure.pure, Sem.run]
  | v :: vs, i, acc, h => by
    have h0 := h 0 v rfl
    simp only [List.length_cons, loadCellsFrom, Bind.bind, run_bind, Nat.add_zero] at h0 ⊢
    rw [run_load h0]
    simp only
    rw [run_loadCellsFrom vs (i + 1) (acc.push v) (fun j u hu => by have := h (j + 1) u (by simpa using hu); rwa [show i + 1 + j = i + (j + 1) from by omega])]
    simp [Array.append_assoc]

theorem run_loadCells {a : Addr} (vs : List Value) (h : ∀ j v, vs[j]? = some v → w.cell? (a.add j) = some v) : (loadCells a vs.length).run P w = .ok vs.toArray w := by
  have := run_loadCellsFrom (P := P) (w := w) (a := a) vs 0 #[] (fun j v hv => by simpa using h j v hv)
  simpa [loadCells] using this

theorem run_isAgg {T : TypeId} {agg : Bool} {sz : Nat} (h : TL P T agg sz) : (isAgg T).run P w = .ok agg w := by
  obtain ⟨d, i, hd, hi, ha, hs⟩ := h.und
  subst ha
  unfold isAgg
  simp only [Bind.bind, run_bind, run_underlying' hd]
  cases d <;> rfl

theorem TL.size {T : TypeId} {agg : Bool} {sz : Nat} (h : TL P T agg sz) : (P.info? T).map (·.size) = some sz := by
  obtain ⟨d, i, hd, hi, ha, hs⟩ := h.und
  simp [hi, hs]

theorem run_loadVar1 {T : TypeId} {sz : Nat} (h : TL P T false sz) {a : Addr} {v : Value} (hc : w.cell? a = some v) : (loadVar T a).run P w = .ok v w := by
  unfold loadVar
  simp only [Bind.bind, run_bind, run_isAgg h]
  exact run_load hc

theorem run_loadVarA {T : TypeId} {vs : List Value} (h : TL P T true vs.length) {a : Addr} (hc : ∀ j v, vs[j]? = some v → w.cell? (a.add j) = some v) : (loadVar T a).run P w = .ok (.agg vs.toArray) w := by
  unfold loadVar
  simp only [Bind.bind, run_bind, run_isAgg h, if_true, run_sizeOf h.size, run_loadCells vs hc]
  rfl

theorem SlcC.get {o n : Nat} {vs : List Value} (hs : SlcC cs o n vs) {j : Nat} {v : Value} (hv : vs[j]? = some v) : cs[o + j]? = some v := by
  have := hs.eq.1
  have hj : j < n := by
    have h1 : j < vs.length := (List.getElem?_eq_some_iff.1 hv).1
    rw [← this] at h1
    simp at h1; omega
  rw [← this, List.getElem?_take, if_pos hj, List.getElem?_drop] at hv
  exact hv

theorem slc_cell (h : w.heap[b]? = some (.cells cs.toArray T0 fz)) {o n : Nat} {vs : List Value} (hs : SlcC cs o n vs) : ∀ j v, vs[j]? = some v → w.cell? ((Addr.mk b o none).add j) = some v := by
  intro j v hv
  have := hs.eq.1
  rw [add_mk, cell_of h, ← hv, ← this]
  have hj : j < n := by
    have h1 : j < vs.length := (List.getElem?_eq_some_iff.1 hv).1
    rw [← this] at h1
    simp at h1; omega
  rw [List.getElem?_take, if_pos hj, List.getElem?_drop]

theorem SlcC.len {o n : Nat} {vs : List Value} (hs : SlcC cs o n vs) : vs.length = n := by
  have := hs.eq
  rw [← this.1]; simp; omega

theorem run_storeCells : ∀ (us : List Value) (i : Nat) (w : World) (b o : Nat) (cs : List Value) (T0 : TypeId), (∀ u ∈ us, one u = true) → w.heap[b]? = some (.cells cs.toArray T0 (0, 0)) → o + i + us.length ≤ cs.length →
    ∃ w', (storeCells ⟨b, o, none⟩ us i).run P w = .ok () w' ∧ w'.os = w.os ∧ w'.tape = w.tape ∧ w'.output = w.output ∧ w'.heap.size = w.heap.size ∧
      w'.heap[b]? = some (.cells (cs.take (o + i) ++ us ++ cs.drop (o + i + us.length)).toArray T0 (0, 0)) ∧ ∀ k, k ≠ b → w'.heap[k]? = w.heap[k]?
  | [], i, w, b, o, cs, T0, _, h, hl => ⟨w, rfl, rfl, rfl, rfl, rfl, by simpa using h, fun _ _ => rfl⟩
  | u :: us, i, w, b, o, cs, T0, h1, h, hl => by
    simp only [List.length_cons] at hl
    have hlt : o + i < cs.length := by omega
    have hc : w.cell? ⟨b, o + i, none⟩ = some cs[o + i] := by rw [cell_of h]; simp [hlt]
    have hfz : w.frozen? ⟨b, o + i, none⟩ = false := by simp [World.frozen?, h]
    have hone := h1 u (by simp)
    have hst : (store ((Addr.mk b o none).add i) u).run P w = .ok () (w.setCell ⟨b, o + i, none⟩ u) := by
      rw [add_mk]
      cases u <;> simp [store, Sem.run, hc, hfz, one] at hone ⊢
    have hb' : (w.setCell ⟨b, o + i, none⟩ u).heap[b]? = some (.cells (cs.set (o + i) u).toArray T0 (0, 0)) := by
      simp [World.setCell, Array.getElem?_modify, h]
    obtain ⟨w', hr, e1, e2, e3, e4, e5, e6⟩ := run_storeCells us (i + 1) (w.setCell ⟨b, o + i, none⟩ u) b o (cs.set (o + i) u) T0 (fun x hx => h1 x (by simp [hx])) hb' (by simp; omega)
    refine ⟨w', ?_, e1, e2, e3, by simpa using e4, ?_, fun k hk => ?_⟩
    · unfold storeCells
      simp only [Bind.bind, run_bind, hst]
      exact hr
    · rw [e5]
      congr 2
      apply congrArg
      apply List.ext_getElem?
      intro k
      simp only [List.getElem?_append, List.length_take, List.length_set, List.getElem?_take, List.getElem?_drop, List.getElem?_set, List.length_append, List.length_cons]
      rcases Nat.lt_trichotomy k (o + i) with hk | hk | hk
      · simp [hk, show k < min (o + (i + 1)) cs.length from by omega, show k < min (o + i) cs.length from by omega, show k < o + (i + 1) from by omega, show o + i ≠ k from by omega,
          show k < min (o + (i + 1)) cs.length + us.length from by omega, show k < min (o + i) cs.length + (us.length + 1) from by omega]
      · subst hk
        simp [show o + i < min (o + (i + 1)) cs.length from by omega, show ¬ o + i < min (o + i) cs.length from by omega, hlt, show o + i < min (o + (i + 1)) cs.length + us.length from by omega,
          show o + i < min (o + i) cs.length + (us.length + 1) from by omega, show o + i - min (o + i) cs.length = 0 from by omega]
      · by_cases hk2 : k < o + i + 1 + us.length
        · simp [show ¬ k < min (o + (i + 1)) cs.length from by omega, show ¬ k < min (o + i) cs.length from by omega, show k < min (o + (i + 1)) cs.length + us.length from by omega,
            show k < min (o + i) cs.length + (us.length + 1) from by omega, show k - min (o + i) cs.length = (k - min (o + (i + 1)) cs.length) + 1 from by omega]
        · simp [show ¬ k < min (o + (i + 1)) cs.length from by omega, show ¬ k < min (o + i) cs.length from by omega, show ¬ k < min (o + (i + 1)) cs.length + us.length from by omega,
            show ¬ k < min (o + i) cs.length + (us.length + 1) from by omega,
            show o + i + (us.length + 1) + (k - (min (o + i) cs.length + (us.length + 1))) = k from by omega, show o + (i + 1) + us.length + (k - (min (o + (i + 1)) cs.length + us.length)) = k from by omega, show o + i ≠ k from by omega]
    · rw [e6 k hk]
      simp [World.setCell, Array.getElem?_modify, Ne.symm hk]
end

/-! ### Loads, stores, new blocks -/
section
variable {x : Cx} {E : Env} {As R : List Assn} {T T0 : TypeId} {y z : Operand} {b o sz : Nat} {cs vs us cs' : List Value} {v : Value}

theorem rd_own1 [h : TL x.P T false sz] (hy : ev E y = some (.pointer (some ⟨b, o, none⟩))) [ho : OwnAt As b cs T0 R] [hv : NthC cs o v] : ReadOwn x E As b (.cells cs.toArray T0 (0, 0)) (.load T y) v := fun D a w hl r st => by
  have hb := (st.perm ho.perm).own_at
  refine ⟨hb, fun w' _ hb' dst t pos after g => ?_⟩
  simp only [execOp, r.ev hy, Instr.loadAt, Instr.sureAddr, Bind.bind, run_bind, Pure.pure, Sem.run, run_loadVar1 h ((cell_of hb' o).trans hv.eq)]

theorem rd_ownA [h : TL x.P T true sz] (hy : ev E y = some (.pointer (some ⟨b, o, none⟩))) [ho : OwnAt As b cs T0 R] [hv : SlcC cs o sz vs] : ReadOwn x E As b (.cells cs.toArray T0 (0, 0)) (.load T y) (.agg vs.toArray) := fun D a w hl r st => by
  have hb := (st.perm ho.perm).own_at
  refine ⟨hb, fun w' _ hb' dst t pos after g => ?_⟩
  have hlen := hv.len
  subst hlen
  simp only [execOp, r.ev hy, Instr.loadAt, Instr.sureAddr, Bind.bind, run_bind, Pure.pure, Sem.run, run_loadVarA h (slc_cell hb' hv)]

theorem rd_dat1 [h : TL x.P T false sz] (hy : ev E y = some (.pointer (some ⟨b, o, none⟩))) [ho : DatAt As b cs] [hv : NthC cs o v] : ReadOp x E As (.load T y) v := fun D a w hl r st w' hd dst t pos after g => by
  simp only [execOp, r.ev hy, Instr.loadAt, Instr.sureAddr, Bind.bind, run_bind, Pure.pure, Sem.run, run_loadVar1 h (hd.cell (ho.ent st o v hv.eq))]

theorem rd_datA [h : TL x.P T true sz] (hy : ev E y = some (.pointer (some ⟨b, o, none⟩))) [ho : DatAt As b cs] [hv : SlcC cs o sz vs] : ReadOp x E As (.load T y) (.agg vs.toArray) := fun D a w hl r st w' hd dst t pos after g => by
  have hlen := hv.len
  subst hlen
  simp only [execOp, r.ev hy, Instr.loadAt, Instr.sureAddr, Bind.bind, run_bind, Pure.pure, Sem.run, run_loadVarA h (fun j v hj => by rw [add_mk]; exact hd.cell (ho.ent st _ _ (hv.get hj)))]

theorem st_store [h : TSz x.P T us.length] (hy : ev E y = some (.pointer (some ⟨b, o, none⟩))) (hz : ev E z = some v) [hv : VCells v us] [h1 : OnesC us] [ho : OwnAt As b cs T0 R] [hp : PutC cs o us cs'] :
    Step x (.store T y z) E As (fun _ : Unit => undef) (fun _ => ownC b cs' T0 :: R) := fun D a w hl r st dst t pos after g => by
  have st1 := st.perm ho.perm
  have hb := st1.own_at
  obtain ⟨w', hr, e1, e2, e3, e4, e5, e6⟩ := run_storeCells (P := x.P) us 0 w b o cs T0 h1.eq hb (by have := hp.eq.2; omega)
  have hsz : us.toArray.size = us.length := by simp
  unfold opR
  simp only [execOp, r.ev hy, r.ev hz, Instr.storeAt, Instr.sureAddr, Bind.bind, run_bind, Pure.pure, Sem.run, storeVar, hv.eq, run_sizeOf h.eq, hsz, ne_eq, not_true, if_false, hr]
  refine ⟨(), D, Dat.le_refl D, by trivial, ?_⟩
  have e5' : w'.heap[b]? = some (.cells cs'.toArray T0 (0, 0)) := by
    rw [e5, ← hp.eq.1]
    simp
  exact st1.put e1 e2 e3 e4 e5' e6

theorem st_box (hy : ev E y = some v) [hv : VCells v cs] : Step x (.box T y) E As (fun b : Nat => .pointer (some ⟨b, 0, none⟩)) (fun b => ownC b cs T :: As) := fun D a w hl r st dst t pos after g => by
  unfold opR
  simp only [execOp, r.ev hy, Instr.box, newVar, newRow, newObj, hv.eq, Bind.bind, run_bind, Pure.pure, Sem.run]
  exact ⟨w.heap.size, D, Dat.le_refl D, rfl, st.alloc _⟩

theorem st_alloc [hzv : TZ x.P T v] [hv : VCells v cs] : Step x (.alloc T) E As (fun b : Nat => .pointer (some ⟨b, 0, none⟩)) (fun b => ownC b cs T :: As) := fun D a w hl r st dst t pos after g => by
  unfold opR
  simp only [execOp, Instr.alloc, newVar, newRow, newObj, Bind.bind, run_bind, run_zeroValue hzv.eq, hv.eq, Pure.pure, Sem.run]
  exact ⟨w.heap.size, D, Dat.le_refl D, rfl, st.alloc _⟩

theorem F.fixAll (b : Nat) {K : Act → World → Prop} [ho : OwnAt As b cs T0 R] (k : F x K E (datC b cs :: R)) : F x K E As := fun D a w hl r st =>
  let ⟨D', l', st'⟩ := (st.perm ho.perm).fixAll
  k D' a w (Dat.le_trans hl l') r st'
end

/-! ### Calls -/
/-- The contract: called with these arguments, where these assertions hold, it returns a value, and those hold; whatever stands beside. -/
def Meets (P : Program) (f : FuncId) (args : List Value) (pre : List Assn) {γ : Type} (val : γ → Value) (post : γ → List Assn) : Prop :=
  ∀ B0 w0 D R w, St B0 w0 D (pre ++ R) w → Calls P f args.toArray w (fun e w' => ∃ g D', Dat.le D D' ∧ e = .returned (val g) ∧ St B0 w0 D' (post g ++ R) w')

section
variable {x : Cx} {E : Env} {As R pre : List Assn} {f : FuncId} {args : List Operand} {vals : List Value} {ats : Array TypeId} {γ : Type} {val : γ → Value} {post : γ → List Assn} {fn : Func}

class HasBody (P : Program) (f : FuncId) : Prop where
  eq : ∃ fn, P.funcs[f]? = some fn ∧ fn.body.isNone = false ∧ (fn.name == "runtime.NumGoroutine") = false

theorem run_callFunc {P : Program} (h : HasBody P f) (vs : Array Value) (w : World) : (callFunc f vs).run P w = .ok (.enter f vs) w := by
  obtain ⟨fn, h1, h2, h3⟩ := h.eq
  simp only [callFunc, program, Bind.bind, run_bind, Pure.pure, Sem.run, h1, h2, h3, Bool.false_eq_true, if_false]

/-- the arguments of a call -/
def Evs (E : Env) (xs : List Operand) (vs : List Value) : Prop := ∀ ρ, Ok E ρ → xs.map ρ = vs
theorem Evs.nil : Evs E [] [] := fun _ _ => rfl
theorem Evs.cons {y : Operand} {u : Value} {ys : List Operand} {us : List Value} (h : ev E y = some u) (k : Evs E ys us) : Evs E (y :: ys) (u :: us) := fun ρ ok => by
  simp [ok _ _ h, k ρ ok]

theorem st_call (hm : Meets x.P f vals pre val post) [hb : HasBody x.P f] (ha : Evs E args vals) (ht : Tks As pre R) :
    Step x (.call ⟨.value (.func f), args.toArray, ats⟩) E As val (fun g => post g ++ R) := fun D a w hl r st dst t pos after g => by
  obtain ⟨D1, l1, st1⟩ := ht x.B0 x.w0 D w [] (by simpa using st)
  unfold opR
  have e1 : (args.toArray.map a.eval) = vals.toArray := by
    apply Array.ext'
    rw [Array.toList_map]
    exact ha a.eval r.ok
  simp only [execOp, resolve, Deferred.ofValue, e1, Act.eval, invoke, Bind.bind, run_bind, Pure.pure, Sem.run, Array.empty_append, Array.append_empty]
  rw [run_callFunc hb]
  simp only
  refine (hm x.B0 x.w0 D1 R w (by simpa using st1)).mono fun e w' ⟨gh, D', l', he, st'⟩ => ⟨_, he, gh, D', Dat.le_trans l1 l', rfl, st'⟩
end

/-! ### A function's beginning and end -/
def env0 : Nat → List Value → Env
  | _, [] => []
  | i, v :: vs => (i, v) :: env0 (i + 1) vs

theorem look_env0 : ∀ (vs : List Value) (i t : Nat) (v : Value), look (env0 i vs) t = some v → ∃ j, t = i + j ∧ vs[j]? = some v
  | [], _, _, _, h => by cases h
  | u :: vs, i, t, v, h => by
    unfold env0 look at h
    split at h
    · rename_i e
      have e := Nat.eq_of_beq_eq_true e
      exact ⟨0, by omega, by simpa using h⟩
    · obtain ⟨j, e, hj⟩ := look_env0 vs (i + 1) t v h
      exact ⟨j + 1, by omega, by simpa using hj⟩

/-- what the function's end owes -/
def RetQ (x : Cx) {γ : Type} (val : γ → Value) (post : γ → List Assn) (R : List Assn) (e : Ending) (w' : World) : Prop :=
  ∃ g D', Dat.le x.D0 D' ∧ e = .returned (val g) ∧ St x.B0 x.w0 D' (post g ++ R) w'

theorem Meets.of_walk {P : Program} {f : FuncId} {args : List Value} {pre : List Assn} {γ : Type} {val : γ → Value} {post : γ → List Assn} {fn : Func} {c : Code} (n : Nat) (hf : P.funcs[f]? = some fn) (hb : fn.body = some c) (hn : fn.ntmps = n) (hle : Nat.ble args.length n = true)
    (h : ∀ B0 w0 D0 R, W ⟨P, B0, w0, D0, n⟩ (bodyPost P fn (RetQ ⟨P, B0, w0, D0, n⟩ val post R)) c (env0 0 args) (pre ++ R)) : Meets P f args pre val post := by
  intro B0 w0 D R w st
  have hle' : args.length ≤ n := Nat.le_of_ble_eq_true hle
  refine (calls_of_wp (R := RetQ ⟨P, B0, w0, D, n⟩ val post R) hf hb ?_).mono fun e w' ⟨g, D', l, he, s⟩ => ⟨g, D', l, he, s⟩
  refine h B0 w0 D R D _ w (Dat.le_refl D) ⟨by simp [hn]; omega, rfl, fun t v hv => ?_⟩ st
  obtain ⟨j, e, hj⟩ := look_env0 args 0 t v hv
  have hj' : j < args.length := (List.getElem?_eq_some_iff.1 hj).1
  subst e
  have : args[j]? = some v := hj
  simp [Array.getElem?_append, hj']
  exact (List.getElem?_eq_some_iff.1 this).2

section
variable {x : Cx} {E : Env} {As R : List Assn} {γ : Type} {val : γ → Value} {post : γ → List Assn} {fn : Func}

def resF (tmps : Array Value) : ResultVar → Sem Value
  | .tmp t => Pure.pure (tmps.getD t undef)
  | .cell c t => do loadVar t (← asAddr (tmps.getD c undef))
theorem results_eq (fn : Func) (tmps : Array Value) : results fn tmps = (do let vs ← fn.results.mapM (resF tmps); Pure.pure (if h : vs.size = 1 then vs[0] else .tuple vs)) := by
  unfold results
  congr 1

/-- what a result variable holds -/
def ResOk (x : Cx) (E : Env) (As : List Assn) (rv : ResultVar) (v : Value) : Prop :=
  ∀ D a w, Dat.le x.D0 D → Rep x.n E a → St x.B0 x.w0 D As w → (resF a.tmps rv).run x.P w = .ok v w

theorem ResOk.tmp {t : Tmp} {v : Value} (h : look E t = some v) : ResOk x E As (.tmp t) v := fun D a w hl r st => by
  simp only [resF, Pure.pure, Sem.run, r.get t v h]

theorem ResOk.cellOwnA {c : Tmp} {T T0 : TypeId} {b o sz : Nat} {cs vs : List Value} [h : TL x.P T true sz] (hy : look E c = some (.pointer (some ⟨b, o, none⟩))) [ho : OwnAt As b cs T0 R] [hv : SlcC cs o sz vs] : ResOk x E As (.cell c T) (.agg vs.toArray) := fun D a w hl r st => by
  have hb := (st.perm ho.perm).own_at
  have hlen := hv.len
  subst hlen
  simp only [resF, r.get c _ hy, asAddr, Bind.bind, run_bind, Pure.pure, Sem.run, run_loadVarA h (slc_cell hb hv)]

theorem ResOk.cellDatA {c : Tmp} {T : TypeId} {b o sz : Nat} {cs vs : List Value} [h : TL x.P T true sz] (hy : look E c = some (.pointer (some ⟨b, o, none⟩))) [ho : DatAt As b cs] [hv : SlcC cs o sz vs] : ResOk x E As (.cell c T) (.agg vs.toArray) := fun D a w hl r st => by
  have hlen := hv.len
  subst hlen
  simp only [resF, r.get c _ hy, asAddr, Bind.bind, run_bind, Pure.pure, Sem.run, run_loadVarA h (fun j v hj => by rw [add_mk]; exact st.dat.cell (ho.ent st _ _ (hv.get hj)))]

theorem F.ret0 (hr : fn.results = #[]) (g : γ) (hv : val g = .tuple #[]) (ht : Ent As (post g ++ R)) : F x (bodyPost x.P fn (RetQ x val post R) .ret) E As := fun D a w hl r st => by
  obtain ⟨D', l', st'⟩ := ht x.B0 x.w0 D w [] (by simpa using st)
  exact ⟨r.defers, .tuple #[], by simp [results, hr, Pure.pure, Bind.bind, run_bind, Sem.run], g, D', Dat.le_trans hl l', by rw [hv], by simpa using st'⟩
theorem F.end0 (hr : fn.results = #[]) (g : γ) (hv : val g = .tuple #[]) (ht : Ent As (post g ++ R)) : F x (bodyPost x.P fn (RetQ x val post R) .normal) E As := F.ret0 (fn := fn) hr g hv ht

theorem mapM1 {α β : Type} (f : α → Sem β) (a : α) : (#[a].mapM f : Sem (Array β)) = (f a >>= fun x => Pure.pure #[x]) := by
  simp [← bind_pure_comp]
theorem mapM2 {α β : Type} (f : α → Sem β) (a b : α) : (#[a, b].mapM f : Sem (Array β)) = (f a >>= fun x => f b >>= fun y => Pure.pure #[x, y]) := by
  simp [← bind_pure_comp]
theorem mapM3 {α β : Type} (f : α → Sem β) (a b c : α) : (#[a, b, c].mapM f : Sem (Array β)) = (f a >>= fun x => f b >>= fun y => f c >>= fun z => Pure.pure #[x, y, z]) := by
  simp [← bind_pure_comp]

theorem F.ret1 {rv : ResultVar} {v : Value} (hr : fn.results = #[rv]) (g : γ) (h1 : ResOk x E As rv v) (hv : v = val g) (ht : Ent As (post g ++ R)) : F x (bodyPost x.P fn (RetQ x val post R) .ret) E As := fun D a w hl r st => by
  obtain ⟨D', l', st'⟩ := ht x.B0 x.w0 D w [] (by simpa using st)
  refine ⟨r.defers, v, ?_, g, D', Dat.le_trans hl l', by rw [hv], by simpa using st'⟩
  rw [results_eq, hr, mapM1]
  show ((Sem.bind _ _).bind _).run x.P w = _
  rw [run_bind, run_bind, h1 D a w hl r st]
  simp [Pure.pure, Sem.run]
theorem F.ret2 {rv rv' : ResultVar} {v v' : Value} (hr : fn.results = #[rv, rv']) (g : γ) (h1 : ResOk x E As rv v) (h2 : ResOk x E As rv' v') (hv : .tuple #[v, v'] = val g) (ht : Ent As (post g ++ R)) : F x (bodyPost x.P fn (RetQ x val post R) .ret) E As := fun D a w hl r st => by
  obtain ⟨D', l', st'⟩ := ht x.B0 x.w0 D w [] (by simpa using st)
  refine ⟨r.defers, .tuple #[v, v'], ?_, g, D', Dat.le_trans hl l', by rw [hv], by simpa using st'⟩
  rw [results_eq, hr, mapM2]
  show ((Sem.bind _ _).bind _).run x.P w = _
  rw [run_bind, run_bind, h1 D a w hl r st]
  simp only
  rw [run_ok' (h2 D a w hl r st)]
  simp [Pure.pure, Sem.run]
theorem F.ret3 {rv rv' rv'' : ResultVar} {v v' v'' : Value} (hr : fn.results = #[rv, rv', rv'']) (g : γ) (h1 : ResOk x E As rv v) (h2 : ResOk x E As rv' v') (h3 : ResOk x E As rv'' v'') (hv : .tuple #[v, v', v''] = val g) (ht : Ent As (post g ++ R)) : F x (bodyPost x.P fn (RetQ x val post R) .ret) E As := fun D a w hl r st => by
  obtain ⟨D', l', st'⟩ := ht x.B0 x.w0 D w [] (by simpa using st)
  refine ⟨r.defers, .tuple #[v, v', v''], ?_, g, D', Dat.le_trans hl l', by rw [hv], by simpa using st'⟩
  rw [results_eq, hr, mapM3]
  show ((Sem.bind _ _).bind _).run x.P w = _
  rw [run_bind, run_bind, h1 D a w hl r st]
  simp only
  rw [run_ok' (h2 D a w hl r st), run_ok' (h3 D a w hl r st)]
  simp [Pure.pure, Sem.run]
end
end Go.Sl
