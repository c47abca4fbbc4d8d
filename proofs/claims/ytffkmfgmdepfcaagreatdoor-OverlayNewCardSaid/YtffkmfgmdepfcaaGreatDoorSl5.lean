/- Guarded operations without a split; strings; lists of assertions found and dropped; loops with a constant part. -/
import Derived.Test.YtffkmfgmdepfcaaGreatDoorSl4
set_option linter.unusedSimpArgs false
namespace Go.Sl
open Go.RowKit

/-! ### Guards -/
/-- a value under a guard -/
def gv (G : Bool) (v : Value) : Value := if G = true then v else undef
theorem gv_true {G : Bool} (h : G = true) (v : Value) : gv G v = v := by simp [gv, h]
theorem gv_false {G : Bool} (h : G = false) (v : Value) : gv G v = undef := by simp [gv, h]

def asB : Value → Option Bool
  | .bool b => some b
  | _ => none

class GuardOf (u : Value) (want : Bool) (G : outParam Bool) : Prop where
  eq : asB u = some want ↔ G = true
instance GuardOf.t {b : Bool} : GuardOf (.bool b) true b := ⟨by simp [asB]⟩
instance GuardOf.f {b : Bool} : GuardOf (.bool b) false (!b) := ⟨by simp [asB]⟩
instance GuardOf.gt {G b : Bool} : GuardOf (gv G (.bool b)) true (G && b) := ⟨by
  cases G <;> simp [gv, undef, asB]⟩
instance GuardOf.gf {G b : Bool} : GuardOf (gv G (.bool b)) false (G && !b) := ⟨by
  cases G <;> simp [gv, undef, asB]⟩

theorem gvl {E : Env} {t : Nat} {G : Bool} {v : Value} (hG : G = true) (h : look E t = some (gv G v)) : ev E (.tmp t) = some v := by
  rw [gv_true hG] at h; exact h

section
variable {x : Cx} {Q : Exit → Act → World → Prop} {K : Act → World → Prop} {E : Env} {As : List Assn} {ops : Array Oper} {rest l : List Oper} {op : Op} {v u : Value} {d t i j dj : Nat} {pos : String} {after : Array Edge} {p : List (Nat × Bool)} {listed : Array Bool} {Cs : List Keep} {want G : Bool} {oj : Oper}

theorem yielded_u {n : Nat} {a : Act} (r : Rep n E a) (hj : (ops[j]?).bind (·.dst) = some dj) (hu : look E dj = some u) : yielded ops a.tmps j = asB u := by
  have := r.get dj _ hu
  unfold yielded
  rw [hj]
  simp only [Option.bind_some]
  cases ht : a.tmps[dj]? with
  | none =>
    simp [Array.getD_eq_getD_getElem?, ht] at this
    rw [← this]
    rfl
  | some u' =>
    simp [Array.getD_eq_getD_getElem?, ht] at this
    subst this
    cases u' <;> rfl

theorem wanted_G {n : Nat} {a : Act} (r : Rep n E a) (hj : (ops[j]?).bind (·.dst) = some dj) (hu : look E dj = some u) (hg : GuardOf u want G) (dst : Option Tmp) : Region.wanted ⟨dst, op, t, pos, after, some (j, want)⟩ (yielded ops a.tmps) = G := by
  have hy := yielded_u r hj hu
  have := hg.eq
  unfold Region.wanted
  simp only [hy]
  rw [Bool.eq_iff_iff, ← this]
  cases hb : asB u <;> cases want <;> simp

/-- A guarded operation that leaves the state as it is: its value under the guard. -/
theorem L.guardS (hj : nthO l j = some oj) (hdj : oj.dst = some dj) (hu : look E dj = some u) [hg : GuardOf u want G] (h : G = true → Step x op E As (fun _ : Unit => v) (fun _ => As)) (hd : Nat.blt d x.n = true)
    (k : L x l.toArray Q rest ((d, gv G v) :: E) As) : L x l.toArray Q (⟨some d, op, t, pos, after, some (j, want)⟩ :: rest) E As :=
  fun D a w hl r st => by
    have hw := wanted_G (op := op) (t := t) (pos := pos) (after := after) r ((nthO_dst hj).trans hdj) hu hg (some d)
    cases hG : G with
    | true =>
      rw [hG] at hw
      unfold wpList
      rw [if_pos hw]
      refine .inl (opR_wp (opR_mono (h hG D a w hl r st _ _ _ _ _) fun v' w' ⟨_, D', l', hv, st'⟩ => ?_))
      subst hv
      have r' := r.put (Nat.blt_eq ▸ hd) v'
      have k' := k
      rw [gv_true hG] at k'
      exact k' D' _ w' (Dat.le_trans hl l') r' st'
    | false =>
      rw [hG] at hw
      unfold wpList
      rw [if_neg (by simp [hw])]
      have k' := k
      rw [gv_false hG] at k'
      exact k' D _ w hl (r.put (Nat.blt_eq ▸ hd) _) st

theorem L.guardP (hj : nthO l j = some oj) (hdj : oj.dst = some dj) (hu : look E dj = some u) [hg : GuardOf u want G] (h : G = true → PureOp x.P E op v) (hd : Nat.blt d x.n = true)
    (k : L x l.toArray Q rest ((d, gv G v) :: E) As) : L x l.toArray Q (⟨some d, op, t, pos, after, some (j, want)⟩ :: rest) E As := L.guardS hj hdj hu (fun hg => (h hg).read.step) hd k
theorem L.guardR (hj : nthO l j = some oj) (hdj : oj.dst = some dj) (hu : look E dj = some u) [hg : GuardOf u want G] (h : G = true → ReadOp x E As op v) (hd : Nat.blt d x.n = true)
    (k : L x l.toArray Q rest ((d, gv G v) :: E) As) : L x l.toArray Q (⟨some d, op, t, pos, after, some (j, want)⟩ :: rest) E As := L.guardS hj hdj hu (fun hg => (h hg).step) hd k
theorem L.guardO {b : Nat} {o : Obj} (hj : nthO l j = some oj) (hdj : oj.dst = some dj) (hu : look E dj = some u) [hg : GuardOf u want G] (h : G = true → ReadOwn x E As b o op v) (hd : Nat.blt d x.n = true)
    (k : L x l.toArray Q rest ((d, gv G v) :: E) As) : L x l.toArray Q (⟨some d, op, t, pos, after, some (j, want)⟩ :: rest) E As := L.guardS hj hdj hu (fun hg => (h hg).step) hd k

theorem M.guardR (hi : nthO l i = some ⟨some d, op, t, pos, after, some (j, want)⟩) (hj : nthO l j = some oj) (hdj : oj.dst = some dj) (hu : look E dj = some u) [hg : GuardOf u want G] (h : G = true → ReadOp x E As op v) (hd : Nat.blt d x.n = true)
    (k : M x l K p (listed.setIfInBounds i true) Cs ((d, gv G v) :: E) As) : M x l K ((i, true) :: p) listed Cs E As := fun ho hs D a w hl r st => by
  simp only [orderOk, if_true, Bool.and_eq_true] at ho
  have hi' := (nthO_eq l i).symm.trans hi
  obtain ⟨h1, h2⟩ := takeOk_spec ho.1 hi'
  have hw := wanted_G (op := op) (t := t) (pos := pos) (after := after) r ((nthO_dst hj).trans hdj) hu hg (some d)
  refine wpAnyC_first (v := gv G v) (R := DH D) (S := fun _ => false) hi' (Region.noSelect_spec hs) (fun w hR => Tr.refl D Cs i w hR) (fun j w w' _ _ hT => hT.1) (fun j hj => by cases hj) _ _ _ _ st.dat (fun j hj => by cases hj) h2 h1
    ?_ (k ho.2 hs D _ w hl (r.put (Nat.blt_eq ▸ hd) _) st)
  cases hG : G with
  | true => exact .inl ⟨hw.trans hG, fun w' hw' => by rw [gv_true rfl]; exact h hG D a w hl r st w' hw' _ _ _ _ _⟩
  | false => exact .inr ⟨hw.trans hG, by rw [gv_false rfl]⟩

theorem M.guardP (hi : nthO l i = some ⟨some d, op, t, pos, after, some (j, want)⟩) (hj : nthO l j = some oj) (hdj : oj.dst = some dj) (hu : look E dj = some u) [hg : GuardOf u want G] (h : G = true → PureOp x.P E op v) (hd : Nat.blt d x.n = true)
    (k : M x l K p (listed.setIfInBounds i true) Cs ((d, gv G v) :: E) As) : M x l K ((i, true) :: p) listed Cs E As := M.guardR hi hj hdj hu (fun hg => (h hg).read) hd k

theorem M.guardO {b : Nat} {o : Obj} (S : List Nat) (hsink : sinkOk l.toArray listed i S = true) (hi : nthO l i = some ⟨some d, op, t, pos, after, some (j, want)⟩) (hj : nthO l j = some oj) (hdj : oj.dst = some dj) (hu : look E dj = some u) [hg : GuardOf u want G]
    (ho' : ∀ D w, Dat.le x.D0 D → St x.B0 x.w0 D As w → w.heap[b]? = some o) (h : G = true → ReadOwn x E As b o op v) (hd : Nat.blt d x.n = true)
    (k : M x l K p (listed.setIfInBounds i true) (⟨b, o, S⟩ :: Cs) ((d, gv G v) :: E) As) : M x l K ((i, true) :: p) listed Cs E As := fun ho hs D a w hl r st => by
  simp only [orderOk, if_true, Bool.and_eq_true] at ho
  have hi' := (nthO_eq l i).symm.trans hi
  obtain ⟨h1, h2⟩ := takeOk_spec ho.1 hi'
  obtain ⟨s1, s2⟩ := sinkOk_spec hsink
  have hbb := ho' D w hl st
  have hw := wanted_G (op := op) (t := t) (pos := pos) (after := after) r ((nthO_dst hj).trans hdj) hu hg (some d)
  refine wpAnyC_mono (C := Tr D (⟨b, o, S⟩ :: Cs)) (fun j w w' hT => ⟨hT.1, fun k hk => hT.2 k (List.mem_cons_of_mem _ hk)⟩) _ _ _ _ ?_
  refine wpAnyC_first (v := gv G v) (R := fun w' => DH D w' ∧ w'.heap[b]? = some o) (S := fun j => S.contains j) hi' (Region.noSelect_spec hs) (fun w hR => Tr.refl D _ i w hR.1)
    (fun j w w' hj hR hT => ⟨hT.1, hT.2 ⟨b, o, S⟩ (by simp) (by simpa using hj) hR.2⟩) s2 _ _ _ _ ⟨st.dat, hbb⟩ s1 h2 h1
    ?_ (k ho.2 hs D _ w hl (r.put (Nat.blt_eq ▸ hd) _) st)
  cases hG : G with
  | true => exact .inl ⟨hw.trans hG, fun w' hw' => by rw [gv_true rfl]; exact (h hG D a w hl r st).2 w' hw'.1 hw'.2 _ _ _ _ _⟩
  | false => exact .inr ⟨hw.trans hG, by rw [gv_false rfl]⟩

theorem M.guardS (hi : nthO l i = some ⟨some d, op, t, pos, after, some (j, want)⟩) (hj : nthO l j = some oj) (hdj : oj.dst = some dj) (hu : look E dj = some u) [hg : GuardOf u want G] (h : G = true → Step x op E As (fun _ : Unit => v) (fun _ => As)) (hk : Keeps Cs i As) (hd : Nat.blt d x.n = true)
    (k : M x l K p (listed.setIfInBounds i true) Cs ((d, gv G v) :: E) As) : M x l K ((i, false) :: p) listed Cs E As := fun ho hs D a w hl r st => by
  simp only [orderOk, Bool.false_eq_true, if_false, Bool.and_eq_true, beq_iff_eq] at ho
  have hi' := (nthO_eq l i).symm.trans hi
  have hw := wanted_G (op := op) (t := t) (pos := pos) (after := after) r ((nthO_dst hj).trans hdj) hu hg (some d)
  refine wpAnyC_one ho.1 ?_
  cases hG : G with
  | true =>
    refine (h hG).opC (fun _ => hk) hl r st hi' (hw.trans hG) fun gh D' w' l' st' => ?_
    have k' := k
    rw [gv_true hG] at k'
    exact wpAnyC_mono (fun j w w' hT => ⟨hT.1.mono l', hT.2⟩) _ _ _ _ (k' ho.2 hs D' _ w' (Dat.le_trans hl l') (r.put (Nat.blt_eq ▸ hd) _) st')
  | false =>
    unfold Sl.opC
    simp only [hi', hw.trans hG, Bool.false_eq_true, if_false]
    have k' := k
    rw [gv_false hG] at k'
    exact k' ho.2 hs D _ w hl (r.put (Nat.blt_eq ▸ hd) _) st

theorem OwnAt.obj {b : Nat} {cs : List Value} {T : TypeId} {R : List Assn} (h : OwnAt As b cs T R) : ∀ D w, Dat.le x.D0 D → St x.B0 x.w0 D As w → w.heap[b]? = some (.cells cs.toArray T (0, 0)) :=
  fun _ _ _ st => (st.perm h.perm).own_at

/-- A Bool in a slot is parted. -/
theorem F.split {b : Bool} (d : Nat) (h : look E d = some (.bool b)) (ht : b = true → F x K ((d, .bool true) :: E) As) (hf : b = false → F x K ((d, .bool false) :: E) As) : F x K E As := by
  cases b with
  | true => exact F.sub (Sub.cons h rfl (Sub.refl E)) (ht rfl)
  | false => exact F.sub (Sub.cons h rfl (Sub.refl E)) (hf rfl)
end

section
variable {P : Program} {E : Env} {c y z : Operand} {p r G : Bool}
theorem op_pickAnd {t : Nat} (hc : ev E c = some (.bool p)) (ha : look E t = some (gv G (.bool r))) (hG : p = true → G = true) : PureOp P E (.pick c (.tmp t) (.const (.bool false))) (.bool (p && r)) := fun ρ ok _ _ _ _ _ w => by
  have h1 := ok (.tmp t) _ ha
  have h2 := ok (.const (.bool false)) _ rfl
  simp only [execOp, ok _ _ hc, h1, h2, asBool, Bind.bind, run_bind, Pure.pure, Sem.run]
  cases p with
  | true => simp [gv_true (hG rfl)]
  | false => simp
theorem op_pickOr {t : Nat} (hc : ev E c = some (.bool p)) (ha : look E t = some (gv G (.bool r))) (hG : p = false → G = true) : PureOp P E (.pick c (.const (.bool true)) (.tmp t)) (.bool (p || r)) := fun ρ ok _ _ _ _ _ w => by
  have h1 := ok (.tmp t) _ ha
  have h2 := ok (.const (.bool true)) _ rfl
  simp only [execOp, ok _ _ hc, h1, h2, asBool, Bind.bind, run_bind, Pure.pure, Sem.run]
  cases p with
  | true => simp
  | false => simp [gv_true (hG rfl)]

/-- a byte of a string -/
theorem op_indexS {T : TypeId} {s : ByteArray} {i : Int} {k : IntKind} [h : TU P T .string] (hy : ev E y = some (.string s)) (hz : ev E z = some (.int k i)) (h0 : 0 ≤ i) (hi : i.toNat < s.size) : PureOp P E (.index T y z) (.int .u8 (s[i.toNat].toNat : Int)) := fun ρ ok _ _ _ _ _ w => by
  have hb : s[i.toNat]? = some s[i.toNat] := by simp [hi]
  simp only [execOp, ok _ _ hy, ok _ _ hz, Instr.index, asIntOf, Bind.bind, run_bind, run_underlying' h.eq, Pure.pure, Sem.run, h0, if_true, hb]
end

/-! ### Assertions: all of a list found, the rest dropped -/
theorem Ents.cons {As R Bs : List Assn} {B : Assn} (h : Tk As B R) (k : Ent R Bs) : Ent As (B :: Bs) := Ent.trans h (Ent.cons B k)
theorem Ents.drop {A : Assn} {As Bs : List Assn} (k : Ent As Bs) : Ent (A :: As) Bs := Ent.trans (Ent.drop A As) k

section
variable {x : Cx} {Q : Exit → Act → World → Prop} {K : Act → World → Prop} {E : Env} {As : List Assn} {c1 c2 : Code}
theorem W.cond_b {o : Operand} {b : Bool} (hb : ev E o = some (.bool b)) (ht : b = true → W x Q c1 E As) (hf : b = false → W x Q c2 E As) : W x Q (.cond o c1 c2) E As := W.cond hb ht hf
theorem F.fact {p : Prop} (k : p → F x K E As) : F x K E (Sl.fact p :: As) := fun D a w hl r st => k st.fact D a w hl r st.tail
theorem F.addFact {p : Prop} (hp : p) (k : F x K E (Sl.fact p :: As)) : F x K E As := fun D a w hl r st => k D a w hl r (st.factI hp)
theorem F.ex {α : Type} {A : α → Assn} (k : ∀ y, F x K E (A y :: As)) : F x K E (exA A :: As) := fun D a w hl r st =>
  let ⟨y, st'⟩ := st.ex
  k y D a w hl r st'
theorem F.star {Cs : List Assn} (k : F x K E (Cs ++ As)) : F x K E (starA Cs :: As) := fun D a w hl r st => k D a w hl r st.star
end

/-- an owned block among the assertions, by its number -/
class OwnO (As : List Assn) (b : Nat) (o : outParam Obj) (R : outParam (List Assn)) : Prop where
  perm : As.Perm (own b o :: R)
instance OwnO.here {As : List Assn} {b : Nat} {o : Obj} : OwnO (own b o :: As) b o As := ⟨.refl _⟩
instance (priority := low) OwnO.there {A : Assn} {As R : List Assn} {b : Nat} {o : Obj} [h : OwnO As b o R] : OwnO (A :: As) b o (A :: R) :=
  ⟨(h.perm.cons A).trans (List.Perm.swap _ _ _)⟩

/-! ### A loop, a part of the frame and of the assertions not touched -/
section
variable {x : Cx} {Q : Exit → Act → World → Prop} {E : Env} {As Ac : List Assn} {c : Code}
theorem W.loopC {ι : Type} (Ec : Env) (_ : Sub E Ec) (EI : ι → Env) (AI : ι → List Assn) (ok : ι → Prop) (μ : ι → Nat) (i0 : ι) (h0 : ok i0) (hE : Sub E (EI i0 ++ Ec)) (hA : Tks As (AI i0) Ac)
    (round : ∀ i, ok i → W x (Exit.then (Again x (fun j => EI j ++ Ec) (fun j => AI j ++ Ac) (fun j => ok j ∧ μ j < μ i)) Q) c (EI i ++ Ec) (AI i ++ Ac)) : W x Q (.loop c) E As :=
  W.loop (fun j => EI j ++ Ec) (fun j => AI j ++ Ac) ok μ (F.again i0 h0 hE hA) round
end
end Go.Sl
