/- Regions: operations one by one. -/
import Derived.Test.YtffkmfgmdepfcaaGreatDoorRk19
import Derived.LoopN
set_option linter.unusedSimpArgs false
set_option linter.unusedVariables false
set_option linter.unusedSectionVars false
namespace Go.Rk
open Go.Sl (opR opR_mono opR_wp run_bind)
open Go.RowKit
variable [Sym]

/-- what an operation leaves -/
def Out (B0 : Nat) (w0 : World) (Fr : Nat → Option Obj) (p : Pl) (v : AV) (s' : S) (u : Value) (w' : World) : Prop := ∃ p', Pl.le p p' ∧ Sim B0 w0 Fr p' s' w' ∧ VR p' v u

/-- calls that are known are calls of the program -/
def CallOk (P : Program) (call : CallR) : Prop := ∀ f args s v s', call f args s = some (v, s') → Sl.HasBody P f ∧ ∀ B0 w0 Fr p w vs, Sim B0 w0 Fr p s w → VRs p args vs → Calls P f vs.toArray w (fun en w' => ∃ u, en = .returned u ∧ Out B0 w0 Fr p v s' u w')

section
variable {P : Program} {tb : Tab} {p : Pl} {a : Act} {e : En} {v : AV} {n : Nat} {call : CallR}
variable {B0 : Nat} {w0 : World} {Fr : Nat → Option Obj} {s s' : S} {w : World}

theorem exR_ok {op : Op} (ht : TabOk P tb) (hc : CallOk P call) (hs : Sim B0 w0 Fr p s w) (hoe : OE p e a.eval) (h : exR call s (exOp tb e s op) = some (v, s')) (dst : Option Tmp) (t : TypeId) (pos : String) (after : Array Edge) (g : Option (Nat × Bool)) :
    opR P ⟨dst, op, t, pos, after, g⟩ a w (Out B0 w0 Fr p v s') := by
  unfold exR at h
  obtain ⟨r, h1, h2⟩ := ob_some h
  cases r with
  | val v' s2 =>
    have h3 : some (v', s2) = some (v, s') := h2
    simp only [Option.some.injEq, Prod.mk.injEq] at h3
    obtain ⟨rfl, rfl⟩ := h3
    obtain ⟨nx, u, w', p', hr, hnx, hle, hs', hv⟩ := exOp_ok ht hs hoe h1 dst t pos after g
    unfold opR
    rw [hr]
    rcases hnx with rfl | ⟨rfl, rfl⟩
    · exact ⟨p', hle, hs', hv⟩
    · exact ⟨p', hle, hs', hv⟩
  | call f args =>
    have h3 : call f args s = some (v, s') := h2
    obtain ⟨hb, hcall⟩ := hc f args s v s' h3
    obtain ⟨vs, hvs, hr⟩ := exOp_call ht hb hoe h1
    unfold opR
    rw [hr dst t pos after g w]
    exact (hcall B0 w0 Fr p w vs hs hvs).mono fun en w' ⟨u, he, ho⟩ => ⟨u, he, ho⟩

theorem asB_bool {u : Value} {b : Bool} (h : VR p (.bool b) u) : Sl.asB u = some b := by simp only [VR] at h; subst h; rfl

theorem yielded_asB {ops : Array Oper} {a : Act} {j d : Nat} (hj : (ops[j]?).bind (·.dst) = some d) : yielded ops a.tmps j = Sl.asB (a.tmps.getD d undef) := by
  unfold yielded
  rw [hj]
  simp only [Option.bind_some]
  cases ht : a.tmps[d]? with
  | none =>
    simp [Array.getD_eq_getD_getElem?, ht, undef]
    rfl
  | some u' =>
    simp only [Array.getD_eq_getD_getElem?, ht, Option.getD_some]
    cases u' <;> rfl

theorem nth_dst {l : List Oper} {j : Nat} {o : Oper} (h : nth l j = some o) : (l.toArray[j]?).bind (·.dst) = o.dst := by
  rw [nth_eq] at h
  simp [h]

theorem wanted_ok {ops : List Oper} {o : Oper} {b : Bool} (hr : RE p n e a) (h : wantedO ops e o.guard = some b) : Region.wanted o (yielded ops.toArray a.tmps) = b := by
  unfold Region.wanted
  unfold wantedO at h
  cases hg : o.guard with
  | none => rw [hg] at h; simpa using h
  | some q =>
    obtain ⟨j, want⟩ := q
    rw [hg] at h
    simp only at h ⊢
    obtain ⟨oj, h1, h2⟩ := ob_some h
    cases hd : oj.dst with
    | none => rw [hd] at h2; cases h2
    | some d =>
      rw [hd] at h2
      simp only at h2
      rw [yielded_asB (d := d) ((nth_dst h1).trans hd)]
      have hv := hr.get d
      generalize a.tmps.getD d undef = u at hv ⊢
      generalize hx : tmpV e d = x at h2 hv
      split at h2
      · simp only [Option.some.injEq] at h2
        rw [asB_bool hv, ← h2]
        cases want <;> rfl
      · simp only [Option.some.injEq] at h2
        rw [asB_bool hv, ← h2]
        cases want <;> rfl
      · rename_i hn1 hn2
        simp only [Option.some.injEq] at h2
        subst h2
        have : Sl.asB u = none := by
          cases x <;> simp only [VR] at hv <;> first
            | (exfalso; rename_i bb; cases bb; exact hn2 rfl; exact hn1 rfl)
            | (subst hv; rfl)
            | (obtain ⟨_, hv, _⟩ := hv; subst hv; rfl)
            | (obtain ⟨_, _, _, _, hv⟩ := hv; subst hv; rfl)
            | (obtain ⟨_, _, _, _, _, _, hv⟩ := hv; subst hv; rfl)
            | (obtain ⟨_, _, hv, _⟩ := hv; subst hv; rfl)
        rw [this]
        rfl

/-- the exit that is told -/
def exitOf : Ex → Exit
  | .nrm => .normal
  | .ret => .ret
  | .exit id => .exit id

/-- what must hold at the end -/
def Fin (B0 : Nat) (w0 : World) (Fr : Nat → Option Obj) (p : Pl) (n : Nat) (r : Ex × En × S) (Q : Exit → Act → World → Prop) : Prop :=
  ∀ a' w' p', Pl.le p p' → RE p' n r.2.1 a' → Sim B0 w0 Fr p' r.2.2 w' → Q (exitOf r.1) a' w'

theorem Fin.mono {q : Pl} {r : Ex × En × S} {Q : Exit → Act → World → Prop} (h : Fin B0 w0 Fr p n r Q) (hl : Pl.le p q) : Fin B0 w0 Fr q n r Q := fun a' w' p' hle hr hs => h a' w' p' (Pl.le_trans hl hle) hr hs

/-- destinations lie in the frame -/
def dstOk (n : Nat) (o : Oper) : Bool := match o.dst with
  | none => true
  | some d => Nat.blt d n
theorem dstOk_lt {o : Oper} (h : dstOk n o = true) : ∀ k, o.dst = some k → k < n := fun k hk => by
  unfold dstOk at h
  rw [hk] at h
  simpa [Nat.blt_eq] using h

theorem exL_ok {c : Cfg} {ops : List Oper} {Q : Exit → Act → World → Prop} (ht : TabOk P c.tb) (hc : CallOk P c.call) : ∀ {l : List Oper} {e : En} {s : S} {a : Act} {w : World} {p : Pl} {r : En × S}, exL c ops l e s = some r → (l.all (dstOk n)) = true → RE p n e a → Sim B0 w0 Fr p s w →
    Fin B0 w0 Fr p n (.nrm, r) Q → wpList P ops.toArray Q l a w
  | [], e, s, a, w, p, r, h, _, hr, hs, hf => by
    have h1 : some (e, s) = some r := h
    simp only [Option.some.injEq] at h1
    subst h1
    exact hf a w p (Pl.le_refl p) hr hs
  | o :: l, e, s, a, w, p, r, h, hd, hr, hs, hf => by
    obtain ⟨⟨e1, s1⟩, h1, h2⟩ := ob_some (show ob (exO1 c ops o e s) (fun r => exL c ops l r.1 r.2) = some r from h)
    simp only [List.all_cons, Bool.and_eq_true] at hd
    obtain ⟨b, hb, h3⟩ := ob_some (show ob (wantedO ops e o.guard) _ = _ from h1)
    have hw := wanted_ok hr hb
    have hdl := dstOk_lt hd.1
    unfold wpList
    cases b with
    | false =>
      have h4 : some (putT e o.dst (.tup []), s) = some (e1, s1) := h3
      simp only [Option.some.injEq, Prod.mk.injEq] at h4
      obtain ⟨rfl, rfl⟩ := h4
      rw [if_neg (by simp [hw])]
      exact exL_ok ht hc h2 hd.2 (hr.put (undefVR p) hdl) hs hf
    | true =>
      obtain ⟨⟨v, s2⟩, h4, h5⟩ := ob_some (show ob (exR c.call s (exOp c.tb e s o.op)) _ = _ from h3)
      simp only [Option.some.injEq, Prod.mk.injEq] at h5
      obtain ⟨rfl, rfl⟩ := h5
      rw [if_pos hw]
      refine .inl (opR_wp (opR_mono (exR_ok ht hc hs hr.oe h4 o.dst o.type o.pos o.after o.guard) fun u w' ⟨p', hle, hs', hv⟩ => ?_))
      exact exL_ok ht hc h2 hd.2 ((hr.mono hle).put hv hdl) hs' (hf.mono hle)
end
end Go.Rk
