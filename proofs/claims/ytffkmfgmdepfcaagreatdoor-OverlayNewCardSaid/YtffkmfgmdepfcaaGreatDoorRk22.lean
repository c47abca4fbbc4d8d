/- Regions that draw their order are walked by their plan. -/
import Derived.Test.YtffkmfgmdepfcaaGreatDoorRk21
set_option linter.unusedSimpArgs false
set_option linter.unusedVariables false
set_option linter.unusedSectionVars false
namespace Go.Rk
open Go.Sl (opR opR_mono opR_wp run_bind takeOk sinkOk takeOk_spec sinkOk_spec wpAnyC opC wpAnyC_first wpAnyC_mono YieldsC)
open Go.RowKit
variable [Sym]

/-- a read that was taken first: by which frame, what it yielded -/
structure Kx where
  k : Kp
  a : Act
  u : Value

def Cls (P : Program) (ks : List Kx) (j : Nat) (w w' : World) : Prop := ∀ k ∈ ks, k.k.Z.contains j = false → PW P k.a.eval k.k.o k.u w → PW P k.a.eval k.k.o k.u w'
def KI (p : Pl) (ks : List Kx) : Prop := ∀ k ∈ ks, VR p k.k.v k.u ∧ OE p k.k.e k.a.eval ∧ readsMem k.k.o = some true
theorem KI.mono {p q : Pl} {ks : List Kx} (h : KI p ks) (hl : Pl.le p q) : KI q ks := fun k hk => ⟨(h k hk).1.mono hl, fun x v hx => ((h k hk).2.1 x v hx).mono hl, (h k hk).2.2⟩

/-- a pending block -/
structure PF (P : Program) (ops : Array Oper) (n B0 : Nat) (Fr : Nat → Option Obj) (listed : Array Bool) (is : List Nat) (a0 : Act) (f : Pnd) : Prop where
  o : ∃ o, ops[f.i]? = some o ∧ floatOp o.op = true ∧ o.guard = none ∧ o.dst = some f.d ∧ (∀ ob mk, Makes P a0.eval o.op ob mk → ob = f.ob ∧ mk f.b = f.v) ∧ (∀ e ∈ o.after, Region.binds .any e = true → (listAll listed is).getD e.on false = true)
  d : f.d < n
  un : listed.getD f.i true = false
  base : B0 ≤ f.b
  fr : Fr f.b = none
def PP (ops : Array Oper) (f g : Pnd) : Prop := f.i ≠ g.i ∧ f.b ≠ g.b ∧ f.d ≠ g.d ∧ ∀ o o', ops[f.i]? = some o → ops[g.i]? = some o' → f.d ∉ o'.looksAt ops ∧ g.d ∉ o.looksAt ops

def cnt (pl : Plan) (F : List Pnd) : Nat := (pl.filter fun q => !F.any fun f => f.i == q.1).length

section
variable {P : Program} {c : Cfg} {n : Nat} {B0 : Nat} {w0 : World} {Fr : Nat → Option Obj}

theorem keeps_pw {ks : List Kx} {s : S} {j : Nat} {p : Pl} {w : World} {Fr : Nat → Option Obj} (ht : TabOk P c.tb) (hk : KI p ks) (hs : Sim B0 w0 Fr p s w) (h : keepsOk c.tb s j (ks.map (·.k)) = true) : ∀ k ∈ ks, k.k.Z.contains j = false → PW P k.a.eval k.k.o k.u w := by
  induction ks with
  | nil => intro k hk'; cases hk'
  | cons k0 ks ih =>
    intro k hmem hz
    simp only [List.map_cons, keepsOk] at h
    rcases List.mem_cons.1 hmem with rfl | hmem
    · rw [hz] at h
      simp only at h
      obtain ⟨h1, h2, h3⟩ := hk k (by simp)
      split at h
      · rename_i v' s2 he
        split at h
        · rename_i hev
          obtain ⟨_, u', hv', hq⟩ := exOp_quiet (a := k.a) ht h3 hs h2 he
          rw [eqV_det hev h1 hv']
          exact hq.1
        · cases h
      · cases h
    · refine ih (fun k hk' => hk k (List.mem_cons_of_mem _ hk')) ?_ k hmem hz
      split at h
      · exact h
      · split at h
        · split at h
          · exact h
          · cases h
        · cases h

theorem mayFloat_spec {ops : List Oper} {ks : List Kp} {e : En} {s : S} : ∀ {z : List Nat}, mayFloat c.tb ops ks e s z = true → ∀ j ∈ z, keepsOk c.tb s j ks = true ∧ ∃ o v s', nth ops j = some o ∧ exOp c.tb e s o.op = some (.val v s')
  | [], _, j, hj => by cases hj
  | i :: z, h, j, hj => by
    simp only [mayFloat] at h
    split at h
    · cases h
    · rename_i hk
      split at h
      · cases h
      · rename_i o ho
        split at h
        · rename_i v s' he
          rcases List.mem_cons.1 hj with rfl | hj
          · exact ⟨hk, o, v, s', ho, he⟩
          · exact mayFloat_spec h j hj
        · cases h

theorem Sim.frame_eq {p : Pl} {s : S} {w : World} {Fr Fr' : Nat → Option Obj} (hs : Sim B0 w0 Fr p s w) (h1 : ∀ b o, Fr' b = some o → w.heap[b]? = some o) (h2 : ∀ b, Fr b = none → (∃ i oi S bo, Live s i oi ∧ p i = some (b, bo, S)) → Fr' b = none) : Sim B0 w0 Fr' p s w :=
  ⟨fun id o hi => let ⟨a, b, S, hp, hor, hB, hF⟩ := hs.live id o hi; ⟨a, b, S, hp, hor, hB, h2 a hF ⟨id, o, S, b, hi, hp⟩⟩, hs.fresh, hs.inj, h1, hs.below, hs.low⟩

theorem planOk_unlisted {ops : Array Oper} : ∀ {pl : Plan} {listed : Array Bool}, planOk ops pl listed = true → ∀ q ∈ pl, listed.getD q.1 true = false
  | [], _, _, q, hq => by cases hq
  | (i, qq, z) :: pl, listed, h, q, hq => by
    simp only [planOk, Bool.and_eq_true] at h
    rcases List.mem_cons.1 hq with rfl | hq
    · have := h.1
      simp only [stepOk, Bool.and_eq_true] at this
      exact ((mem_ready (md := .any) (ops := ops)).1 (by simpa using this.1)).1
    · have := planOk_unlisted h.2 q hq
      rw [getD_set] at this
      split at this
      · cases this
      · exact this

theorem ready_eq {ops : Array Oper} {listed : Array Bool} {j : Nat} : j ∈ Region.ready .any ops listed ↔ listed.getD j true = false ∧ ∃ o, ops[j]? = some o ∧ ∀ e ∈ o.after, Region.binds .any e = true → listed.getD e.on false = true := mem_ready
end
end Go.Rk
