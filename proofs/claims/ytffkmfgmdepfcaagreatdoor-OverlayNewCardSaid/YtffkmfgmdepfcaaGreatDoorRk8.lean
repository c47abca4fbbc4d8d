/- The reckoner's operations that reckon addresses, and those that read memory. -/
import Derived.Test.YtffkmfgmdepfcaaGreatDoorRk7
set_option linter.unusedSimpArgs false
set_option linter.unusedVariables false
set_option linter.unusedSectionVars false
namespace Go.Rk
open Go.Sl (run_bind run_underlying' run_sizeOf run_zeroValue run_isAgg add_mk run_loadVar1 run_loadVarA)
open Go.RowKit
variable [Sym]

section
variable {P : Program} {tb : Tab} {p : Pl} {a : Act} {e : En} {x y : Operand} {va vb r : AV} {T U : TypeId}

theorem indexAddr_ok (htb : ∀ T t, tb.tys.get T = some t → TyOk P T t) (hx : opd e x = some va) (hy : opd e y = some vb) (ha : VR p va (a.eval x)) (hb : VR p vb (a.eval y)) (h : oIndexAddr tb T va vb = some r) :
    ∃ u, VR p r u ∧ PR P a.eval (.indexAddr T x y) u := by
  unfold oIndexAddr at h
  obtain ⟨k, hk, h1⟩ := ob_some h
  obtain ⟨t, ht, h2⟩ := ob_some h1
  clear h h1
  obtain ⟨kk, hbv⟩ := asN_ok hk hb
  obtain ⟨d, hd, hm⟩ := (htb _ _ ht).und
  split at h2 <;> first | (cases h2; done) | skip
  · rename_i n el id off hkd
    rw [hkd] at hm
    simp only [tkM] at hm
    subst hm
    cases hlt : Nat.blt k n with
    | false => rw [hlt] at h2; cases h2
    | true =>
      rw [hlt] at h2
      obtain ⟨te, hte, h3⟩ := ob_some h2
      obtain rfl := Option.some.inj h3
      have hlt' : k < n := by simpa [Nat.blt_eq] using hlt
      simp only [VR] at ha
      obtain ⟨b, bo, S, hp, ha⟩ := ha
      refine ⟨.pointer (some ⟨b, bo + (off + k * te.size), none⟩), by simp only [VR]; exact ⟨b, bo, S, hp, rfl⟩, fun dst t pos after g w => ?_⟩
      have h0 : (0 : Int) ≤ (k : Int) ∧ (k : Int) < (n : Int) := ⟨Int.natCast_nonneg k, Int.ofNat_lt.2 hlt'⟩
      simp only [execOp, ha, hbv, Instr.indexAt, Instr.sureAddr, asIntOf, Bind.bind, run_bind, run_underlying' hd, Pure.pure, Sem.run, h0, and_self, if_true, Int.toNat_natCast, run_sizeOf (htb _ _ hte).size, add_mk, Nat.add_assoc]
  · rename_i el id off n c hkd
    rw [hkd] at hm
    simp only [tkM] at hm
    subst hm
    cases hlt : Nat.blt k n with
    | false => rw [hlt] at h2; cases h2
    | true =>
      rw [hlt] at h2
      obtain ⟨te, hte, h3⟩ := ob_some h2
      obtain rfl := Option.some.inj h3
      have hlt' : k < n := by simpa [Nat.blt_eq] using hlt
      simp only [VR] at ha
      obtain ⟨b, bo, S, hp, ha⟩ := ha
      refine ⟨.pointer (some ⟨b, bo + (off + k * te.size), none⟩), by simp only [VR]; exact ⟨b, bo, S, hp, rfl⟩, fun dst t pos after g w => ?_⟩
      have h0 : (0 : Int) ≤ (k : Int) ∧ (k : Int) < (n : Int) := ⟨Int.natCast_nonneg k, Int.ofNat_lt.2 hlt'⟩
      simp only [execOp, ha, hbv, Instr.indexAt, Instr.sureAddr, asIntOf, Bind.bind, run_bind, run_underlying' hd, Pure.pure, Sem.run, h0, and_self, if_true, Int.toNat_natCast, run_sizeOf (htb _ _ hte).size, add_mk, Nat.add_assoc]
  · rename_i el id off n z po hkd
    rw [hkd] at hm
    simp only [tkM] at hm
    subst hm
    cases hlt : Nat.blt k n with
    | false => rw [hlt] at h2; cases h2
    | true =>
      rw [hlt] at h2
      obtain ⟨te, hte, h3⟩ := ob_some h2
      cases hz : Nat.beq te.size z with
      | false => rw [hz] at h3; cases h3
      | true =>
        rw [hz] at h3
        have hz' := Nat.eq_of_beq_eq_true hz
        subst hz'
        obtain rfl := Option.some.inj h3
        have hlt' : k < n := by simpa [Nat.blt_eq] using hlt
        simp only [VR] at ha
        obtain ⟨b, bo, S, hp, hz0, hS, ha⟩ := ha
        have hcap : (S - off) / te.size ≠ 0 := by
          have h1 : 1 * te.size ≤ n * te.size := Nat.mul_le_mul_right _ (by omega)
          have h2 : te.size ≤ S - off := by omega
          have := Nat.div_pos h2 hz0
          omega
        simp only [hcap, if_false] at ha
        refine ⟨.pointer (some ⟨b, bo + (off + k * te.size), none⟩), by simp only [VR]; exact ⟨b, bo, S, hp, rfl⟩, fun dst t pos after g w => ?_⟩
        have h0 : (0 : Int) ≤ (k : Int) ∧ (k : Int) < (n : Int) := ⟨Int.natCast_nonneg k, Int.ofNat_lt.2 hlt'⟩
        simp only [execOp, ha, hbv, Instr.indexAt, Instr.sureAddr, asIntOf, Bind.bind, run_bind, run_underlying' hd, Pure.pure, Sem.run, h0, and_self, if_true, Int.toNat_natCast, run_sizeOf (htb _ _ hte).size, add_mk, Nat.add_assoc]

/-- .. in this world -/
def PW (P : Program) (ρ : Operand → Value) (op : Op) (u : Value) (w : World) : Prop :=
  ∀ dst t pos after g, (execOp ρ ⟨dst, op, t, pos, after, g⟩).run P w = .ok (.value u) w
theorem PR.pw {ρ : Operand → Value} {op : Op} {u : Value} (h : PR P ρ op u) (w : World) : PW P ρ op u w := fun dst t pos after g => h dst t pos after g w

variable {B0 : Nat} {w0 : World} {Fr : Nat → Option Obj} {s : S} {w : World}

theorem loadV_ok (htb : ∀ T t, tb.tys.get T = some t → TyOk P T t) (hs : Sim B0 w0 Fr p s w) {u : Value} (ha : VR p va u) (h : load tb s T va = some r) : ∃ b o v, u = .pointer (some ⟨b, o, none⟩) ∧ VR p r v ∧ (loadVar T ⟨b, o, none⟩).run P w = .ok v w := by
  unfold load at h
  split at h <;> first | (cases h; done) | skip
  rename_i id off
  obtain ⟨t, ht, h1⟩ := ob_some h
  clear h
  have hT := htb _ _ ht
  have htl := hT.tl
  simp only [VR] at ha
  obtain ⟨b, bo, S, hp, ha⟩ := ha
  cases hag : t.k.agg with
  | true =>
    rw [hag] at h1 htl
    obtain ⟨us, hr, h2⟩ := ob_some h1
    obtain rfl := Option.some.inj h2
    obtain ⟨b', bo', S', vs, hp', _, hvs, hlen, hc⟩ := hs.read hr
    rw [hp] at hp'; cases hp'
    rw [← hlen] at htl
    exact ⟨_, _, .agg vs.toArray, ha, by simp only [VR]; exact ⟨vs, rfl, hvs⟩, run_loadVarA htl fun j v hv => by rw [add_mk]; exact hc j v hv⟩
  | false =>
    rw [hag] at h1 htl
    obtain ⟨b', bo', S', v, hp', hv, hc⟩ := hs.read1 h1
    rw [hp] at hp'; cases hp'
    exact ⟨_, _, v, ha, hv, run_loadVar1 htl hc⟩
theorem load_ok (htb : ∀ T t, tb.tys.get T = some t → TyOk P T t) (hs : Sim B0 w0 Fr p s w) (ha : VR p va (a.eval x)) (h : load tb s T va = some r) : ∃ u, VR p r u ∧ PW P a.eval (.load T x) u w := by
  obtain ⟨b, o, v, hu, hv, hr⟩ := loadV_ok htb hs ha h
  refine ⟨v, hv, fun dst t pos after g => ?_⟩
  simp only [execOp, hu, Instr.loadAt, Instr.sureAddr, Bind.bind, run_bind, Pure.pure, Sem.run, hr]
end
end Go.Rk
