/- The reckoner's slices of slices, literals. -/
import Derived.Test.YtffkmfgmdepfcaaGreatDoorRk8
import Derived.Test.YtffkmfgmdepfcaaGreatDoorSl9
set_option linter.unusedSimpArgs false
set_option linter.unusedVariables false
set_option linter.unusedSectionVars false
namespace Go.Rk
open Go.Sl (run_bind run_underlying' run_sizeOf run_zeroValue run_isAgg add_mk run_loadVar1 run_loadVarA)
open Go.RowKit
variable [Sym]

section
variable {P : Program} {tb : Tab} {p : Pl} {a : Act} {e : En} {x y : Operand} {va vb r : AV} {T U : TypeId}

theorem bound_ok {v : Operand} {n m : Nat} {code : BoundsCode} (hoe : OE p e a.eval) (h : ob (opd e v) asN = some n) (hle : n ≤ m) (w : World) : (Instr.sliceBound (a.eval v) m code).run P w = .ok n w := by
  obtain ⟨av, h1, h2⟩ := ob_some h
  obtain ⟨k, hk⟩ := asN_ok h2 (hoe _ _ h1)
  have h0 : (0 : Int) ≤ (n : Int) ∧ (n : Int) ≤ (m : Int) := ⟨Int.natCast_nonneg n, Int.ofNat_le.2 hle⟩
  simp only [Instr.sliceBound, hk, asIntOf, Bind.bind, run_bind, Pure.pure, Sem.run, h0, and_self, if_true, Int.toNat_natCast]

theorem bnds_ok {n c l h : Nat} {lo hi : Option Operand} {isS : Bool} (hoe : OE p e a.eval) (hb : bnds e n c lo hi = some (l, h)) : l ≤ h ∧ h ≤ c ∧ ∀ c', c ≤ c' → ∀ w, (Instr.sliceBounds isS n c' (lo.map a.eval) (hi.map a.eval) none).run P w = .ok (l, h, c') w := by
  unfold bnds at hb
  obtain ⟨h', h1, hb1⟩ := ob_some hb
  obtain ⟨l', h2, hb2⟩ := ob_some hb1
  cases hc : Nat.ble h' c && Nat.ble l' h' with
  | false => rw [hc] at hb2; cases hb2
  | true =>
    rw [hc] at hb2
    have := Option.some.inj hb2
    simp only [Prod.mk.injEq] at this
    obtain ⟨rfl, rfl⟩ := this
    simp only [Bool.and_eq_true] at hc
    have hle1 := Nat.le_of_ble_eq_true hc.1
    have hle2 := Nat.le_of_ble_eq_true hc.2
    refine ⟨hle2, hle1, fun c' hcc w => ?_⟩
    replace hle1 := Nat.le_trans hle1 hcc
    unfold Instr.sliceBounds
    cases hi with
    | none =>
      have e1 : n = h' := Option.some.inj h1
      subst e1
      cases lo with
      | none =>
        have e2 : 0 = l' := Option.some.inj h2
        subst e2
        simp only [Option.map_none, Bind.bind, run_bind, Pure.pure, Sem.run]
      | some lo =>
        simp only [Option.map_none, Option.map_some, Bind.bind, run_bind, Pure.pure, Sem.run, bound_ok hoe h2 hle2]
    | some hi =>
      cases lo with
      | none =>
        have e2 : 0 = l' := Option.some.inj h2
        subst e2
        simp only [Option.map_none, Option.map_some, Bind.bind, run_bind, Pure.pure, Sem.run, bound_ok hoe h1 hle1]
      | some lo =>
        simp only [Option.map_none, Option.map_some, Bind.bind, run_bind, Pure.pure, Sem.run, bound_ok hoe h1 hle1, bound_ok hoe h2 hle2]

theorem slcX_str {s : ByteArray} {q : List Nat} {l h : Nat} (hq : slcX (s.data.toList.map (·.toNat)) l (h - l) = some q) : (s.extract l h).data.toList.map (·.toNat) = q := by
  have key : ∀ (m : List Nat) (o n : Nat) (q : List Nat), slcX m o n = some q → q = (m.drop o).take n := by
    intro m o n q hq
    have tk : ∀ (n : Nat) (m q : List Nat), takeX n m = some q → q = m.take n := by
      intro n
      induction n with
      | zero => intro m q h; simp only [takeX, Option.some.injEq] at h; simp [← h]
      | succ n ih =>
        intro m q h
        cases m with
        | nil => simp [takeX] at h
        | cons a m =>
          simp only [takeX] at h
          obtain ⟨q', h1, h2⟩ := ob_some h
          simp only [Option.some.injEq] at h2
          rw [← h2, ih _ _ h1]; rfl
    have dk : ∀ (n : Nat) (m q : List Nat), dropX n m = some q → q = m.drop n := by
      intro n
      induction n with
      | zero => intro m q h; simp only [dropX, Option.some.injEq] at h; simp [← h]
      | succ n ih =>
        intro m q h
        cases m with
        | nil => simp [dropX] at h
        | cons a m => simp only [dropX] at h; rw [ih _ _ h]; rfl
    obtain ⟨d, h1, h2⟩ := ob_some hq
    rw [tk _ _ _ h2, dk _ _ _ h1]
  rw [key _ _ _ _ hq, ByteArray.data_extract]
  simp [List.take_drop, List.map_take, List.map_drop]

theorem slice_ok {lo hi : Option Operand} (htb : ∀ T t, tb.tys.get T = some t → TyOk P T t) (hoe : OE p e a.eval) (ha : VR p va (a.eval x)) (h : oSlice tb e T va lo hi = some r) : ∃ u, VR p r u ∧ PR P a.eval (.slice T x lo hi none) u := by
  unfold oSlice at h
  obtain ⟨t, ht, h1⟩ := ob_some h
  clear h
  obtain ⟨d, hd, hm⟩ := (htb _ _ ht).und
  split at h1 <;> first | (cases h1; done) | skip
  · rename_i l hk
    rw [hk] at hm; simp only [tkM] at hm; subst hm
    obtain ⟨⟨lo', hi'⟩, hb, h2⟩ := ob_some h1
    obtain ⟨q, hq, h3⟩ := ob_some h2
    obtain rfl := Option.some.inj h3
    simp only [VR] at ha
    obtain ⟨s, ha, hs⟩ := ha
    subst hs
    rw [List.length_map, Array.length_toList] at hb
    obtain ⟨_, _, hrun⟩ := bnds_ok (P := P) (isS := false) hoe hb
    have hrun' : ∀ w, (Instr.sliceBounds false s.size s.size (lo.map a.eval) (hi.map a.eval) none).run P w = .ok (lo', hi', s.size) w := hrun _ (Nat.le_refl _)
    refine ⟨.string (s.extract lo' hi'), by simp only [VR]; exact ⟨_, rfl, slcX_str hq⟩, fun dst t pos after g w => ?_⟩
    simp only [execOp, ha, Instr.sliceAt, Instr.slice, Option.map_none, Bind.bind, run_bind, run_underlying' hd, Option.isSome_none, Bool.false_eq_true, if_false, Pure.pure, Sem.run, hrun']
  · rename_i el id off n c hk
    rw [hk] at hm; simp only [tkM] at hm; subst hm
    obtain ⟨⟨l, h⟩, hb, h2⟩ := ob_some h1
    obtain ⟨te, hte, h3⟩ := ob_some h2
    obtain rfl := Option.some.inj h3
    simp only [VR] at ha
    obtain ⟨b, bo, S, hp, ha⟩ := ha
    obtain ⟨h1', h2', hrun⟩ := bnds_ok (P := P) (isS := true) hoe hb
    refine ⟨.slice (some ⟨b, bo + advance l c off te.size, none⟩) (h - l) (c - l), by simp only [VR]; exact ⟨b, bo, S, hp, rfl⟩, fun dst t pos after g w => ?_⟩
    simp only [execOp, ha, Instr.sliceAt, Instr.slice, Option.map_none, Bind.bind, run_bind, run_underlying' hd, Pure.pure, Sem.run, hrun _ (Nat.le_refl _), run_sizeOf (htb _ _ hte).size]
    by_cases hcl : c = l
    · subst hcl
      simp [advance]
    · have : Nat.beq l c = false := by
        cases hb : Nat.beq l c with
        | false => rfl
        | true => exact absurd (Nat.eq_of_beq_eq_true hb).symm hcl
      simp [hcl, advance, this, add_mk, Nat.add_assoc]
  · rename_i el id off n z po hk
    rw [hk] at hm; simp only [tkM] at hm; subst hm
    obtain ⟨⟨l, h⟩, hb, h2⟩ := ob_some h1
    obtain ⟨te, hte, h3⟩ := ob_some h2
    cases hz : Nat.beq te.size z with
    | false => rw [hz] at h3; cases h3
    | true =>
      rw [hz] at h3
      have hz' := Nat.eq_of_beq_eq_true hz
      subst hz'
      obtain rfl := Option.some.inj h3
      simp only [VR] at ha
      obtain ⟨b, bo, S, hp, hz0, hS, ha⟩ := ha
      obtain ⟨h1', h2', hrun⟩ := bnds_ok (P := P) (isS := true) hoe hb
      have hcap : n ≤ (S - off) / te.size := by
        rw [Nat.le_div_iff_mul_le hz0]; omega
      have hlz : l * te.size ≤ n * te.size := Nat.mul_le_mul_right _ (by omega)
      have hcap2 : (S - (off + l * te.size)) / te.size = (S - off) / te.size - l := by
        rw [Nat.sub_add_eq, Nat.mul_comm, Nat.sub_mul_div_of_le]
        · rw [Nat.mul_comm]; omega
      refine ⟨.slice (some ⟨b, bo + (if (S - (off + l * te.size)) / te.size = 0 then poOf l po off else off + l * te.size), none⟩) (h - l) ((S - (off + l * te.size)) / te.size), ?_, fun dst t pos after g w => ?_⟩
      · simp only [VR]
        refine ⟨b, bo, S, hp, hz0, ?_, rfl⟩
        have hhz : h * te.size ≤ n * te.size := Nat.mul_le_mul_right _ (by omega)
        have hlh : l * te.size ≤ h * te.size := Nat.mul_le_mul_right _ (by omega)
        rw [Nat.sub_mul]; omega
      · simp only [execOp, ha, Instr.sliceAt, Instr.slice, Option.map_none, Bind.bind, run_bind, run_underlying' hd, Pure.pure, Sem.run, hrun _ hcap, run_sizeOf (htb _ _ hte).size, hcap2]
        clear hrun hlz hS h1 h2 h3
        generalize (S - off) / te.size = C at hcap ⊢
        by_cases hcl : C = l
        · subst hcl
          cases C with
          | zero => simp [poOf]
          | succ C => simp [poOf]
        · have h1 : C - l ≠ 0 := by omega
          cases l with
          | zero => simp [hcl, h1, add_mk, poOf, Nat.add_assoc]
          | succ l =>
            have h2 : C ≠ 0 := by omega
            simp [hcl, h1, h2, add_mk, poOf, Nat.add_assoc]
  · rename_i el hk
    rw [hk] at hm; simp only [tkM] at hm; subst hm
    obtain ⟨⟨l, h⟩, hb, h2⟩ := ob_some h1
    obtain ⟨te, hte, h3⟩ := ob_some h2
    obtain rfl := Option.some.inj h3
    simp only [VR] at ha
    obtain ⟨h1', h2', hrun⟩ := bnds_ok (P := P) (isS := true) hoe hb
    have hl : l = 0 := by omega
    have hh : h = 0 := by omega
    subst hl; subst hh
    refine ⟨.slice none 0 0, by simp only [VR], fun dst t pos after g w => ?_⟩
    simp only [execOp, ha, Instr.sliceAt, Instr.slice, Option.map_none, Bind.bind, run_bind, run_underlying' hd, Pure.pure, Sem.run, hrun _ (Nat.le_refl _), run_sizeOf (htb _ _ hte).size]
    simp
  · rename_i n el id off hk
    rw [hk] at hm; simp only [tkM] at hm; subst hm
    obtain ⟨⟨l, h⟩, hb, h2⟩ := ob_some h1
    obtain ⟨te, hte, h3⟩ := ob_some h2
    obtain rfl := Option.some.inj h3
    simp only [VR] at ha
    obtain ⟨b, bo, S, hp, ha⟩ := ha
    obtain ⟨h1', h2', hrun⟩ := bnds_ok (P := P) (isS := false) hoe hb
    refine ⟨.slice (some ⟨b, bo + advance l n off te.size, none⟩) (h - l) (n - l), by simp only [VR]; exact ⟨b, bo, S, hp, rfl⟩, fun dst t pos after g w => ?_⟩
    simp only [execOp, ha, Instr.sliceAt, Instr.sureAddr, Option.map_none, Bind.bind, run_bind, run_underlying' hd, Pure.pure, Sem.run, hrun _ (Nat.le_refl _), run_sizeOf (htb _ _ hte).size]
    by_cases hcl : n = l
    · subst hcl
      simp [advance]
    · have : Nat.beq l n = false := by
        cases hb : Nat.beq l n with
        | false => rfl
        | true => exact absurd (Nat.eq_of_beq_eq_true hb).symm hcl
      simp [hcl, advance, this, add_mk, Nat.add_assoc]
end
end Go.Rk
