/- The reckoner's operations that reach into values and slices. -/
import Derived.Test.YtffkmfgmdepfcaaGreatDoorRk6
set_option linter.unusedSimpArgs false
set_option linter.unusedVariables false
set_option linter.unusedSectionVars false
namespace Go.Rk
open Go.Sl (run_bind run_underlying' run_sizeOf run_zeroValue run_isAgg)
open Go.RowKit
variable [Sym]

section
variable {P : Program} {tb : Tab} {p : Pl} {a : Act} {e : En} {x y : Operand} {va vb r : AV} {T U : TypeId}

theorem TyOk.tl {t : TI} (h : TyOk P T t) : Sl.TL P T t.k.agg t.size := by
  obtain ⟨d, hd, hk⟩ := h.und
  have hs := h.size
  cases hi : P.info? T with
  | none => rw [hi] at hs; cases hs
  | some i =>
    rw [hi] at hs
    simp only [Option.map_some, Option.some.injEq] at hs
    refine ⟨?_⟩
    have hagg : Sl.aggD d = t.k.agg := by
      cases htk : t.k <;> rw [htk] at hk <;> simp only [tkM] at hk <;> first | (subst hk; rfl) | (obtain ⟨_, hk, _⟩ := hk; subst hk; rfl) | (obtain ⟨_, _, _, hk⟩ := hk; subst hk; rfl) | (obtain ⟨_, hk⟩ := hk; subst hk; rfl) | exact hk.elim
    simp only [Sl.loadShape, hd, hi, hs, hagg]

theorem part_ok {t : TI} {l : List AV} {vs : List Value} {o : Nat} (htb : ∀ T t, tb.tys.get T = some t → TyOk P T t) (hl : VRs p l vs) (h : partO tb T l o = some r) : ∃ u, VR p r u ∧ ∀ w, (part T vs.toArray o).run P w = .ok u w := by
  unfold partO at h
  obtain ⟨t, ht, h1⟩ := ob_some h
  have hT := htb _ _ ht
  have htl := hT.tl
  cases hag : t.k.agg with
  | true =>
    rw [hag] at h1 htl
    obtain ⟨q, hq, h2⟩ := ob_some h1
    obtain rfl := Option.some.inj h2
    have := hl.slcX hq
    refine ⟨.agg ((vs.drop o).take t.size).toArray, by simp only [VR]; exact ⟨_, rfl, this.1⟩, fun w => ?_⟩
    unfold part
    simp only [Bind.bind, run_bind, run_isAgg htl, if_true, run_sizeOf hT.size, Pure.pure, Sem.run]
    congr 2
    simp [List.take_drop, Nat.add_comm]
  | false =>
    rw [hag] at h1 htl
    change nth l o = some r at h1
    rw [nth_eq] at h1
    obtain ⟨v, hv, hr⟩ := hl.get h1
    refine ⟨v, hr, fun w => ?_⟩
    unfold part
    simp only [Bind.bind, run_bind, run_isAgg htl, Bool.false_eq_true, if_false, Pure.pure, Sem.run]
    have : vs.toArray[o]? = some v := by simpa using hv
    rw [this]
    rfl

theorem field_ok {f : Nat} (htb : ∀ T t, tb.tys.get T = some t → TyOk P T t) (hx : opd e x = some va) (ha : VR p va (a.eval x)) (h : oField tb T va f = some r) : ∃ u, VR p r u ∧ PR P a.eval (.field T x f) u := by
  unfold oField at h
  obtain ⟨t, ht, h1⟩ := ob_some h
  clear h
  split at h1 <;> first | (cases h1; done) | skip
  rename_i fs l hk
  obtain ⟨⟨o, ft⟩, hf, h2⟩ := ob_some h1
  obtain ⟨arr, d, hd, hfd, ho, hft⟩ := field_of (htb _ _ ht) hk hf
  subst ho; subst hft
  simp only [VR] at ha
  obtain ⟨vs, ha, hl⟩ := ha
  obtain ⟨u, hu, hr⟩ := part_ok (t := t) htb hl h2
  refine ⟨u, hu, fun dst t pos after g w => ?_⟩
  simp only [execOp, ha, Instr.field, Bind.bind, run_bind, run_underlying' hd, hfd, asAgg, Pure.pure, Sem.run, hr]

theorem asN_ok {n : Nat} {v : AV} {u : Value} (h : asN v = some n) (hv : VR p v u) : ∃ k, u = .int k (n : Int) := by
  unfold asN at h
  split at h <;> first | (cases h; done) | skip
  obtain rfl := Option.some.inj h
  simp only [VR] at hv
  exact ⟨_, hv⟩

theorem index_ok (htb : ∀ T t, tb.tys.get T = some t → TyOk P T t) (hx : opd e x = some va) (hy : opd e y = some vb) (ha : VR p va (a.eval x)) (hb : VR p vb (a.eval y)) (h : oIndex tb T va vb = some r) :
    ∃ u, VR p r u ∧ PR P a.eval (.index T x y) u := by
  unfold oIndex at h
  obtain ⟨k, hk, h1⟩ := ob_some h
  obtain ⟨t, ht, h2⟩ := ob_some h1
  clear h h1
  obtain ⟨kk, hbv⟩ := asN_ok hk hb
  obtain ⟨d, hd, hm⟩ := (htb _ _ ht).und
  split at h2 <;> first | (cases h2; done) | skip
  · rename_i l hkd
    rw [hkd] at hm
    simp only [tkM] at hm
    subst hm
    obtain ⟨c, hc, h3⟩ := ob_some h2
    obtain rfl := Option.some.inj h3
    rw [nth_eq] at hc
    simp only [VR] at ha
    obtain ⟨s, ha, hs⟩ := ha
    refine ⟨_, VR_int p _ _, fun dst t pos after g w => ?_⟩
    subst hs
    simp only [List.getElem?_map, Option.map_eq_some_iff] at hc
    obtain ⟨b, hb1, hb2⟩ := hc
    have hidx : s[k]? = some b := by
      rw [Array.getElem?_toList] at hb1
      obtain ⟨hlt, hget⟩ := Array.getElem?_eq_some_iff.1 hb1
      have hlt' : k < s.size := hlt
      rw [getElem?_pos s k hlt', ← hget]
      rfl
    simp only [execOp, ha, hbv, Instr.index, asIntOf, Bind.bind, run_bind, run_underlying' hd, Pure.pure, Sem.run, Int.natCast_nonneg, if_true, Int.toNat_natCast, hidx]
    subst hb2
    rfl
  · rename_i n el l hkd
    rw [hkd] at hm
    simp only [tkM] at hm
    subst hm
    cases hlt : Nat.blt k n with
    | false => rw [hlt] at h2; cases h2
    | true =>
      rw [hlt] at h2
      obtain ⟨te, hte, h3⟩ := ob_some h2
      have hlt' : k < n := by simpa [Nat.blt_eq] using hlt
      simp only [VR] at ha
      obtain ⟨vs, ha, hl⟩ := ha
      obtain ⟨u, hu, hr⟩ := part_ok (t := t) htb hl h3
      refine ⟨u, hu, fun dst t pos after g w => ?_⟩
      have h0 : (0 : Int) ≤ (k : Int) ∧ (k : Int) < (n : Int) := ⟨Int.natCast_nonneg k, Int.ofNat_lt.2 hlt'⟩
      simp only [execOp, ha, hbv, Instr.index, asIntOf, Bind.bind, run_bind, run_underlying' hd, Pure.pure, Sem.run, h0, if_true, Int.toNat_natCast, run_sizeOf (htb _ _ hte).size, hr, and_self]
end
end Go.Rk
