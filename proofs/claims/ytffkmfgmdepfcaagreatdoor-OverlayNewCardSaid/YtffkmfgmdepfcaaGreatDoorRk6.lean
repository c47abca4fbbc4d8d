/- The reckoner's operations on values, more of them. -/
import Derived.Test.YtffkmfgmdepfcaaGreatDoorRk5
set_option linter.unusedSimpArgs false
set_option linter.unusedVariables false
set_option linter.unusedSectionVars false
namespace Go.Rk
open Go.Sl (run_bind run_underlying' run_sizeOf run_zeroValue)
open Go.RowKit
variable [Sym]

section
variable {P : Program} {tb : Tab} {p : Pl} {a : Act} {e : En} {x y : Operand} {va vb r : AV} {T U : TypeId}

theorem un_ok {o : UnOp} (hx : opd e x = some va) (ha : VR p va (a.eval x)) (h : un o va = some r) : ∃ u, VR p r u ∧ PR P a.eval (.unOp o T x) u := by
  unfold un at h
  split at h
  · obtain rfl := Option.some.inj h
    simp only [VR] at ha
    exact ⟨_, VR_bool p _, PR.of1 hx fun E h1 => Sl.op_not (h1.trans (congrArg some ha))⟩
  · obtain rfl := Option.some.inj h
    simp only [VR] at ha
    refine ⟨_, VR_int p _ _, fun dst t pos after g w => ?_⟩
    simp only [execOp, ha, Op.unary, Op.intArith, Bind.bind, run_bind, Pure.pure, Sem.run, wrapK_eq]
  · cases h

theorem nilCheck_ok (hx : opd e x = some va) (ha : VR p va (a.eval x)) (h : oNilCheck va = some r) : ∃ u, VR p r u ∧ PR P a.eval (.nilCheck x) u := by
  unfold oNilCheck at h
  split at h <;> first | (cases h; done) | skip
  all_goals obtain rfl := Option.some.inj h
  · refine ⟨_, ha, ?_⟩
    simp only [VR] at ha
    obtain ⟨b, o, S, hp, ha⟩ := ha
    rw [ha]
    exact PR.of1 hx fun E h1 => Sl.op_nilCheck (h1.trans (congrArg some ha))
  · refine ⟨_, ha, ?_⟩
    simp only [VR] at ha
    obtain ⟨u, ha, _⟩ := ha
    rw [ha]
    exact PR.of1 hx fun E h1 => Sl.op_nilCheckI (h1.trans (congrArg some ha))
  · refine ⟨_, ha, ?_⟩
    simp only [VR] at ha
    obtain ⟨l, m, ha, _⟩ := ha
    rw [ha]
    exact PR.of1 hx fun E h1 => Sl.op_nilCheckF (h1.trans (congrArg some ha))

theorem convert_ok {src dst : TypeId} (htb : ∀ T t, tb.tys.get T = some t → TyOk P T t) (hx : opd e x = some va) (ha : VR p va (a.eval x)) (h : oConvert tb src dst va = some r) : ∃ u, VR p r u ∧ PR P a.eval (.convert src dst x) u := by
  unfold oConvert at h
  obtain ⟨ts, hts, h1⟩ := ob_some h
  obtain ⟨td, htd, h2⟩ := ob_some h1
  clear h h1
  have h := h2
  clear h2
  obtain ⟨ds, hds, _⟩ := (htb _ _ hts).und
  obtain ⟨dd, hdd, hk⟩ := (htb _ _ htd).und
  split at h <;> first | (cases h; done) | skip
  · rename_i e1
    rw [e1] at hk
    simp only [tkM] at hk
    subst hk
    obtain rfl := Option.some.inj h
    simp only [VR] at ha
    refine ⟨_, VR_int p _ _, fun dst t pos after g w => ?_⟩
    simp only [execOp, ha, Go.convert, Bind.bind, run_bind, run_underlying' hds, run_underlying' hdd, Conv.intToInt, Pure.pure, Sem.run, wrapK_eq]
  · rename_i e1
    rw [e1] at hk
    simp only [tkM] at hk
    subst hk
    obtain rfl := Option.some.inj h
    refine ⟨_, ha, fun dst t pos after g w => ?_⟩
    simp only [VR] at ha
    obtain ⟨s, ha, _⟩ := ha
    simp only [execOp, ha, Go.convert, Bind.bind, run_bind, run_underlying' hds, run_underlying' hdd, Pure.pure, Sem.run]

theorem iface_ok (htb : ∀ T t, tb.tys.get T = some t → TyOk P T t) (hx : opd e x = some va) (ha : VR p va (a.eval x)) (h : oIface tb T va = some r) : ∃ u, VR p r u ∧ PR P a.eval (.makeInterface T x) u := by
  unfold oIface at h
  obtain ⟨t, ht, h1⟩ := ob_some h
  clear h
  have h := h1
  clear h1
  obtain ⟨d, hd, hk⟩ := (htb _ _ ht).und
  have hr : r = .iface T va := by split at h <;> first | (cases h; done) | exact (Option.some.inj h).symm
  subst hr
  refine ⟨.iface T (a.eval x), by simp only [VR]; exact ⟨_, rfl, ha⟩, PR.of1 hx fun E h1 => ?_⟩
  have hTU : Sl.TU P T d := ⟨hd⟩
  refine Sl.op_makeInterface (h := hTU) ?_ h1
  cases d <;> try rfl
  split at h <;> first | (cases h; done) | skip
  rename_i n1 n2
  cases htk : t.k <;> rw [htk] at hk <;> simp only [tkM] at hk <;> first | (cases hk; done) | (obtain ⟨_, hk, _⟩ := hk; cases hk; done) | (obtain ⟨_, _, _, hk⟩ := hk; cases hk; done) | exact absurd htk n1

theorem extract_ok {i : Nat} (hx : opd e x = some va) (ha : VR p va (a.eval x)) (h : oExtract va i = some r) : ∃ u, VR p r u ∧ PR P a.eval (.extract x i) u := by
  unfold oExtract at h
  split at h <;> first | (cases h; done) | skip
  simp only [VR] at ha
  obtain ⟨l, ha, hl⟩ := ha
  rw [nth_eq] at h
  obtain ⟨v, hv, hr⟩ := hl.get h
  exact ⟨v, hr, PR.of1 hx fun E h1 => Sl.op_extract (h1.trans (congrArg some ha)) (by simpa using hv)⟩

theorem makeFunc_ok {f : Fn} {xs ys : Array Operand} {l m : List AV} (hoe : OE p e a.eval) (h1 : opds e xs.toList = some l) (h2 : opds e ys.toList = some m) : ∃ u, VR p (.fn f l m) u ∧ PR P a.eval (.makeFunc f xs ys) u := by
  refine ⟨.func f (xs.map a.eval) (ys.map a.eval), ?_, fun dst t pos after g w => ?_⟩
  · simp only [VR]
    refine ⟨xs.toList.map a.eval, ys.toList.map a.eval, ?_, hoe.list h1, hoe.list h2⟩
    congr 1 <;> apply Array.ext' <;> simp
  · simp [execOp, Instr.makeFunc, Bind.bind, Sem.bind, Pure.pure, Sem.run]

/-- a struct's field as the table tells it -/
theorem field_of {t : TI} {fs : List (Nat × Nat)} {f o ft : Nat} (ht : TyOk P T t) (hk : t.k = .struct fs) (hf : nth fs f = some (o, ft)) : ∃ (arr : Array Field) (d : Field), P.underlying T = some (.struct arr) ∧ arr[f]? = some d ∧ d.offset = o ∧ d.type = ft := by
  obtain ⟨d, hd, hm⟩ := ht.und
  rw [hk] at hm
  simp only [tkM] at hm
  obtain ⟨arr, rfl, hfs⟩ := hm
  rw [nth_eq, ← hfs] at hf
  simp only [List.getElem?_map, Option.map_eq_some_iff] at hf
  obtain ⟨d, h1, h2⟩ := hf
  simp only [Prod.mk.injEq] at h2
  exact ⟨arr, d, hd, by simpa using h1, h2.1, h2.2⟩

theorem fieldAddr_ok {f : Nat} (htb : ∀ T t, tb.tys.get T = some t → TyOk P T t) (hx : opd e x = some va) (ha : VR p va (a.eval x)) (h : oFieldAddr tb T va f = some r) : ∃ u, VR p r u ∧ PR P a.eval (.fieldAddr T x f) u := by
  unfold oFieldAddr at h
  obtain ⟨t, ht, h1⟩ := ob_some h
  clear h
  have h := h1
  clear h1
  split at h <;> first | (cases h; done) | skip
  rename_i fs id off hk
  obtain ⟨⟨o, ft⟩, hf, h1⟩ := ob_some h
  obtain ⟨tf, htf, h2⟩ := ob_some h1
  clear h h1
  have h := h2
  clear h2
  have hsz := (htb _ _ htf).size
  obtain ⟨arr, d, hd, hfd, ho, hft⟩ := field_of (htb _ _ ht) hk hf
  subst ho; subst hft
  simp only [VR] at ha
  obtain ⟨b, bo, S, hp, ha⟩ := ha
  have hnz : tf.size ≠ 0 := by intro e; rw [e] at h; cases h
  have hr : r = .ptr id (off + d.offset) := by
    split at h
    · cases h
    · exact (Option.some.inj h).symm
  subst hr
  refine ⟨.pointer (some ⟨b, bo + off + d.offset, none⟩), by simp only [VR]; exact ⟨b, bo, S, hp, by rw [Nat.add_assoc]⟩, PR.of1 hx fun E h1 => ?_⟩
  cases hi : P.info? d.type with
  | none => rw [hi] at hsz; cases hsz
  | some i =>
    rw [hi] at hsz
    simp only [Option.map_some, Option.some.injEq] at hsz
    have hFA : Sl.FA P T f d.offset := ⟨by simp only [Sl.fieldOff, hd, hfd, hi, hsz, hnz, if_false]⟩
    exact Sl.op_fieldAddr (h := hFA) (ha := ⟨rfl⟩) (h1.trans (congrArg some ha))
end
end Go.Rk
