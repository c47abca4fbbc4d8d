/- The reckoner's operations on values. -/
import Derived.Test.YtffkmfgmdepfcaaGreatDoorRk4
import Derived.Test.YtffkmfgmdepfcaaGreatDoorSl9
set_option linter.unusedSimpArgs false
set_option linter.unusedVariables false
set_option linter.unusedSectionVars false
namespace Go.Rk
open Go.Sl (run_bind run_underlying' run_sizeOf run_zeroValue)
open Go.RowKit
variable [Sym]

/-- what the table tells of a type is true of the program -/
def tkM (P : Program) : TK → TypeDesc → Prop
  | .bool, d => d = .bool
  | .int k, d => d = .int k
  | .flt k, d => d = .float k
  | .str, d => d = .string
  | .ptr e, d => d = .pointer e
  | .slice e, d => d = .slice e
  | .arr n e, d => d = .array n e
  | .map k e, d => d = .map k e
  | .struct fs, d => ∃ a : Array Field, d = .struct a ∧ a.toList.map (fun f => (f.offset, f.type)) = fs
  | .func, d => ∃ a b c, d = .func a b c
  | .iface, d => ∃ m, d = .interface m
  | .other, _ => False
structure TyOk (P : Program) (T : Nat) (t : TI) : Prop where
  und : ∃ d, P.underlying T = some d ∧ tkM P t.k d
  size : (P.info? T).map (·.size) = some t.size
  bytes : (P.info? T).map (·.bytes) = some t.bytes
  zero : ∃ z, (P.info? T).bind (·.zero) = some z ∧ absV z = some t.zero
  flds : ∀ arr, P.underlying T = some (.struct arr) → ∃ ps, Sl.placesL P arr.toList = some ps
  zlen : (cellsOf t.zero).length = t.size

section
variable {P : Program} {tb : Tab} {p : Pl} {a : Act} {e : En} {x y : Operand} {va vb r : AV} {T U : TypeId}

theorem shiftI_ok {E : Sl.Env} {o : BinOp} {k k' : IntKind} {m n : Int} (hs : isShift o = true) (hy : Sl.ev E x = some (.int k m)) (hz : Sl.ev E y = some (.int k' n)) (h : shiftI o k m n = some r) :
    ∃ u, (∀ p, VR p r u) ∧ Sl.PureOp P E (.binOp o T x y U) u := by
  unfold shiftI at h
  cases h0 : leI 0 n with
  | false => rw [h0] at h; cases h
  | true =>
    rw [h0] at h
    rw [leI_eq, decide_eq_true_eq] at h0
    have h0' : ¬ n < 0 := by omega
    cases o <;> first | (cases hs; done) | skip
    · obtain rfl := Option.some.inj h
      exact ⟨_, fun p => VR_int p k _, Sl.run_bin hy hz (fun w => Sl.eqGuard_int w) fun w => by simp only [Go.binOp, Op.shift, h0', if_false, wrapK_eq, Pure.pure, Sem.run]⟩
    · obtain rfl := Option.some.inj h
      exact ⟨_, fun p => VR_int p k _, Sl.run_bin hy hz (fun w => Sl.eqGuard_int w) fun w => by simp [Go.binOp, Op.shift, h0', Pure.pure, Sem.run]⟩

theorem str_size {s : ByteArray} {l : List Nat} (h : s.data.toList.map (·.toNat) = l) : s.size = l.length := by
  rw [← h, List.length_map, Array.length_toList]; rfl

theorem binS_ok {E : Sl.Env} {o : BinOp} {s t : ByteArray} (hy : Sl.ev E x = some (.string s)) (hz : Sl.ev E y = some (.string t)) (h : binS o (s.data.toList.map (·.toNat)) (t.data.toList.map (·.toNat)) = some r) :
    ∃ u, (∀ p, VR p r u) ∧ Sl.PureOp P E (.binOp o T x y U) u := by
  have he : eqNs (s.data.toList.map (·.toNat)) (t.data.toList.map (·.toNat)) = (s.toList == t.toList) := by
    rw [eqNs_eq, Sl.toList_beq, Bool.eq_iff_iff]
    simp only [decide_eq_true_eq]
    exact ⟨bytes_inj, fun h => by rw [h]⟩
  have hl : ∀ s t : ByteArray, lessNs (s.data.toList.map (·.toNat)) (t.data.toList.map (·.toNat)) = Op.bytesLess s.toList t.toList := fun s t => by
    rw [lessNs_eq, ← Go.ByteArray.toList_eq, ← Go.ByteArray.toList_eq]
  cases o <;> simp only [binS, Option.some.injEq] at h <;> first | (cases h; done) | skip
  · obtain ⟨hsz, h⟩ := bb_some h
    simp only [Option.some.injEq] at h; subst h
    have hsz := Nat.le_of_ble_eq_true hsz
    simp only [List.length_map, Array.length_toList] at hsz
    refine ⟨.string (s ++ t), fun p => ?_, Sl.op_cat hy hz (by simp only [ByteArray.size]; omega)⟩
    simp only [VR]
    exact ⟨_, rfl, by simp⟩
  all_goals subst h
  all_goals simp only [he, hl]
  all_goals exact ⟨_, fun p => VR_bool p _, Sl.run_bin hy hz (fun w => Sl.eqGuard_str w) fun w => by simp only [Go.binOp, Op.stringOp, Pure.pure, Sem.run]; try rfl⟩

theorem sameN_ok {k : TK} {d : TypeDesc} {b : Bool} {u v : Value} {dp : Nat} (hd : P.underlying T = some d) (hk : tkM P k d) (ha : VR p va u) (hb : VR p vb v) (h : sameN k va vb = some b) (w : World) : (Op.equalIn (dp + 1) T u v).run P w = .ok b w ∧
    ∀ o w, (eqGuard o T x y u v).run P w = .ok () w := by
  have hg : ∀ u v : Value, (match u, v with | .nilIface, .nilIface => False | .agg _, .agg _ => False | _, _ => True) → ∀ o w, (eqGuard o T x y u v).run P w = .ok () w := fun u v hn o w => by
    unfold eqGuard
    cases u <;> cases v <;> simp only at hn <;> first | (exact hn.elim) | (cases o <;> simp [Bind.bind, Sem.bind, Pure.pure, Sem.run])
  unfold sameN at h
  split at h <;> first | (cases h; done) | skip
  · simp only [tkM] at hk; subst hk
    split at h <;> first | (cases h; done) | skip
    all_goals
      simp only [Option.some.injEq] at h
      simp only [VR] at ha hb
      subst h
    · subst ha; subst hb
      exact ⟨by unfold Op.equalIn; simp only [Bind.bind, run_bind, run_underlying' hd, Pure.pure, Sem.run]; try rfl, hg _ _ trivial⟩
    · subst ha; obtain ⟨_, _, _, _, rfl⟩ := hb
      exact ⟨by unfold Op.equalIn; simp only [Bind.bind, run_bind, run_underlying' hd, Pure.pure, Sem.run]; try rfl, hg _ _ trivial⟩
    · subst hb; obtain ⟨_, _, _, _, rfl⟩ := ha
      exact ⟨by unfold Op.equalIn; simp only [Bind.bind, run_bind, run_underlying' hd, Pure.pure, Sem.run]; try rfl, hg _ _ trivial⟩
  · simp only [tkM] at hk; subst hk
    split at h <;> first | (cases h; done) | skip
    all_goals
      simp only [Option.some.injEq] at h
      simp only [VR] at ha hb
      subst h
    · subst ha; subst hb
      exact ⟨by unfold Op.equalIn; simp only [Bind.bind, run_bind, run_underlying' hd, Pure.pure, Sem.run]; try rfl, hg _ _ trivial⟩
    · subst ha; obtain ⟨_, _, _, _, rfl⟩ := hb
      exact ⟨by unfold Op.equalIn; simp only [Bind.bind, run_bind, run_underlying' hd, Pure.pure, Sem.run]; try rfl, hg _ _ trivial⟩
    · subst hb; obtain ⟨_, _, _, _, rfl⟩ := ha
      exact ⟨by unfold Op.equalIn; simp only [Bind.bind, run_bind, run_underlying' hd, Pure.pure, Sem.run]; try rfl, hg _ _ trivial⟩
    · subst ha; obtain ⟨_, _, _, _, _, _, rfl⟩ := hb
      exact ⟨by unfold Op.equalIn; simp only [Bind.bind, run_bind, run_underlying' hd, Pure.pure, Sem.run]; try rfl, hg _ _ trivial⟩
    · subst hb; obtain ⟨_, _, _, _, _, _, rfl⟩ := ha
      exact ⟨by unfold Op.equalIn; simp only [Bind.bind, run_bind, run_underlying' hd, Pure.pure, Sem.run]; try rfl, hg _ _ trivial⟩

theorem symO_ok {E : Sl.Env} {o : BinOp} {j : Nat} {v : Value} (hres : (symV 2).tmod 6 = tb.res) (hb : VR p vb v) (hy : Sl.ev E x = some (.int .i64 (symV j))) (hz : Sl.ev E y = some v) (h : symO tb o j vb = some r) :
    ∃ u, VR p r u ∧ Sl.PureOp P E (.binOp o T x y U) u := by
  unfold symO at h
  split at h <;> first | (cases h; done) | skip
  rename_i cc
  split at h <;> first | (cases h; done) | skip
  rename_i hc
  rw [eqI_eq, decide_eq_true_eq] at hc
  subst hc
  simp only [VR] at hb
  subst hb
  have hsm : -6 < Sym.n.tmod 6 ∧ Sym.n.tmod 6 < 6 := by
    have h1 := Int.tmod_lt_of_pos Sym.n (b := 6) (by decide)
    have h2 := Int.lt_tmod_of_pos Sym.n (b := 6) (by decide)
    exact ⟨by omega, h1⟩
  split at h <;> first | (cases h; done) | skip
  · obtain rfl := Option.some.inj h
    refine ⟨.int .i64 (symV 1), by simp only [VR], ?_⟩
    exact op_bits hy hz fun w => by simp [Go.binOp, Op.intDiv, Pure.pure, Sem.run, symV]
  · obtain rfl := Option.some.inj h
    refine ⟨.int .i64 (symV 2), by simp only [VR], ?_⟩
    have hb2 : -9223372036854775808 ≤ symV 1 + 6 ∧ symV 1 + 6 ≤ 9223372036854775807 := by simp only [symV]; omega
    exact Sl.op_add hy hz hb2
  · obtain rfl := Option.some.inj h
    refine ⟨.int .i64 tb.res, by simp only [VR], ?_⟩
    exact op_bits hy hz fun w => by simp [Go.binOp, Op.intDiv, Pure.pure, Sem.run, hres]

theorem bin_ok {o : BinOp} (hres : (symV 2).tmod 6 = tb.res) (htb : ∀ T t, tb.tys.get T = some t → TyOk P T t) (hx : opd e x = some va) (hy : opd e y = some vb) (ha : VR p va (a.eval x)) (hb : VR p vb (a.eval y)) (h : bin tb T o va vb = some r) :
    ∃ u, VR p r u ∧ PR P a.eval (.binOp o T x y U) u := by
  have fromN : binO tb T o va vb = some r → ∃ u, VR p r u ∧ PR P a.eval (.binOp o T x y U) u := fun h => by
    unfold binO at h
    obtain ⟨t, ht, h⟩ := ob_some h
    obtain ⟨b, hs, h⟩ := ob_some h
    obtain ⟨d, hd, hk⟩ := (htb T t ht).und
    have key := fun w => sameN_ok (x := x) (y := y) (dp := 9999) hd hk ha hb hs w
    have hforms : (∀ T, Go.binOp .eql T (a.eval x) (a.eval y) = (do pure (.bool (← Op.equal T (a.eval x) (a.eval y))))) ∧ (∀ T, Go.binOp .neq T (a.eval x) (a.eval y) = (do pure (.bool (!(← Op.equal T (a.eval x) (a.eval y)))))) := by
      unfold sameN at hs
      split at hs <;> first | (cases hs; done) | skip
      all_goals
        split at hs <;> first | (cases hs; done) | skip
        all_goals simp only [VR] at ha hb
        all_goals first
          | (rw [ha, hb]; exact ⟨fun _ => rfl, fun _ => rfl⟩)
          | (obtain ⟨_, _, _, _, hb⟩ := hb; rw [ha, hb]; exact ⟨fun _ => rfl, fun _ => rfl⟩)
          | (obtain ⟨_, _, _, _, ha⟩ := ha; rw [ha, hb]; exact ⟨fun _ => rfl, fun _ => rfl⟩)
          | (obtain ⟨_, _, _, _, _, _, hb⟩ := hb; rw [ha, hb]; exact ⟨fun _ => rfl, fun _ => rfl⟩)
          | (obtain ⟨_, _, _, _, _, _, ha⟩ := ha; rw [ha, hb]; exact ⟨fun _ => rfl, fun _ => rfl⟩)
    cases o <;> first | (cases h; done) | skip
    · obtain rfl := Option.some.inj h
      refine ⟨_, VR_bool p b, PR.of2 hx hy fun E h1 h2 => Sl.run_bin h1 h2 (fun w => (key w).2 _ w) fun w => ?_⟩
      rw [hforms.1]
      show ((Op.equalIn (9999 + 1) T (a.eval x) (a.eval y)).bind _).run P w = _
      rw [run_bind, (key w).1]
      rfl
    · obtain rfl := Option.some.inj h
      refine ⟨_, VR_bool p (!b), PR.of2 hx hy fun E h1 h2 => Sl.run_bin h1 h2 (fun w => (key w).2 _ w) fun w => ?_⟩
      rw [hforms.2]
      show ((Op.equalIn (9999 + 1) T (a.eval x) (a.eval y)).bind _).run P w = _
      rw [run_bind, (key w).1]
      rfl
  unfold bin at h
  split at h
  · simp only [VR] at ha
    obtain ⟨E, h1, h2⟩ := envFor a [x, y] (by simpa using ⟨opd_glob hx, opd_glob hy⟩)
    have e1 := h2 x (by simp); have e2 := h2 y (by simp)
    rw [ha] at e1
    obtain ⟨u, hu, hp⟩ := symO_ok (P := P) (T := T) (U := U) hres hb e1 e2 h
    exact ⟨u, hu, hp a.eval h1⟩
  · rename_i k m k' n
    simp only [VR] at ha hb
    cases hs : isShift o with
    | true =>
      rw [hs] at h
      obtain ⟨E, h1, h2⟩ := envFor a [x, y] (by simpa using ⟨opd_glob hx, opd_glob hy⟩)
      have e1 := h2 x (by simp); have e2 := h2 y (by simp)
      rw [ha] at e1; rw [hb] at e2
      obtain ⟨u, hu, hp⟩ := shiftI_ok (P := P) (T := T) (U := U) hs e1 e2 h
      exact ⟨u, hu p, hp a.eval h1⟩
    | false =>
      rw [hs] at h
      cases hk : eqK k k' with
      | false => rw [hk] at h; cases h
      | true =>
        rw [hk] at h
        have := eqK_eq hk
        subst this
        obtain ⟨E, h1, h2⟩ := envFor a [x, y] (by simpa using ⟨opd_glob hx, opd_glob hy⟩)
        have e1 := h2 x (by simp); have e2 := h2 y (by simp)
        rw [ha] at e1; rw [hb] at e2
        obtain ⟨u, hu, hp⟩ := binI_ok (P := P) (T := T) (U := U) hs e1 e2 h
        exact ⟨u, hu p, hp a.eval h1⟩
  · simp only [VR] at ha hb
    obtain ⟨s, hs, es⟩ := ha
    obtain ⟨t, ht, et⟩ := hb
    subst es; subst et
    obtain ⟨E, h1, h2⟩ := envFor a [x, y] (by simpa using ⟨opd_glob hx, opd_glob hy⟩)
    have e1 := h2 x (by simp); have e2 := h2 y (by simp)
    rw [hs] at e1; rw [ht] at e2
    obtain ⟨u, hu, hp⟩ := binS_ok (P := P) (T := T) (U := U) e1 e2 h
    exact ⟨u, hu p, hp a.eval h1⟩
  · exact fromN h
end
end Go.Rk
