/- The reckoner's keys of maps, lookups, lengths. -/
import Derived.Test.YtffkmfgmdepfcaaGreatDoorRk11
import Derived.Laws.StructEq
set_option linter.unusedSimpArgs false
set_option linter.unusedVariables false
set_option linter.unusedSectionVars false
namespace Go.Rk
open Go.Sl (run_bind run_underlying' run_sizeOf run_zeroValue run_isAgg)
open Go.RowKit
variable [Sym]

/-- a struct's fields that are numbers or strings, one cell each -/
def keyFs (P : Program) : List Field → Nat → Bool
  | [], _ => true
  | f :: fs, i => decide (f.name ≠ "_") && Nat.beq f.offset i && (P.info? f.type).isSome && keyFs P fs (i + 1)
def keyT (P : Program) (T : TypeId) : Bool := match P.underlying T with
  | some (.struct fs) => keyFs P fs.toList 0 && !P.stoodInHeld T
  | _ => false

section
variable {P : Program} {tb : Tab} {p : Pl}

theorem keyFs_cons {f : Field} {fs : List Field} {i : Nat} (h : keyFs P (f :: fs) i = true) : f.name ≠ "_" ∧ f.offset = i ∧ (P.info? f.type).isSome = true ∧ keyFs P fs (i + 1) = true := by
  simp only [keyFs, Bool.and_eq_true, decide_eq_true_eq] at h
  obtain ⟨⟨⟨h1, h2⟩, h4⟩, h5⟩ := h
  exact ⟨h1, Nat.eq_of_beq_eq_true h2, h4, h5⟩

theorem part_one {T : TypeId} {d : TypeDesc} {cs : Array Value} {o : Nat} {v : Value} (hu : P.underlying T = some d) (hd : Sl.aggD d = false) (hi : (P.info? T).isSome = true) (hv : cs[o]? = some v) (w : World) : (part T cs o).run P w = .ok v w := by
  obtain ⟨i, hi⟩ := Option.isSome_iff_exists.1 hi
  have htl : Sl.TL P T false i.size := ⟨by simp [Sl.loadShape, hu, hi, hd]⟩
  unfold part
  simp only [Bind.bind, run_bind, run_isAgg htl, Bool.false_eq_true, if_false, hv, Pure.pure, Sem.run]

/-- two values that are compared as numbers, as strings -/
theorem sameI_ok {a b : AV} {u v : Value} {r : Bool} (ha : VR p a u) (hb : VR p b v) (h : sameI a b = some r) : ∃ k x y, u = .int k x ∧ v = .int k y ∧ r = decide (x = y) := by
  unfold sameI at h
  split at h
  · rename_i k x k' y
    simp only [VR] at ha hb
    split at h
    · rename_i hk
      have := eqK_eq hk
      subst this
      simp only [Option.some.injEq] at h
      exact ⟨k, x, y, ha, hb, by rw [← h, eqI_eq]⟩
    · cases h
  · cases h
theorem sameS_ok {a b : AV} {u v : Value} {r : Bool} (ha : VR p a u) (hb : VR p b v) (h : sameS a b = some r) : ∃ x y, u = .string x ∧ v = .string y ∧ r = decide (x = y) := by
  unfold sameS at h
  split at h
  · rename_i x y
    simp only [VR] at ha hb
    obtain ⟨s, hs, es⟩ := ha
    obtain ⟨t, ht, et⟩ := hb
    simp only [Option.some.injEq] at h
    refine ⟨s, t, hs, ht, ?_⟩
    subst es; subst et
    rw [← h, eqNs_eq, Bool.eq_iff_iff]
    simp only [decide_eq_true_eq]
    exact ⟨bytes_inj, fun h => by rw [h]⟩
  · cases h

/-- what comparing by eq says of the model's comparing -/
structure EqOk (P : Program) (kt : TypeId) (d : TypeDesc) (eq : Eq2) : Prop where
  und : P.underlying kt = some d
  same : ∀ (p : Pl) (k k' : AV) (u v : Value), VR p k u → VR p k' v → eq k k' = some true → u = v ∧ Instr.sameBits 10000 u v = true
  how : (∀ (p : Pl) (k k' : AV) (u v : Value) r, VR p k u → VR p k' v → eq k k' = some r → Instr.sameNow d u v = some r) ∨
    (∀ (p : Pl) (k k' : AV) (u v : Value) r, VR p k u → VR p k' v → eq k k' = some r → Instr.sameNow d u v = none ∧ ∀ w, (Op.equal kt u v).run P w = .ok r w)
  check : ∀ (p : Pl) (k k' : AV) (u : Value) r, VR p k u → eq k k' = some r → ∀ em w, (Instr.checkKey em 10000 kt u).run P w = .ok () w

theorem toList_beq' (a b : ByteArray) : (a == b) = decide (a = b) := by
  rw [beq_toListBytes, Sl.toList_beq]

theorem checkKey_int {T : TypeId} {q : IntKind} (h : P.underlying T = some (.int q)) (n : Nat) (em : Bool) (kk : IntKind) (x : Int) (w : World) : (Instr.checkKey em (n + 1) T (.int kk x)).run P w = .ok () w := by
  unfold Instr.checkKey
  simp only [Bind.bind, run_bind, run_underlying' h, Pure.pure, Sem.run]
theorem checkKey_str {T : TypeId} (h : P.underlying T = some .string) (n : Nat) (em : Bool) (x : ByteArray) (w : World) : (Instr.checkKey em (n + 1) T (.string x)).run P w = .ok () w := by
  unfold Instr.checkKey
  simp only [Bind.bind, run_bind, run_underlying' h, Pure.pure, Sem.run]

theorem EqOk.int {T : TypeId} {q : IntKind} (h : P.underlying T = some (.int q)) : EqOk P T (.int q) sameI where
  und := h
  same p k k' u v hu hv hs := by
    obtain ⟨kk, x, y, rfl, rfl, hr⟩ := sameI_ok hu hv hs
    have : x = y := of_decide_eq_true hr.symm
    subst this
    exact ⟨rfl, by simp [Instr.sameBits]⟩
  how := .inl fun p k k' u v r hu hv hs => by
    obtain ⟨kk, x, y, rfl, rfl, hr⟩ := sameI_ok hu hv hs
    simp only [Instr.sameNow, if_true, hr]
    rfl
  check p k k' u r hu hs em w := by
    have : ∃ kk x, u = .int kk x := by
      unfold sameI at hs
      split at hs
      · simp only [VR] at hu; exact ⟨_, _, hu⟩
      · cases hs
    obtain ⟨kk, x, rfl⟩ := this
    exact checkKey_int h 9999 em kk x w

theorem EqOk.str {T : TypeId} (h : P.underlying T = some .string) : EqOk P T .string sameS where
  und := h
  same p k k' u v hu hv hs := by
    obtain ⟨x, y, rfl, rfl, hr⟩ := sameS_ok hu hv hs
    have : x = y := of_decide_eq_true hr.symm
    subst this
    exact ⟨rfl, by simp [Instr.sameBits, toList_beq']⟩
  how := .inl fun p k k' u v r hu hv hs => by
    obtain ⟨x, y, rfl, rfl, hr⟩ := sameS_ok hu hv hs
    simp only [Instr.sameNow, hr, toList_beq']
  check p k k' u r hu hs em w := by
    have : ∃ x, u = .string x := by
      unfold sameS at hs
      split at hs
      · simp only [VR] at hu; obtain ⟨s, hs, _⟩ := hu; exact ⟨_, hs⟩
      · cases hs
    obtain ⟨x, rfl⟩ := this
    exact checkKey_str h 9999 em x w

/-- a struct's fields, as the kinds tell -/
def ksOk (P : Program) : List Bool → List Field → Prop
  | [], fs => fs = []
  | c :: cs, fs => ∃ f r, fs = f :: r ∧ (if c then ∃ k, P.underlying f.type = some (.int k) else P.underlying f.type = some .string) ∧ ksOk P cs r

theorem kindsK_ok (htb : ∀ T t, tb.tys.get T = some t → TyOk P T t) : ∀ {fs : List Field} {ks : List Bool}, kindsK tb (fs.map fun f => (f.offset, f.type)) = some ks → ksOk P ks fs
  | [], ks, h => by simp only [List.map_nil, kindsK, Option.some.injEq] at h; subst h; rfl
  | f :: fs, ks, h => by
    simp only [List.map_cons, kindsK] at h
    obtain ⟨t, ht, h1⟩ := ob_some h
    obtain ⟨c, hc, h2⟩ := ob_some h1
    obtain ⟨r, hr, h3⟩ := ob_some h2
    simp only [Option.some.injEq] at h3
    subst h3
    obtain ⟨d, hd, hk⟩ := (htb _ _ ht).und
    refine ⟨f, fs, rfl, ?_, kindsK_ok htb hr⟩
    split at hc
    · rename_i k hkk
      simp only [Option.some.injEq] at hc
      subst hc
      rw [hkk] at hk
      simp only [tkM] at hk
      subst hk
      exact ⟨_, hd⟩
    · rename_i hkk
      simp only [Option.some.injEq] at hc
      subst hc
      rw [hkk] at hk
      simp only [tkM] at hk
      subst hk
      exact hd
    · cases hc

theorem sameL_ok (n : Nat) {xs ys : Array Value} : ∀ {ks : List Bool} {fs : List Field} {i : Nat} {l m : List AV} {us vs : List Value} {r : Bool}, ksOk P ks fs → keyFs P fs i = true → VRs p l us → VRs p m vs → (∀ j v, us[j]? = some v → xs[i + j]? = some v) → (∀ j v, vs[j]? = some v → ys[i + j]? = some v) →
    sameL ks l m = some r → (∀ w, (Op.eqFields (n + 1) xs ys fs).run P w = .ok r w) ∧ (r = true → us = vs ∧ ∀ q, (us.zip vs).all (fun (x, y) => Instr.sameBits q x y) = true)
  | [], fs, i, l, m, us, vs, r, hk, hf, hl, hm, hx, hy, h => by
    simp only [ksOk] at hk
    subst hk
    simp only [sameL] at h
    split at h
    · simp only [Option.some.injEq] at h
      subst h
      simp only [VRs] at hl hm
      subst hl; subst hm
      exact ⟨fun w => rfl, fun _ => ⟨rfl, fun _ => rfl⟩⟩
    · cases h
  | c :: cs, fs, i, l, m, us, vs, r, hk, hf, hl, hm, hx, hy, h => by
    obtain ⟨f, rs, rfl, hc, hk⟩ := hk
    obtain ⟨hname, hoff, hinf, hf'⟩ := keyFs_cons hf
    simp only [sameL] at h
    split at h
    · rename_i a l b m
      simp only [VRs] at hl hm
      obtain ⟨u, us, rfl, hu, hl⟩ := hl
      obtain ⟨v, vs, rfl, hv, hm⟩ := hm
      obtain ⟨r1, h1, h2⟩ := ob_some h
      obtain ⟨r2, h3, h4⟩ := ob_some h2
      simp only [Option.some.injEq] at h4
      obtain ⟨ih1, ih2⟩ := sameL_ok n (i := i + 1) hk hf' hl hm (fun j v hj => by rw [show i + 1 + j = i + (j + 1) from by omega]; exact hx (j + 1) v (by simpa using hj)) (fun j v hj => by rw [show i + 1 + j = i + (j + 1) from by omega]; exact hy (j + 1) v (by simpa using hj)) h3
      have hux : xs[f.offset]? = some u := by rw [hoff]; exact hx 0 u rfl
      have hvy : ys[f.offset]? = some v := by rw [hoff]; exact hy 0 v rfl
      have head : ∃ d, P.underlying f.type = some d ∧ Sl.aggD d = false ∧ (∀ w, (Op.equalIn (n + 1) f.type u v).run P w = .ok r1 w) ∧ (r1 = true → u = v ∧ ∀ q, Instr.sameBits q u v = true) := by
        cases c with
        | true =>
          simp only [if_true] at hc
          obtain ⟨q, hq⟩ := hc
          obtain ⟨kk, x, y, rfl, rfl, hr⟩ := sameI_ok hu hv h1
          refine ⟨_, hq, rfl, fun w => by rw [run_equalIn_int w n _ kk q x y hq, hr]; rfl, fun e => ?_⟩
          rw [hr] at e
          have := of_decide_eq_true e
          subst this
          exact ⟨rfl, fun q => by simp [Instr.sameBits]⟩
        | false =>
          simp only [Bool.false_eq_true, if_false] at hc
          obtain ⟨x, y, rfl, rfl, hr⟩ := sameS_ok hu hv h1
          refine ⟨_, hc, rfl, fun w => by rw [run_equalIn_string w n _ x y hc, hr, Sl.toList_beq], fun e => ?_⟩
          rw [hr] at e
          have := of_decide_eq_true e
          subst this
          exact ⟨rfl, fun q => by simp [Instr.sameBits, toList_beq']⟩
      obtain ⟨d, hd, hag, he, hs⟩ := head
      constructor
      · intro w
        simp only [Op.eqFields, hname, ne_eq, not_false_eq_true, if_true, Bind.bind, run_bind, part_one hd hag hinf hux, part_one hd hag hinf hvy, he]
        cases r1 with
        | true =>
          have : r = r2 := h4.symm
          subst this
          simpa using ih1 w
        | false =>
          have : r = false := h4.symm
          subst this
          simp [Pure.pure, Sem.run]
      · intro e
        subst e
        cases r1 with
        | false => cases h4
        | true =>
          have : r2 = true := h4
          subst this
          obtain ⟨e1, e2⟩ := hs rfl
          obtain ⟨e3, e4⟩ := ih2 rfl
          subst e1; subst e3
          exact ⟨rfl, fun q => by
            have h5 := e4 q
            simp only [List.zip_cons_cons, List.all_cons, Bool.and_eq_true]
            exact ⟨e2 q, h5⟩⟩
    · cases h
theorem sameL_shape {p : Pl} : ∀ {ks : List Bool} {fs : List Field} {l m : List AV} {us : List Value} {r : Bool}, ksOk P ks fs → VRs p l us → sameL ks l m = some r → us.length = fs.length ∧ ∀ (j : Nat) (f : Field) (u : Value), fs[j]? = some f → us[j]? = some u → (∃ k q x, P.underlying f.type = some (.int q) ∧ u = .int k x) ∨ ∃ s, P.underlying f.type = some .string ∧ u = .string s
  | [], fs, l, m, us, r, hk, hl, h => by
    simp only [ksOk] at hk
    subst hk
    simp only [sameL] at h
    split at h
    · simp only [VRs] at hl; subst hl
      exact ⟨rfl, fun j f u hj => by simp at hj⟩
    · cases h
  | c :: cs, fs, l, m, us, r, hk, hl, h => by
    obtain ⟨f, rs, rfl, hc, hk⟩ := hk
    simp only [sameL] at h
    split at h
    · rename_i a l b m
      simp only [VRs] at hl
      obtain ⟨u, us, rfl, hu, hl⟩ := hl
      obtain ⟨r1, h1, h2⟩ := ob_some h
      obtain ⟨r2, h3, h4⟩ := ob_some h2
      obtain ⟨e1, e2⟩ := sameL_shape hk hl h3
      refine ⟨by simp [e1], fun j g v hj hv => ?_⟩
      cases j with
      | zero =>
        simp only [List.getElem?_cons_zero, Option.some.injEq] at hj hv
        subst hj; subst hv
        cases c with
        | true =>
          simp only [if_true] at hc
          obtain ⟨q, hq⟩ := hc
          have h1' : sameI a b = some r1 := h1
          unfold sameI at h1'
          split at h1'
          · simp only [VR] at hu; exact .inl ⟨_, _, _, hq, hu⟩
          · cases h1'
        | false =>
          simp only [Bool.false_eq_true, if_false] at hc
          have h1' : sameS a b = some r1 := h1
          unfold sameS at h1'
          split at h1'
          · simp only [VR] at hu; obtain ⟨s, hs, _⟩ := hu; exact .inr ⟨s, hc, hs⟩
          · cases h1'
      | succ j => exact e2 j g v (by simpa using hj) (by simpa using hv)
    · cases h

theorem checkKey_struct {T : TypeId} {arr : Array Field} {cs : Array Value} (h : P.underlying T = some (.struct arr)) (hf : keyFs P arr.toList 0 = true) (hlen : cs.toList.length = arr.toList.length)
    (hs : ∀ (j : Nat) (f : Field) (u : Value), arr.toList[j]? = some f → cs.toList[j]? = some u → (∃ k q x, P.underlying f.type = some (.int q) ∧ u = .int k x) ∨ ∃ s, P.underlying f.type = some .string ∧ u = .string s) (n : Nat) (em : Bool) (w : World) :
    (Instr.checkKey em (n + 2) T (.agg cs)).run P w = .ok () w := by
  unfold Instr.checkKey
  simp only [Bind.bind, run_bind, run_underlying' h]
  rw [← Array.forIn_toList]
  have key : ∀ (fs : List Field) (i : Nat), keyFs P fs i = true → (∀ (j : Nat) (f : Field), fs[j]? = some f → arr.toList[i + j]? = some f) →
      (forIn fs PUnit.unit (fun (f : Field) (_ : PUnit) => (do
        if f.name ≠ "_" then Instr.checkKey em (n + 1) f.type (← part f.type cs f.offset)
        pure (ForInStep.yield PUnit.unit) : Sem (ForInStep PUnit)))).run P w = .ok PUnit.unit w := by
    intro fs
    induction fs with
    | nil => intro i _ _; rfl
    | cons f fs ih =>
      intro i hk hsub
      obtain ⟨hname, hoff, hinf, hk'⟩ := keyFs_cons hk
      have hfi : arr.toList[i]? = some f := by simpa using hsub 0 f rfl
      have hlt : i < cs.toList.length := by rw [hlen]; exact (List.getElem?_eq_some_iff.1 hfi).1
      obtain ⟨u, hu⟩ : ∃ u, cs.toList[i]? = some u := ⟨_, List.getElem?_eq_getElem hlt⟩
      have hu' : cs[f.offset]? = some u := by rw [hoff]; simpa using hu
      have ih' := ih (i + 1) hk' (fun j g hj => by rw [show i + 1 + j = i + (j + 1) from by omega]; exact hsub (j + 1) g (by simpa using hj))
      simp only [Bind.bind] at ih'
      rw [List.forIn_cons]
      simp only [Bind.bind, run_bind, hname, ne_eq, not_false_eq_true, if_true]
      rcases hs i f u hfi hu with ⟨k, q, x, hq, rfl⟩ | ⟨s, hq, rfl⟩
      · simp only [part_one hq rfl hinf hu', checkKey_int hq, Pure.pure, Sem.run]
        exact ih'
      · simp only [part_one hq rfl hinf hu', checkKey_str hq, Pure.pure, Sem.run]
        exact ih'
  have := key arr.toList 0 hf (fun j f hj => by simpa using hj)
  simp only [Bind.bind] at this
  first
    | exact this
    | (rw [this]; rfl)

theorem EqOk.struct {T : TypeId} {arr : Array Field} {ks : List Bool} (h : P.underlying T = some (.struct arr)) (hf : keyFs P arr.toList 0 = true) (hh : P.stoodInHeld T = false) (hk : ksOk P ks arr.toList) : EqOk P T (.struct arr) (same2 ks) where
  und := h
  same p k k' u v hu hv hs := by
    unfold same2 at hs
    split at hs
    · rename_i l m
      simp only [VR] at hu hv
      obtain ⟨us, rfl, hl⟩ := hu
      obtain ⟨vs, rfl, hm⟩ := hv
      have := (sameL_ok (P := P) 0 (xs := us.toArray) (ys := vs.toArray) hk hf hl hm (fun j v hj => by simpa using hj) (fun j v hj => by simpa using hj) hs).2 rfl
      obtain ⟨e1, e2⟩ := this
      subst e1
      refine ⟨rfl, ?_⟩
      show Instr.sameBits (9999 + 1) _ _ = true
      unfold Instr.sameBits
      simp only [beq_self_eq_true, Bool.true_and]
      simpa using e2 9999
    · cases hs
  how := .inr fun p k k' u v r hu hv hs => by
    unfold same2 at hs
    split at hs
    · rename_i l m
      simp only [VR] at hu hv
      obtain ⟨us, rfl, hl⟩ := hu
      obtain ⟨vs, rfl, hm⟩ := hv
      refine ⟨rfl, fun w => ?_⟩
      have hfo : P.fieldsOf T = arr := by simp [Program.fieldsOf, h]
      show (Op.equalIn (9999 + 1) T _ _).run P w = _
      rw [run_equalIn_struct w 9999 T _ _ (by rw [hfo]; exact h) hh, hfo]
      exact (sameL_ok (P := P) 9998 hk hf hl hm (fun j v hj => by simpa using hj) (fun j v hj => by simpa using hj) hs).1 w
    · cases hs
  check p k k' u r hu hs em w := by
    unfold same2 at hs
    split at hs
    · rename_i l m
      simp only [VR] at hu
      obtain ⟨us, rfl, hl⟩ := hu
      obtain ⟨e1, e2⟩ := sameL_shape hk hl hs
      exact checkKey_struct h hf (by simpa using e1) (by simpa using e2) 9998 em w
    · cases hs

/-- the table's types of keys are such -/
def KeysOk (P : Program) (tb : Tab) : Prop := ∀ kt ∈ tb.keys, keyT P kt = true

theorem keyEq_ok (htb : ∀ T t, tb.tys.get T = some t → TyOk P T t) (hks : KeysOk P tb) {kt : Nat} {eq : Eq2} (h : keyEq tb kt = some eq) : ∃ d, EqOk P kt d eq := by
  unfold keyEq at h
  obtain ⟨t, ht, h1⟩ := ob_some h
  obtain ⟨d, hd, hk⟩ := (htb _ _ ht).und
  split at h1
  · rename_i q hq
    rw [hq] at hk
    simp only [tkM] at hk
    subst hk
    simp only [Option.some.injEq] at h1
    subst h1
    exact ⟨_, EqOk.int hd⟩
  · rename_i hq
    rw [hq] at hk
    simp only [tkM] at hk
    subst hk
    simp only [Option.some.injEq] at h1
    subst h1
    exact ⟨_, EqOk.str hd⟩
  · rename_i fs hq
    rw [hq] at hk
    simp only [tkM] at hk
    obtain ⟨arr, rfl, hfs⟩ := hk
    obtain ⟨hc, h2⟩ := bb_some h1
    obtain ⟨ks, hks1, h3⟩ := ob_some h2
    simp only [Option.some.injEq] at h3
    subst h3
    have hkt := hks kt (by simpa using hc)
    unfold keyT at hkt
    rw [hd] at hkt
    simp only [Bool.and_eq_true, Bool.not_eq_true'] at hkt
    rw [← hfs] at hks1
    exact ⟨_, EqOk.struct hd hkt.1 hkt.2 (kindsK_ok htb hks1)⟩
  · cases h1
end
end Go.Rk
