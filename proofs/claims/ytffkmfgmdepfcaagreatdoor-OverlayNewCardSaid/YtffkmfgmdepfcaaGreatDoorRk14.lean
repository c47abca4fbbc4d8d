/- The reckoner's quiet operations, all of them. -/
import Derived.Test.YtffkmfgmdepfcaaGreatDoorRk13
set_option linter.unusedSimpArgs false
set_option linter.unusedVariables false
set_option linter.unusedSectionVars false
namespace Go.Rk
open Go.Sl (run_bind run_underlying' run_sizeOf run_zeroValue run_isAgg)
open Go.RowKit
variable [Sym]

section
variable {P : Program} {tb : Tab} {p : Pl} {a : Act} {e : En} {x y : Operand} {va vb r : AV} {T U : TypeId} {n : Nat}
variable {B0 : Nat} {w0 : World} {Fr : Nat → Option Obj} {s s' : S} {w : World}

theorem OE.glob {ρ : Operand → Value} (h : OE p e ρ) {x : Operand} {v : AV} (hx : opd e x = some v) : VR p v (ρ x) := h x v hx

theorem move_ok (hoe : OE p e a.eval) (hx : opd e x = some r) : ∃ u, VR p r u ∧ PR P a.eval (.move x) u :=
  ⟨_, hoe _ _ hx, fun dst t pos after g w => by simp [execOp, Bind.bind, Sem.bind, Pure.pure, Sem.run]⟩
theorem assign_ok (hoe : OE p e a.eval) (hx : opd e x = some r) : ∃ u, VR p r u ∧ PR P a.eval (.assign x) u :=
  ⟨_, hoe _ _ hx, fun dst t pos after g w => by simp [execOp, Bind.bind, Sem.bind, Pure.pure, Sem.run]⟩
theorem pick_ok {c : Operand} (hoe : OE p e a.eval) (h : oPick e c x y = some r) : ∃ u, VR p r u ∧ PR P a.eval (.pick c x y) u := by
  unfold oPick at h
  obtain ⟨vc, hc, h1⟩ := ob_some h
  have hvc := hoe _ _ hc
  split at h1
  · simp only [VR] at hvc
    exact ⟨_, hoe _ _ h1, fun dst t pos after g w => by simp [execOp, hvc, asBool, Bind.bind, Sem.bind, Pure.pure, Sem.run]⟩
  · simp only [VR] at hvc
    exact ⟨_, hoe _ _ h1, fun dst t pos after g w => by simp [execOp, hvc, asBool, Bind.bind, Sem.bind, Pure.pure, Sem.run]⟩
  · cases h1

theorem slcLen_ok {v : AV} {u : Value} {m : Nat} (h : slcLen v = some m) (hv : VR p v u) : (∃ b c, u = .slice b m c) ∨ ∃ s, u = .string s ∧ s.size = m := by
  unfold slcLen at h
  split at h <;> first | (cases h; done) | skip
  all_goals simp only [Option.some.injEq] at h
  · subst h; simp only [VR] at hv; exact .inl ⟨_, _, hv⟩
  · subst h; simp only [VR] at hv; obtain ⟨_, _, _, _, hv⟩ := hv; exact .inl ⟨_, _, hv⟩
  · subst h; simp only [VR] at hv; obtain ⟨_, _, _, _, _, _, hv⟩ := hv; exact .inl ⟨_, _, hv⟩
  · subst h; simp only [VR] at hv; obtain ⟨s, hs, es⟩ := hv; exact .inr ⟨s, hs, str_size es⟩

theorem Sim.mapAt (hs : Sim B0 w0 Fr p s w) {id c : Nat} {es : Es} (hg : s.m.get id = some (.map es c)) : ∃ b bo S, p id = some (b, bo, S) ∧ B0 ≤ b ∧ Fr b = none ∧ ∃ es', w.heap[b]? = some (.map (List.toArray es') c) ∧ EsR p es es' := by
  obtain ⟨b, bo, S, hp, hor, hB, hF⟩ := hs.live id _ ⟨hg, by intro e; cases e⟩
  exact ⟨b, bo, S, hp, hB, hF, hor⟩
theorem run_getObj {b : Nat} {o : Obj} (h : w.heap[b]? = some o) (hm : ∃ es c, o = .map es c) : (getObj b).run P w = .ok o w := by
  obtain ⟨es, c, rfl⟩ := hm
  simp only [getObj, Sem.run, h]

theorem len_ok {args : Array Operand} {T : TypeId} {ats : List TypeId} {av : Array TypeId} (hav : av.toList = T :: ats) (htb : ∀ T t, tb.tys.get T = some t → TyOk P T t) (hs : Sim B0 w0 Fr p s w) (hoe : OE p e a.eval) (hargs : opds e args.toList = some [va]) (h : lenO tb s T va = some (.val r s')) :
    s' = s ∧ ∃ u, VR p r u ∧ PW P a.eval (.call ⟨.builtin .len, args, av⟩) u w := by
  obtain ⟨u, hbc, hu⟩ := (hoe.list hargs).single
  have he : (args.map a.eval).toList = [u] := by rw [Array.toList_map]; exact hbc
  have hat0 : av[0]? = some T := by rw [← Array.getElem?_toList, hav]; rfl
  have har0 : (args.map a.eval)[0]? = some u := by rw [← Array.getElem?_toList, he]; rfl
  unfold lenO at h
  obtain ⟨t, ht, h1⟩ := ob_some h
  obtain ⟨d, hd, hk⟩ := (htb _ _ ht).und
  split at h1
  · obtain ⟨hm, h2⟩ := bb_some h1
    simp only [Option.some.injEq, Res.val.injEq] at h2
    obtain ⟨rfl, rfl⟩ := h2
    refine ⟨rfl, _, VR_int p _ _, fun dst tt pos after g => ?_⟩
    simp only [VR] at hu
    subst hu
    cases hkk : t.k <;> rw [hkk] at hm hk <;> simp only [TK.isMap] at hm <;> first | (cases hm; done) | skip
    simp only [tkM] at hk
    subst hk
    simp only [execOp, resolve, Bind.bind, run_bind, Pure.pure, Sem.run, invoke, Go.builtin, Builtin.len_, har0, hat0, run_underlying' hd, goInt]
  · rename_i id
    split at h1
    · rename_i es c hg
      obtain ⟨hm, h2⟩ := bb_some h1
      simp only [Option.some.injEq, Res.val.injEq] at h2
      obtain ⟨rfl, rfl⟩ := h2
      obtain ⟨b, bo, S, hp, hB, hF, es', hw, hes⟩ := hs.mapAt hg
      refine ⟨rfl, _, VR_int p _ _, fun dst tt pos after g => ?_⟩
      simp only [VR] at hu
      obtain ⟨b', bo', S', hp', rfl⟩ := hu
      rw [hp] at hp'
      cases hp'
      cases hkk : t.k <;> rw [hkk] at hm hk <;> simp only [TK.isMap] at hm <;> first | (cases hm; done) | skip
      simp only [tkM] at hk
      subst hk
      simp only [execOp, resolve, Bind.bind, run_bind, Pure.pure, Sem.run, invoke, Go.builtin, Builtin.len_, har0, hat0, run_underlying' hd, run_getObj hw ⟨_, _, rfl⟩, goInt, List.size_toArray, hes.length]
    · cases h1
  · obtain ⟨hm, h2⟩ := bb_some h1
    obtain ⟨m, h3, h4⟩ := ob_some h2
    simp only [Option.some.injEq, Res.val.injEq] at h4
    obtain ⟨rfl, rfl⟩ := h4
    refine ⟨rfl, _, VR_int p _ _, fun dst tt pos after g => ?_⟩
    have hm' : (t.k = .str ∧ ∃ l, va = .str l) ∨ (∃ e, t.k = .slice e) ∧ (∀ l, va ≠ .str l) := by
      cases hkk : t.k <;> rw [hkk] at hm <;> cases va <;> simp only [TK.lenS] at hm <;> first | (cases hm; done) | exact .inl ⟨rfl, _, rfl⟩ | exact .inr ⟨⟨_, rfl⟩, fun _ h => by cases h⟩
    rcases hm' with ⟨hkk, l, rfl⟩ | ⟨⟨el, hkk⟩, hne⟩
    · rw [hkk] at hk
      simp only [tkM] at hk
      subst hk
      simp only [slcLen, Option.some.injEq] at h3
      simp only [VR] at hu
      obtain ⟨z, rfl, hz⟩ := hu
      have := str_size hz
      rw [← h3, ← this]
      simp only [execOp, resolve, Bind.bind, run_bind, Pure.pure, Sem.run, invoke, Go.builtin, Builtin.len_, har0, hat0, run_underlying' hd, goInt]
    · rw [hkk] at hk
      simp only [tkM] at hk
      subst hk
      rcases slcLen_ok h3 hu with ⟨b, c, rfl⟩ | ⟨z, rfl, hz⟩
      · simp only [execOp, resolve, Bind.bind, run_bind, Pure.pure, Sem.run, invoke, Go.builtin, Builtin.len_, har0, hat0, run_underlying' hd, goInt]
      · exfalso
        cases va <;> simp only [VR] at hu <;> first | exact hne _ rfl | (cases hu; done) | (obtain ⟨_, _, _, _, hu⟩ := hu; cases hu; done) | (obtain ⟨_, _, _, _, _, _, hu⟩ := hu; cases hu; done) | (obtain ⟨_, _, hu, _⟩ := hu; cases hu; done) | (obtain ⟨_, hu, _⟩ := hu; cases hu; done) | (cases h3; done)

theorem lookup_ok {ok : Bool} (htb : ∀ T t, tb.tys.get T = some t → TyOk P T t) (hks : KeysOk P tb) (hs : Sim B0 w0 Fr p s w) (ha : VR p va (a.eval x)) (hb : VR p vb (a.eval y)) (h : oLookup tb s T va vb ok = some r) : ∃ u, VR p r u ∧ PW P a.eval (.lookup T x y ok) u w := by
  unfold oLookup at h
  obtain ⟨t, ht, h1⟩ := ob_some h
  obtain ⟨d, hd, hk⟩ := (htb _ _ ht).und
  split at h1
  · rename_i kt el hkk
    rw [hkk] at hk
    simp only [tkM] at hk
    subst hk
    obtain ⟨eq, heq, h2⟩ := ob_some h1
    obtain ⟨q, hq, h3⟩ := ob_some h2
    obtain ⟨de, he⟩ := keyEq_ok htb hks heq
    obtain ⟨o, h4, h5⟩ := ob_some h3
    have hchk : ∀ em, (Instr.checkKey em 10000 kt (a.eval y)).run P w = .ok () w := fun em => he.check p vb vb _ q hb hq em w
    -- the entries
    have ent : ∃ (es : Es) (es' : List MapEntry) (of : Option Nat), EsR p es es' ∧ Fnd eq vb es of ∧ o = (of.bind (es[·]?)).map (·.2) ∧
        ((a.eval x = .map none ∧ es' = []) ∨ ∃ b c, a.eval x = .map (some b) ∧ w.heap[b]? = some (.map (List.toArray es') c)) := by
      split at h4
      · simp only [VR] at ha
        simp only [Option.some.injEq] at h4
        subst h4
        exact ⟨[], [], none, rfl, .nil, rfl, .inl ⟨ha, rfl⟩⟩
      · rename_i id
        split at h4
        · rename_i es c hg
          obtain ⟨b, bo, S, hp, hB, hF, es', hw, hes⟩ := hs.mapAt hg
          simp only [VR] at ha
          obtain ⟨b', bo', S', hp', ha⟩ := ha
          rw [hp] at hp'
          cases hp'
          obtain ⟨of, hf, hr⟩ := findK_fnd h4
          exact ⟨es, es', of, hes, hf, hr, .inr ⟨b, c, ha, hw⟩⟩
        · cases h4
      · cases h4
    obtain ⟨es, es', of, hes, hf, hr, hx⟩ := ent
    have hfind := run_findKey he hf hes hb w
    -- what is found
    have fin : ∀ u, (match (of.bind fun j => (es'[j]?).map fun e => (j, e.val) : Option (Nat × Value)) with
          | some (_, v) => u = (if ok then .tuple #[v, .bool true] else v)
          | none => ∃ z, (zeroValue el).run P w = .ok z w ∧ u = (if ok then .tuple #[z, .bool false] else z)) → PW P a.eval (.lookup T x y ok) u w := by
      intro u hu dst tt pos after g
      rcases hx with ⟨hx, rfl⟩ | ⟨b, c, hx, hw⟩
      · simp only [execOp, hx, Instr.lookup, Bind.bind, run_bind, run_underlying' hd, Pure.pure, Sem.run, hchk, hfind]
        cases hq : (of.bind fun j => (([] : List MapEntry)[j]?).map fun e => (j, e.val) : Option (Nat × Value)) with
        | none =>
          rw [hq] at hu
          obtain ⟨z, hz, rfl⟩ := hu
          simp only [run_bind, hz, Pure.pure, Sem.run]
        | some q =>
          rw [hq] at hu
          simp only at hu
          subst hu
          simp only [run_bind, Pure.pure, Sem.run]
      · simp only [execOp, hx, Instr.lookup, Bind.bind, run_bind, run_underlying' hd, Pure.pure, Sem.run, run_getObj hw ⟨_, _, rfl⟩, hchk, hfind]
        cases hq : (of.bind fun j => (es'[j]?).map fun e => (j, e.val) : Option (Nat × Value)) with
        | none =>
          rw [hq] at hu
          obtain ⟨z, hz, rfl⟩ := hu
          simp only [run_bind, hz, Pure.pure, Sem.run]
        | some q =>
          rw [hq] at hu
          simp only at hu
          subst hu
          simp only [run_bind, Pure.pure, Sem.run]
    cases of with
    | none =>
      simp only [Option.bind_none, Option.map_none] at hr
      subst hr
      obtain ⟨te, hte, h6⟩ := ob_some h5
      simp only [Option.some.injEq] at h6
      obtain ⟨z, hz, hza⟩ := (htb _ _ hte).zero
      refine ⟨if ok then .tuple #[z, .bool false] else z, ?_, fin _ ⟨z, run_zeroValue hz w, rfl⟩⟩
      subst h6
      cases ok with
      | true => simp only [if_true, VR, VRs]; exact ⟨[z, .bool false], rfl, z, _, rfl, absV_ok hza, _, _, rfl, rfl, rfl⟩
      | false => exact absV_ok hza
    | some j =>
      have hlt := hf.lt j rfl
      obtain ⟨xe, hxe⟩ : ∃ xe, es[j]? = some xe := ⟨_, List.getElem?_eq_getElem hlt⟩
      obtain ⟨me, hme, k1, k2, k3⟩ := hes.get hxe
      simp only [Option.bind_some, hxe, Option.map_some] at hr
      subst hr
      simp only [Option.some.injEq] at h5
      refine ⟨if ok then .tuple #[me.val, .bool true] else me.val, ?_, fin _ (by simp only [Option.bind_some, hme, Option.map_some])⟩
      subst h5
      cases ok with
      | true => simp only [if_true, VR, VRs]; exact ⟨[me.val, .bool true], rfl, me.val, _, rfl, k2, _, _, rfl, rfl, rfl⟩
      | false => exact k2
  · cases h1
end
end Go.Rk
