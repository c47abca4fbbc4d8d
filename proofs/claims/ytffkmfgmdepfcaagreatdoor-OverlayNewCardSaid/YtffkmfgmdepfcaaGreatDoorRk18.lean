/- The reckoner's operations that write maps; copy; make. -/
import Derived.Test.YtffkmfgmdepfcaaGreatDoorRk17
set_option linter.unusedSimpArgs false
set_option linter.unusedVariables false
set_option linter.unusedSectionVars false
namespace Go.Rk
open Go.Sl (run_bind run_underlying' run_sizeOf run_zeroValue run_isAgg add_mk run_storeCells cell_of)
open Go.RowKit
variable [Sym]

section
variable {P : Program} {tb : Tab} {p : Pl} {a : Act} {e : En} {x y z : Operand} {va vb vc r : AV} {T U : TypeId} {n : Nat}
variable {B0 : Nat} {w0 : World} {Fr : Nat → Option Obj} {s s' : S} {w : World}

def setB' (w : World) (b : Nat) (o : Obj) : World := { w with heap := w.heap.setIfInBounds b o }

theorem run_setObj {b : Nat} {o o' : Obj} (h : w.heap[b]? = some o) (hm : ∃ es c, o = .map es c) : (setObj b o').run P w = .ok () (setB' w b o') := by
  obtain ⟨es, c, rfl⟩ := hm
  simp only [setObj, Sem.run, h]
  rfl

/-- A map's entries are written anew. -/
theorem Sim.setMap (hs : Sim B0 w0 Fr p s w) {id c c' b bo S : Nat} {es es2 : Es} {l2 : List MapEntry} (hg : s.m.get id = some (.map es c)) (hp : p id = some (b, bo, S)) (hr : EsR p es2 l2) : Sim B0 w0 Fr p (s.put id (.map es2 c')) (setB' w b (.map l2.toArray c')) := by
  obtain ⟨b', bo', S', hp', hB, hF, es', hw, _⟩ := hs.mapAt hg
  rw [hp] at hp'
  cases hp'
  have hlt : b < w.heap.size := (Array.getElem?_eq_some_iff.1 hw).1
  refine hs.put ⟨hg, by intro e; cases e⟩ hp rfl rfl rfl (by simp [setB']) (fun k hk => ?_) ⟨l2, ?_, hr⟩
  · show (w.heap.setIfInBounds b _)[k]? = _
    rw [Array.getElem?_setIfInBounds_ne (Ne.symm hk)]
  · show (w.heap.setIfInBounds b _)[b]? = _
    rw [Array.getElem?_setIfInBounds_self_of_lt hlt]

theorem Sim.mapV (hs : Sim B0 w0 Fr p s w) {id c : Nat} {es : Es} {u : Value} (hv : VR p (.map id) u) (hg : s.m.get id = some (.map es c)) : ∃ b bo S l, p id = some (b, bo, S) ∧ u = .map (some b) ∧ w.heap[b]? = some (.map (List.toArray l) c) ∧ EsR p es l := by
  obtain ⟨b, bo, S, hp, hB, hF, es', hw, hes⟩ := hs.mapAt hg
  simp only [VR] at hv
  obtain ⟨b', bo', S', hp', rfl⟩ := hv
  rw [hp] at hp'
  cases hp'
  exact ⟨b, bo, S, es', hp, rfl, hw, hes⟩

theorem findAt {l : List MapEntry} {of : Option Nat} {es : Es} (hes : EsR p es l) (hlt : ∀ j, of = some j → j < es.length) : (of = none ∧ (of.bind fun j => (l[j]?).map fun e => (j, e.val) : Option (Nat × Value)) = none) ∨
    ∃ j e, of = some j ∧ l[j]? = some e ∧ (of.bind fun j => (l[j]?).map fun e => (j, e.val) : Option (Nat × Value)) = some (j, e.val) := by
  cases of with
  | none => exact .inl ⟨rfl, rfl⟩
  | some j =>
    have h := hlt j rfl
    rw [← hes.length] at h
    exact .inr ⟨j, l[j], rfl, List.getElem?_eq_getElem h, by simp [List.getElem?_eq_getElem h]⟩

theorem run_keyStays {old new : Value} (h : Instr.sameBits 10000 old new = true) : (Instr.keyThatStays old new).run P w = .ok new w := by
  simp only [Instr.keyThatStays, h, if_true, Pure.pure, Sem.run]

theorem mapUpdate_ok (ht : TabOk P tb) (hs : Sim B0 w0 Fr p s w) (ha : VR p va (a.eval x)) (hb : VR p vb (a.eval y)) (hc : VR p vc (a.eval z)) (h : oMapUpdate tb s T va vb vc = some (.val r s')) : Done P B0 w0 Fr p a.eval (.mapUpdate T x y z) w r s' := by
  have htb := ht.ty
  unfold oMapUpdate at h
  obtain ⟨t, hT, h1⟩ := ob_some h
  obtain ⟨d, hd, hk⟩ := (htb _ _ hT).und
  split at h1 <;> first | (cases h1; done) | skip
  rename_i kt el id hkk
  rw [hkk] at hk
  simp only [tkM] at hk
  subst hk
  split at h1 <;> first | (cases h1; done) | skip
  rename_i es c hg
  obtain ⟨eq, heq, h2⟩ := ob_some h1
  obtain ⟨q, hq, h3⟩ := ob_some h2
  obtain ⟨⟨es2, c2⟩, hu, h4⟩ := ob_some h3
  simp only [Option.some.injEq, Res.val.injEq] at h4
  obtain ⟨rfl, rfl⟩ := h4
  obtain ⟨de, he⟩ := keyEq_ok htb ht.keys heq
  obtain ⟨b, bo, S, l, hp, hx, hw, hes⟩ := hs.mapV ha hg
  obtain ⟨of, hf, hcase⟩ := updK_fnd hu
  have hchk := he.check p vb vb _ q hb hq false w
  have hfind := run_findKey he hf hes hb w
  intro dst tt pos after g
  rcases findAt hes hf.lt with ⟨rfl, hn⟩ | ⟨j, en, rfl, hj, hn⟩
  · simp only [Prod.mk.injEq] at hcase
    obtain ⟨rfl, rfl⟩ := hcase
    refine ⟨.skip, undef, _, p, ?_, .inr ⟨rfl, rfl⟩, Pl.le_refl p, hs.setMap (c' := c + 1) (es2 := es ++ [(vb, vc, c)]) (l2 := l ++ [{ key := a.eval y, val := a.eval z, born := c }]) hg hp (hes.append ⟨_, _, rfl, hb, hc, rfl, rfl⟩), undefVR p⟩
    rw [hn] at hfind
    simp only [execOp, hx, Instr.mapUpdate, Bind.bind, run_bind, run_underlying' hd, run_getObj hw ⟨_, _, rfl⟩, hchk, hfind, run_setObj hw ⟨_, _, rfl⟩, Pure.pure, Sem.run]
    simp
  · simp only [Prod.mk.injEq] at hcase
    obtain ⟨rfl, rfl⟩ := hcase
    obtain ⟨en', hj', hkey, hbits⟩ := hf.key he hes hb j rfl
    rw [hj] at hj'
    cases hj'
    refine ⟨.skip, undef, _, p, ?_, .inr ⟨rfl, rfl⟩, Pl.le_refl p, hs.setMap (c' := c2) (es2 := es.modify j fun e => (vb, vc, e.2.2)) (l2 := l.modify j fun e => { e with key := a.eval y, val := a.eval z }) hg hp (EsR.modify (f := fun e => (vb, vc, e.2.2)) (g := fun e => { e with key := a.eval y, val := a.eval z }) (fun x e _ _ h3 => ⟨hb, hc, h3⟩) hes j), undefVR p⟩
    rw [hn] at hfind
    have hjs : (List.toArray l)[j]? = some en := by simpa using hj
    simp only [execOp, hx, Instr.mapUpdate, Bind.bind, run_bind, run_underlying' hd, run_getObj hw ⟨_, _, rfl⟩, hchk, hfind, hjs, Option.map_some, Option.getD_some, run_keyStays hbits, run_setObj hw ⟨_, _, rfl⟩, Pure.pure, Sem.run]
    simp

theorem setB_self {b : Nat} {o : Obj} (h : w.heap[b]? = some o) : setB' w b o = w := by
  have : w.heap.setIfInBounds b o = w.heap := by
    apply Array.ext_getElem?
    intro i
    rw [Array.getElem?_setIfInBounds]
    by_cases e : b = i
    · subst e
      have := (Array.getElem?_eq_some_iff.1 h).1
      simp [this]
      exact (Array.getElem?_eq_some_iff.1 h).2.symm
    · simp [e]
  unfold setB'
  rw [this]

theorem mapEntry_ok (ht : TabOk P tb) (hs : Sim B0 w0 Fr p s w) (ha : VR p va (a.eval x)) (hb : VR p vb (a.eval y)) (h : oMapEntry tb s T va vb = some (.val r s')) : Done P B0 w0 Fr p a.eval (.mapEntry T x y) w r s' := by
  have htb := ht.ty
  unfold oMapEntry at h
  obtain ⟨t, hT, h1⟩ := ob_some h
  obtain ⟨d, hd, hk⟩ := (htb _ _ hT).und
  split at h1 <;> first | (cases h1; done) | skip
  rename_i kt el id hkk
  rw [hkk] at hk
  simp only [tkM] at hk
  subst hk
  split at h1 <;> first | (cases h1; done) | skip
  rename_i es c hg
  obtain ⟨eq, heq, h2⟩ := ob_some h1
  obtain ⟨q, hq, h3⟩ := ob_some h2
  obtain ⟨o, hfk, h4⟩ := ob_some h3
  obtain ⟨de, he⟩ := keyEq_ok htb ht.keys heq
  obtain ⟨b, bo, S, l, hp, hx, hw, hes⟩ := hs.mapV ha hg
  have hchk := he.check p vb vb _ q hb hq false w
  obtain ⟨of, hf, hr⟩ := findK_fnd hfk
  have hfind := run_findKey he hf hes hb w
  intro dst tt pos after g
  rcases findAt hes hf.lt with ⟨rfl, hn⟩ | ⟨j, en, rfl, hj, hn⟩
  · simp only [Option.bind_none, Option.map_none] at hr
    subst hr
    obtain ⟨te, hte, h5⟩ := ob_some h4
    obtain ⟨⟨es2, c2⟩, hu, h6⟩ := ob_some h5
    simp only [Option.some.injEq, Res.val.injEq] at h6
    obtain ⟨rfl, rfl⟩ := h6
    obtain ⟨zv, hz, hza⟩ := (htb _ _ hte).zero
    have hzv : VR p te.zero zv := absV_ok hza
    obtain ⟨of2, hf2, hcase⟩ := updK_fnd hu
    have hof : of2 = none := by
      have h7 := run_findKey he hf2 hes hb w
      rw [hfind, hn] at h7
      simp only [Result.ok.injEq, and_true] at h7
      rcases findAt hes hf2.lt with ⟨h8, _⟩ | ⟨j, en, h8, h9, h10⟩
      · exact h8
      · rw [h10] at h7; cases h7
    subst hof
    simp only [Prod.mk.injEq] at hcase
    obtain ⟨rfl, rfl⟩ := hcase
    refine ⟨.value (.tuple #[zv, goInt c]), .tuple #[zv, goInt c], _, p, ?_, .inl rfl, Pl.le_refl p, hs.setMap (c' := c + 1) (es2 := es ++ [(vb, te.zero, c)]) (l2 := l ++ [{ key := a.eval y, val := zv, born := c }]) hg hp (hes.append ⟨_, _, rfl, hb, hzv, rfl, rfl⟩), ?_⟩
    · rw [hn] at hfind
      simp only [execOp, hx, Instr.mapEntry, Bind.bind, run_bind, run_underlying' hd, run_getObj hw ⟨_, _, rfl⟩, hchk, hfind, run_zeroValue hz, run_setObj hw ⟨_, _, rfl⟩, Pure.pure, Sem.run]
      simp
    · simp only [VR, VRs]; exact ⟨[zv, goInt c], rfl, zv, _, rfl, hzv, _, _, rfl, rfl, rfl⟩
  · obtain ⟨en', hj', hkey, hbits⟩ := hf.key he hes hb j rfl
    rw [hj] at hj'
    cases hj'
    have hlt := hf.lt j rfl
    obtain ⟨xe, hxe⟩ : ∃ xe, es[j]? = some xe := ⟨_, List.getElem?_eq_getElem hlt⟩
    obtain ⟨me, hme, k1, k2, k3⟩ := hes.get hxe
    rw [hj] at hme
    cases hme
    simp only [Option.bind_some, hxe, Option.map_some] at hr
    subst hr
    simp only [Option.some.injEq, Res.val.injEq] at h4
    obtain ⟨rfl, rfl⟩ := h4
    have hmod : l.modify j (fun e => { e with key := a.eval y }) = l := by
      apply List.ext_getElem?
      intro i
      rw [List.getElem?_modify]
      by_cases e : j = i
      · subst e
        rw [hj]
        simp [← hkey]
      · simp [e]
    refine ⟨.value (.tuple #[en.val, goInt en.born]), .tuple #[en.val, goInt en.born], w, p, ?_, .inl rfl, Pl.le_refl p, hs, ?_⟩
    · rw [hn] at hfind
      have hjs : (List.toArray l)[j]? = some en := by simpa using hj
      simp only [execOp, hx, Instr.mapEntry, Bind.bind, run_bind, run_underlying' hd, run_getObj hw ⟨_, _, rfl⟩, hchk, hfind, hjs, Option.map_some, Option.getD_some, run_keyStays hbits, run_setObj hw ⟨_, _, rfl⟩, Pure.pure, Sem.run]
      rw [List.modify_toArray, hmod, setB_self hw]
    · simp only [VR, VRs]
      exact ⟨[en.val, goInt en.born], rfl, en.val, _, rfl, k2, _, _, rfl, by rw [goInt, k3]; rfl, rfl⟩

theorem entryStore_ok (hs : Sim B0 w0 Fr p s w) (ha : VR p va (a.eval x)) (hb : VR p vb (a.eval y)) (hc : VR p vc (a.eval z)) (h : oEntryStore s va vb vc = some (.val r s')) : Done P B0 w0 Fr p a.eval (.entryStore T x y z) w r s' := by
  unfold oEntryStore at h
  split at h <;> first | (cases h; done) | skip
  rename_i id
  split at h <;> first | (cases h; done) | skip
  rename_i es c hg
  obtain ⟨m, hm, h1⟩ := ob_some h
  obtain ⟨es2, hset, h2⟩ := ob_some h1
  simp only [Option.some.injEq, Res.val.injEq] at h2
  obtain ⟨rfl, rfl⟩ := h2
  obtain ⟨b, bo, S, l, hp, hx, hw, hes⟩ := hs.mapV ha hg
  obtain ⟨kk, hy⟩ := asN_ok hm hb
  have key : ∀ {es es2 : Es} {l : List MapEntry}, EsR p es l → setB m vc es = some es2 → ∃ j, l.findIdx? (fun e => (e.born : Int) == (m : Int)) = some j ∧ EsR p es2 (l.modify j fun e => { e with val := a.eval z }) := by
    intro es
    induction es with
    | nil => intro es2 l _ h; simp [setB] at h
    | cons hd tl ih =>
      intro es2 l hl h
      obtain ⟨k', v', b'⟩ := hd
      obtain ⟨e, q, rfl, h1, h2, h3, h4⟩ := hl
      simp only [setB] at h
      split at h
      · rename_i hbb
        have := Nat.eq_of_beq_eq_true hbb
        simp only [Option.some.injEq] at h
        subst h
        refine ⟨0, ?_, ?_⟩
        · rw [List.findIdx?_cons]
          simp [h3, ← this]
        · simp only [List.modify_zero_cons]
          exact ⟨_, q, rfl, h1, hc, h3, h4⟩
      · rename_i hbb
        have hne := Nat.ne_of_beq_eq_false hbb
        obtain ⟨r', h5, h6⟩ := ob_some h
        simp only [Option.some.injEq] at h6
        subst h6
        obtain ⟨j, h7, h8⟩ := ih h4 h5
        refine ⟨j + 1, ?_, ?_⟩
        · rw [List.findIdx?_cons]
          have : ((e.born : Int) == (m : Int)) = false := by
            rw [beq_eq_false_iff_ne]; omega
          simp [this, h7]
        · simp only [List.modify_succ_cons]
          exact ⟨e, _, rfl, h1, h2, h3, h8⟩
  obtain ⟨j, h3, h4⟩ := key hes hset
  intro dst tt pos after g
  refine ⟨.skip, undef, _, p, ?_, .inr ⟨rfl, rfl⟩, Pl.le_refl p, hs.setMap (c' := c) hg hp h4, undefVR p⟩
  have h3' : (List.toArray l).findIdx? (fun e => (e.born : Int) == (m : Int)) = some j := by simpa using h3
  simp only [execOp, hx, hy, Instr.entryStore, asInt, Bind.bind, run_bind, run_getObj hw ⟨_, _, rfl⟩, h3', run_setObj hw ⟨_, _, rfl⟩, Pure.pure, Sem.run]
  simp [asIntOf, h3, run_setObj hw ⟨_, _, rfl⟩, Pure.pure, Sem.run]

theorem delete_ok {args : Array Operand} {ats : Array TypeId} {T : Nat} {rest : List Nat} (hav : ats.toList = T :: rest) (ht : TabOk P tb) (hs : Sim B0 w0 Fr p s w) (hoe : OE p e a.eval) (hargs : opds e args.toList = some [va, vb]) (h : deleteO tb s T va vb = some (.val r s')) :
    Done P B0 w0 Fr p a.eval (.call ⟨.builtin .delete, args, ats⟩) w r s' := by
  have htb := ht.ty
  obtain ⟨u1, u2, hbc, hu1, hu2⟩ := (hoe.list hargs).two
  have he0 : args.map a.eval = #[u1, u2] := by apply Array.ext'; rw [Array.toList_map]; exact hbc
  have h0 : ats[0]? = some T := by rw [← Array.getElem?_toList, hav]; rfl
  unfold deleteO at h
  obtain ⟨t, hT, h1⟩ := ob_some h
  obtain ⟨d, hd, hk⟩ := (htb _ _ hT).und
  split at h1 <;> first | (cases h1; done) | skip
  rename_i kt el id hkk
  rw [hkk] at hk
  simp only [tkM] at hk
  subst hk
  split at h1 <;> first | (cases h1; done) | skip
  rename_i es c hg
  obtain ⟨eq, heq, h2⟩ := ob_some h1
  obtain ⟨q, hq, h3⟩ := ob_some h2
  obtain ⟨es2, hu, h4⟩ := ob_some h3
  simp only [Option.some.injEq, Res.val.injEq] at h4
  obtain ⟨rfl, rfl⟩ := h4
  obtain ⟨de, he⟩ := keyEq_ok htb ht.keys heq
  obtain ⟨b, bo, S, l, hp, hx, hw, hes⟩ := hs.mapV hu1 hg
  obtain ⟨of, hf, hcase⟩ := delK_fnd hu
  have hchk : ∀ em, (Instr.checkKey em 10000 kt u2).run P w = .ok () w := fun em => he.check p vb vb _ q hu2 hq em w
  have hfind := run_findKey he hf hes hu2 w
  intro dst tt pos after g
  subst hx
  rcases findAt hes hf.lt with ⟨rfl, hn⟩ | ⟨j, en, rfl, hj, hn⟩
  · simp only at hcase
    subst hcase
    refine ⟨.value (.tuple #[]), .tuple #[], _, p, ?_, .inl rfl, Pl.le_refl p, hs.setMap (c' := c) hg hp hes, undefVR p⟩
    rw [hn] at hfind
    simp only [execOp, resolve, invoke, Go.builtin, Builtin.delete_, h0, he0, List.getElem?_toArray, List.getElem?_cons_zero, List.getElem?_cons_succ, Bind.bind, run_bind, run_underlying' hd, run_getObj hw ⟨_, _, rfl⟩, hchk, hfind, run_setObj hw ⟨_, _, rfl⟩, Pure.pure, Sem.run]
  · simp only at hcase
    subst hcase
    refine ⟨.value (.tuple #[]), .tuple #[], _, p, ?_, .inl rfl, Pl.le_refl p, hs.setMap (c' := c) hg hp (hes.eraseIdx j), undefVR p⟩
    rw [hn] at hfind
    simp only [execOp, resolve, invoke, Go.builtin, Builtin.delete_, h0, he0, List.getElem?_toArray, List.getElem?_cons_zero, List.getElem?_cons_succ, Bind.bind, run_bind, run_underlying' hd, run_getObj hw ⟨_, _, rfl⟩, hchk, hfind, run_setObj hw ⟨_, _, rfl⟩, Pure.pure, Sem.run]
    simp

theorem copy_ok {args : Array Operand} {ats : Array TypeId} {T : Nat} {rest : List Nat} (hav : ats.toList = T :: rest) (ht : TabOk P tb) (hs : Sim B0 w0 Fr p s w) (hoe : OE p e a.eval) (hargs : opds e args.toList = some [va, vb]) (h : copyO tb s T va vb = some (.val r s')) :
    Done P B0 w0 Fr p a.eval (.call ⟨.builtin .copy, args, ats⟩) w r s' := by
  have htb := ht.ty
  obtain ⟨u1, u2, hbc, hu1, hu2⟩ := (hoe.list hargs).two
  have he0 : args.map a.eval = #[u1, u2] := by apply Array.ext'; rw [Array.toList_map]; exact hbc
  have h0 : ats[0]? = some T := by rw [← Array.getElem?_toList, hav]; rfl
  unfold copyO at h
  obtain ⟨⟨el, te⟩, hel, h1⟩ := ob_some h
  obtain ⟨ny, hny, h2⟩ := ob_some h1
  obtain ⟨nx, hnx, h3⟩ := ob_some h2
  obtain ⟨new, hnew, h4⟩ := ob_some h3
  clear h h1 h2 h3
  obtain ⟨hT, hte⟩ := elemOf_some htb hel
  obtain ⟨vs, hvs, hvl, hfc, hlk, b2, c2, rfl⟩ := slcCells_ok (P := P) hs hu2 hny (Nat.min_le_left ny nx) hnew
  intro dst tt pos after g
  have hx : ∀ {base : Option Addr} {c : Nat} {w' : World}, u1 = .slice base nx c → (match base with | some a => (storeCells a vs).run P w | none => .ok () w) = .ok () w' →
      (execOp a.eval ⟨dst, .call ⟨.builtin .copy, args, ats⟩, tt, pos, after, g⟩).run P w = .ok (.value (.int .i64 (Nat.min ny nx))) w' := fun {base c w'} hu hst => by
    subst hu
    cases base with
    | none =>
      simp only [Result.ok.injEq, true_and] at hst
      subst hst
      simp only [execOp, resolve, invoke, Go.builtin, Builtin.copy_, h0, he0, List.getElem?_toArray, List.getElem?_cons_zero, List.getElem?_cons_succ, Bind.bind, run_bind, run_underlying' hT, run_sizeOf hte.size, hlk, hfc, Pure.pure, Sem.run, goInt]
    | some ad =>
      simp only at hst
      simp only [execOp, resolve, invoke, Go.builtin, Builtin.copy_, h0, he0, List.getElem?_toArray, List.getElem?_cons_zero, List.getElem?_cons_succ, Bind.bind, run_bind, run_underlying' hT, run_sizeOf hte.size, hlk, hfc, List.toList_toArray, hst, Pure.pure, Sem.run, goInt]
  split at h4 <;> first | (cases h4; done) | skip
  · simp only [Option.some.injEq, Res.val.injEq] at h4
    obtain ⟨rfl, rfl⟩ := h4
    simp only [slcLen, Option.some.injEq] at hnx
    subst hnx
    simp only [VR] at hu1
    exact ⟨_, _, w, p, hx hu1 rfl, .inl rfl, Pl.le_refl p, hs, VR_int p _ _⟩
  · rename_i id off n' c
    obtain ⟨s2, hw, h5⟩ := ob_some h4
    simp only [Option.some.injEq, Res.val.injEq] at h5
    obtain ⟨rfl, rfl⟩ := h5
    simp only [slcLen, Option.some.injEq] at hnx
    subst hnx
    obtain ⟨b, bo, S, hp, hle, w', hst, hs'⟩ := hs.write P hvs hw
    simp only [VR] at hu1
    obtain ⟨b', bo', S', hp', hu1⟩ := hu1
    rw [hp] at hp'
    cases hp'
    exact ⟨_, _, w', p, hx hu1 hst, .inl rfl, Pl.le_refl p, hs', VR_int p _ _⟩
  · rename_i id off n' z' po
    obtain ⟨s2, hw, h5⟩ := ob_some h4
    simp only [Option.some.injEq, Res.val.injEq] at h5
    obtain ⟨rfl, rfl⟩ := h5
    simp only [slcLen, Option.some.injEq] at hnx
    subst hnx
    obtain ⟨b, bo, S, hp, hle, w', hst, hs'⟩ := hs.write P hvs hw
    simp only [VR] at hu1
    obtain ⟨b', bo', S', hp', hz0, hS, hu1⟩ := hu1
    rw [hp] at hp'
    cases hp'
    refine ⟨_, _, w', p, hx hu1 ?_, .inl rfl, Pl.le_refl p, hs', VR_int p _ _⟩
    by_cases hc0 : (S - off) / z' = 0
    · have hlt : S - off < z' := by
        rcases Nat.lt_or_ge (S - off) z' with h | h
        · exact h
        · exact absurd (Nat.div_pos h hz0) (by omega)
      have hn0 : n' = 0 := by
        rcases Nat.eq_zero_or_pos n' with h | h
        · exact h
        · have : 1 * z' ≤ n' * z' := Nat.mul_le_mul_right _ h
          omega
      subst hn0
      have hv0 : vs = [] := List.length_eq_zero_iff.1 (by simpa using hvl)
      subst hv0
      exact hst
    · simp only [hc0, if_false]; exact hst

theorem makeSlice_ok (ht : TabOk P tb) (hs : Sim B0 w0 Fr p s w) (hoe : OE p e a.eval) (h : oMakeSlice tb e s T x y = some (.val r s')) : Done P B0 w0 Fr p a.eval (.makeSlice T x y) w r s' := by
  have htb := ht.ty
  unfold oMakeSlice at h
  obtain ⟨⟨el, te⟩, hel, h1⟩ := ob_some h
  obtain ⟨v1, hv1, h2⟩ := ob_some h1
  obtain ⟨l, hl, h3⟩ := ob_some h2
  obtain ⟨v2, hv2, h4⟩ := ob_some h3
  obtain ⟨c, hc, h5⟩ := ob_some h4
  clear h h1 h2 h3 h4
  split at h5 <;> first | (cases h5; done) | skip
  rename_i hck
  simp only [Option.some.injEq, Res.val.injEq] at h5
  obtain ⟨rfl, rfl⟩ := h5
  simp only [Bool.and_eq_true] at hck
  have hlc := Nat.le_of_ble_eq_true hck.1.1
  have hbig := Nat.le_of_ble_eq_true hck.1.2
  obtain ⟨hT, hte⟩ := elemOf_some htb hel
  obtain ⟨zv, hz, hza⟩ := hte.zero
  have hzs := hte.zsize hz
  obtain ⟨k1, hu1⟩ := asN_ok hl (hoe _ _ hv1)
  obtain ⟨k2, hu2⟩ := asN_ok hc (hoe _ _ hv2)
  have hcle : c ≤ 1000000 := Nat.le_trans (Nat.le_mul_of_pos_right _ (by omega)) hbig
  have hcb : c * te.bytes ≤ c * (te.bytes + 1) := Nat.mul_le_mul_left _ (by omega)
  have hrep := ((absV_ok (p := p) hza).cells).rep c
  rw [← range_cells, hzs] at hrep
  have hd := rowMade (T := el) (n := l) (c := c) (s := s) hrep
  refine hd.done (op := .makeSlice T x y) hs ⟨fun dst tt pos after g w => ?_⟩
  obtain ⟨i0, hi0, hib⟩ := Sl.run_typeInfo_bytes (w := w) hte.bytes
  have hwl : IntKind.i64.wrap (l : Int) = (l : Int) := IntWalk.i64_in _ (by omega)
  have hwc : IntKind.i64.wrap (c : Int) = (c : Int) := IntWalk.i64_in _ (by omega)
  have hbi : ¬ ((i0.bytes : Int) * (c : Int) > 2 ^ 48) := by
    rw [hib]
    have h1 : ((te.bytes : Int) * (c : Int)) = ((c * te.bytes : Nat) : Int) := by rw [Nat.mul_comm]; simp
    rw [h1]
    omega
  have hc0 : ¬ ((c : Int) < 0) := by omega
  have hl0 : ¬ ((l : Int) < 0) := by omega
  have hlc' : ¬ ((l : Int) > (c : Int)) := by omega
  simp only [execOp, hu1, hu2, Instr.makeSlice, asInt, asIntOf, Bind.bind, run_bind, run_underlying' hT, hi0, hwl, hwc, hbi, hc0, hl0, hlc', Pure.pure, Sem.run, decide_false, Bool.or_self, Bool.false_eq_true, if_false, or_self, Int.toNat_natCast, Sl.run_askRoom, run_sizeOf hte.size]
  by_cases h0 : c * te.size = 0
  · have er : ∀ f : Nat → Value, (Array.range 0).map f = #[] := fun f => Array.ext' (by simp)
    have hcells : (#[] : Array Value) = (((Array.range (c * te.size)).map fun x => zv.cells[x % te.size]!).toList).toArray := by rw [h0, er]
    simp only [h0, if_true, run_bind, Bind.bind, Pure.pure, Sem.run, er, newRow, newObj]
    rfl
  · simp only [h0, if_false, run_bind, run_zeroValue hz, Pure.pure, Sem.run, Bind.bind, newRow, newObj]
    rw [hzs, Array.toArray_toList]
    rfl
end
end Go.Rk
