/- The reckoner's operations, all of them. -/
import Derived.Test.YtffkmfgmdepfcaaGreatDoorRk18
set_option linter.unusedSimpArgs false
set_option linter.unusedVariables false
set_option linter.unusedSectionVars false
namespace Go.Rk
open Go.Sl (run_bind run_underlying' run_sizeOf run_zeroValue run_isAgg add_mk run_storeCells cell_of)
open Go.RowKit
variable [Sym]

section
variable {P : Program} {tb : Tab} {p : Pl} {a : Act} {e : En} {x y z : Operand} {va vb vc r : AV} {T U : TypeId} {n : Nat}
variable {B0 : Nat} {w0 : World} {Fr : Nat → Option Obj} {s s' : S} {w : World}

theorem quiet_done {op : Op} {m : Bool} (ht : TabOk P tb) (hq : readsMem op = some m) (hs : Sim B0 w0 Fr p s w) (hoe : OE p e a.eval) (h : exOp tb e s op = some (.val r s')) : Done P B0 w0 Fr p a.eval op w r s' := fun dst t pos after g => by
  obtain ⟨h1, u, h2, h3⟩ := exOp_quiet ht hq hs hoe h
  subst h1
  exact ⟨_, u, w, p, h3.1 dst t pos after g, .inl rfl, Pl.le_refl p, hs, h2⟩

theorem exOp_ok {op : Op} (ht : TabOk P tb) (hs : Sim B0 w0 Fr p s w) (hoe : OE p e a.eval) (h : exOp tb e s op = some (.val r s')) : Done P B0 w0 Fr p a.eval op w r s' := by
  cases hq : readsMem op with
  | some m => exact quiet_done ht hq hs hoe h
  | none =>
    cases hf : floatOp op with
    | true =>
      obtain ⟨ao, ob, mk, Sz, h1, h2⟩ := float_ok (P := P) ht hf hoe h
      exact h2.done hs h1
    | false =>
      cases op <;> first | (cases hq; done) | (cases hf; done) | (exact absurd h (by intro h; cases h)) | skip
      case store T x y =>
        obtain ⟨va, h1, h2⟩ := ob_some (show ob (opd e x) _ = _ from h)
        obtain ⟨vb, h3, h4⟩ := ob_some h2
        obtain ⟨s2, h5, h6⟩ := ob_some h4
        simp only [Option.some.injEq, Res.val.injEq] at h6
        obtain ⟨rfl, rfl⟩ := h6
        exact store_ok ht.ty hs (hoe _ _ h1) (hoe _ _ h3) h5
      case makeMap T o =>
        cases o with
        | none => cases hf
        | some _ => cases h
      case makeSlice T x y => exact makeSlice_ok ht hs hoe h
      case mapUpdate T m k x =>
        obtain ⟨va, h1, h2⟩ := ob_some (show ob (opd e m) _ = _ from h)
        obtain ⟨vb, h3, h4⟩ := ob_some h2
        obtain ⟨vc, h5, h6⟩ := ob_some h4
        exact mapUpdate_ok ht hs (hoe _ _ h1) (hoe _ _ h3) (hoe _ _ h5) h6
      case mapEntry T m k =>
        obtain ⟨va, h1, h2⟩ := ob_some (show ob (opd e m) _ = _ from h)
        obtain ⟨vb, h3, h4⟩ := ob_some h2
        exact mapEntry_ok ht hs (hoe _ _ h1) (hoe _ _ h3) h4
      case entryStore T m b x =>
        obtain ⟨va, h1, h2⟩ := ob_some (show ob (opd e m) _ = _ from h)
        obtain ⟨vb, h3, h4⟩ := ob_some h2
        obtain ⟨vc, h5, h6⟩ := ob_some h4
        exact entryStore_ok hs (hoe _ _ h1) (hoe _ _ h3) (hoe _ _ h5) h6
      case call c =>
        obtain ⟨callee, args, ats⟩ := c
        obtain ⟨l, hl, h1⟩ := ob_some (show ob (opds e args.toList) _ = _ from h)
        cases callee with
        | builtin b =>
          cases b <;> first | (cases hq; done) | (exact absurd h1 (by intro h; cases h)) | skip
          · have h2 : (match ats.toList, l with | T :: T1 :: _, [x, y] => appendO tb s T T1 x y | _, _ => none) = some (.val r s') := h1
            split at h2 <;> first | (cases h2; done) | skip
            rename_i hts
            exact append_ok hts ht hs hoe hl h2
          · have h2 : (match ats.toList, l with | T :: _, [x, y] => copyO tb s T x y | _, _ => none) = some (.val r s') := h1
            split at h2 <;> first | (cases h2; done) | skip
            rename_i hts
            exact copy_ok hts ht hs hoe hl h2
          · have h2 : (match ats.toList, l with | T :: _, [m, k] => deleteO tb s T m k | _, _ => none) = some (.val r s') := h1
            split at h2 <;> first | (cases h2; done) | skip
            rename_i hts
            exact delete_ok hts ht hs hoe hl h2
        | value f =>
          obtain ⟨vf, hf, h2⟩ := ob_some (show ob (opd e f) _ = _ from h1)
          split at h2 <;> cases h2
        | invoke rc nm =>
          obtain ⟨vf, hf, h2⟩ := ob_some (show ob (opd e rc) _ = _ from h1)
          split at h2 <;> first | (cases h2; done) | skip
          obtain ⟨f, hfm, h3⟩ := ob_some h2
          cases h3

/-- no call -/
def noC : Option Res → Prop
  | some (.call _ _) => False
  | _ => True
theorem noC_pv {v : Option AV} : noC (pv s v) := by unfold pv; split <;> trivial
theorem noC_ob {α : Type} {x : Option α} {f : α → Option Res} (h : ∀ a, noC (f a)) : noC (ob x f) := by
  cases x with
  | none => trivial
  | some a => exact h a
theorem noC_bb {c : Bool} {x : Option Res} (h : noC x) : noC (bb c x none) := by cases c; trivial; exact h
theorem noC_grown {old new : List AV} {n z : Nat} : noC (grown s old new n z) := by unfold grown; split <;> trivial
theorem noC_appendTo {z k : Nat} {new : List AV} {x : AV} : noC (appendTo s z k new x) := by
  unfold appendTo
  split
  · split
    · trivial
    · exact noC_grown
  · split
    · exact noC_ob fun _ => trivial
    · exact noC_ob fun _ => noC_grown
  · split
    · trivial
    · split
      · split
        · exact noC_ob fun _ => trivial
        · exact noC_ob fun _ => noC_grown
      · trivial
  · trivial
theorem noC_builtin {b : Builtin} {ts : List Nat} {args : List AV} : noC (builtinO tb s b ts args) := by
  unfold builtinO
  split
  · split
    · unfold lenO
      refine noC_ob fun t => ?_
      split
      · exact noC_bb trivial
      · split
        · exact noC_bb trivial
        · trivial
      · exact noC_bb (noC_ob fun _ => trivial)
    · trivial
  · split
    · unfold appendO
      exact noC_ob fun _ => noC_ob fun _ => noC_bb (noC_ob fun _ => noC_ob fun _ => noC_bb (noC_ob fun _ => noC_bb noC_appendTo))
    · trivial
  · split
    · unfold maxO; split <;> trivial
    · trivial
  · split
    · unfold minO; split <;> trivial
    · trivial
  · split
    · unfold copyO
      refine noC_ob fun _ => noC_ob fun _ => noC_ob fun _ => noC_ob fun _ => ?_
      split
      · trivial
      · exact noC_ob fun _ => trivial
      · exact noC_ob fun _ => trivial
      · trivial
    · trivial
  · split
    · unfold deleteO
      refine noC_ob fun _ => ?_
      split
      · split
        · exact noC_ob fun _ => noC_ob fun _ => noC_ob fun _ => trivial
        · trivial
      · trivial
    · trivial
  · trivial

theorem call_only {op : Op} (h : ¬ noC (exOp tb e s op)) : ∃ c, op = .call c := by
  have hp : ∀ v : Option AV, ¬ noC (pv s v) → False := fun v h => h noC_pv
  cases op
  case call c => exact ⟨c, rfl⟩
  case store T x y => exact (h (noC_ob fun _ => noC_ob fun _ => noC_ob fun _ => trivial)).elim
  case alloc T => exact (h (noC_ob fun _ => trivial)).elim
  case box T x => exact (h (noC_ob fun _ => trivial)).elim
  case buildSlice T n ps => exact (h (noC_ob fun _ => noC_ob fun _ => noC_bb (noC_ob fun _ => trivial))).elim
  case makeSlice T x y =>
    refine (h (noC_ob fun _ => noC_ob fun _ => noC_ob fun _ => noC_ob fun _ => noC_ob fun _ => ?_)).elim
    split <;> trivial
  case makeMap T o => cases o <;> exact absurd trivial h
  case slice T x lo hi mx => cases mx <;> first | exact absurd noC_pv h | exact absurd trivial h
  case mapUpdate T m k x =>
    refine (h (noC_ob fun _ => noC_ob fun _ => noC_ob fun _ => noC_ob fun _ => ?_)).elim
    split
    · split
      · exact noC_ob fun _ => noC_ob fun _ => noC_ob fun _ => trivial
      · trivial
    · trivial
  case mapEntry T m k =>
    refine (h (noC_ob fun _ => noC_ob fun _ => noC_ob fun _ => ?_)).elim
    split
    · split
      · refine noC_ob fun _ => noC_ob fun _ => noC_ob fun _ => ?_
        split
        · trivial
        · exact noC_ob fun _ => noC_ob fun _ => trivial
      · trivial
    · trivial
  case entryStore T m b x =>
    refine (h (noC_ob fun _ => noC_ob fun _ => noC_ob fun _ => ?_)).elim
    unfold oEntryStore
    split
    · split
      · exact noC_ob fun _ => noC_ob fun _ => trivial
      · trivial
    · trivial
  all_goals first
    | exact absurd noC_pv h
    | exact absurd trivial h

/-- a call is entered -/
theorem exOp_call {op : Op} {f : Nat} {args : List AV} (ht : TabOk P tb) (hb : Sl.HasBody P f) (hoe : OE p e a.eval) (h : exOp tb e s op = some (.call f args)) : ∃ vs, VRs p args vs ∧ ∀ dst t pos after g w, (execOp a.eval ⟨dst, op, t, pos, after, g⟩).run P w = .ok (.enter f vs.toArray) w := by
  obtain ⟨c, rfl⟩ := call_only (tb := tb) (e := e) (s := s) (op := op) (by rw [h]; exact fun h => h)
  obtain ⟨callee, args', ats⟩ := c
  obtain ⟨l, hl, h1⟩ := ob_some (show ob (opds e args'.toList) _ = _ from h)
  have hla := hoe.list hl
  cases callee with
  | builtin b =>
    have := noC_builtin (tb := tb) (s := s) (b := b) (ts := ats.toList) (args := l)
    rw [show builtinO tb s b ats.toList l = some (.call f args) from h1] at this
    exact this.elim
  | value fo =>
    obtain ⟨vf, hf, h2⟩ := ob_some (show ob (opd e fo) _ = _ from h1)
    split at h2 <;> first | (cases h2; done) | skip
    rename_i f' xs ys
    simp only [Option.some.injEq, Res.call.injEq] at h2
    obtain ⟨rfl, rfl⟩ := h2
    have hv := hoe _ _ hf
    simp only [VR] at hv
    obtain ⟨xs', ys', hv, hx, hy⟩ := hv
    refine ⟨xs' ++ args'.toList.map a.eval ++ ys', (hx.append hla).append hy, fun dst t pos after g w => ?_⟩
    simp only [execOp, resolve, Deferred.ofValue, hv, invoke, Bind.bind, run_bind, Pure.pure, Sem.run]
    rw [Sl.run_callFunc hb]
    simp
  | invoke rc nm =>
    obtain ⟨vf, hf, h2⟩ := ob_some (show ob (opd e rc) _ = _ from h1)
    split at h2 <;> first | (cases h2; done) | skip
    rename_i t v
    obtain ⟨f', hfm, h3⟩ := ob_some h2
    simp only [Option.some.injEq, Res.call.injEq] at h3
    obtain ⟨rfl, rfl⟩ := h3
    have hv := hoe _ _ hf
    simp only [VR] at hv
    obtain ⟨u, hv, hu⟩ := hv
    have hmem : ∀ (m : List (Nat × String × Nat)), findM t nm m = some f' → (t, nm, f') ∈ m := by
      intro m
      induction m with
      | nil => intro k; cases k
      | cons hd tl ih =>
        intro k
        obtain ⟨t', n', g'⟩ := hd
        unfold findM at k
        cases hbt : Nat.beq t t' with
        | false => rw [hbt] at k; exact List.mem_cons_of_mem _ (ih k)
        | true =>
          rw [hbt] at k
          have e1 := Nat.eq_of_beq_eq_true hbt
          cases hdn : decide (n' = nm) with
          | false => rw [hdn] at k; exact List.mem_cons_of_mem _ (ih k)
          | true =>
            rw [hdn] at k
            have e2 := of_decide_eq_true hdn
            have e3 : g' = f' := Option.some.inj k
            rw [← e1, e2, e3]
            exact List.mem_cons_self
    have hm := ht.meth t nm f' (hmem _ hfm) u
    have hvr : VRs p (v :: l) (u :: args'.toList.map a.eval) := by unfold VRs; exact ⟨u, _, rfl, hu, hla⟩
    refine ⟨u :: args'.toList.map a.eval, hvr, fun dst t2 pos after g w => ?_⟩
    have e0 : (#[Value.iface t u] ++ args'.map a.eval)[0]? = some (.iface t u) := by rw [Array.getElem?_append_left (by simp)]; rfl
    have e1 : (#[Value.iface t u] ++ args'.map a.eval).extract 1 (#[Value.iface t u] ++ args'.map a.eval).size = args'.map a.eval := by
      apply Array.ext'
      simp
      exact List.take_of_length_le (by simp)
    simp only [execOp, resolve, hv, invoke, Bind.bind, run_bind, Pure.pure, Sem.run, callMethod, e0, e1, program, hm, Sl.run_callFunc hb]
    simp
end
end Go.Rk
