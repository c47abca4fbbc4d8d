/- Regions, code, calls: the reckoner is right. -/
import Derived.Test.YtffkmfgmdepfcaaGreatDoorRk25
set_option linter.unusedSimpArgs false
set_option linter.unusedVariables false
set_option linter.unusedSectionVars false
namespace Go.Rk
open Go.Sl (opR opR_mono opR_wp run_bind takeOk sinkOk takeOk_spec sinkOk_spec wpAnyC opC wpAnyC_first wpAnyC_mono YieldsC)
open Go.RowKit
variable [Sym]

section
variable {P : Program} {c : Cfg} {n : Nat} {B0 : Nat} {w0 : World} {Fr : Nat → Option Obj}

theorem exM_ok {ops : List Oper} {K : Act → World → Prop} (ht : TabOk P c.tb) (hc : CallOk P c.call) (hsel : Region.noSelect ops.toArray = true) (hdst : ops.toArray.all (dstOk n) = true) :
    ∀ {pl : Plan} {listed : Array Bool} {ks : List Kx} {e : En} {s : S} {p : Pl} {a0 : Act} {r : En × S}, exM c ops pl (ks.map (·.k)) e s = some r → planOk ops.toArray pl listed = true → RE p n e a0 → KI p ks →
    (∀ a' w' p', Pl.le p p' → RE p' n r.1 a' → Sim B0 w0 Fr p' r.2 w' → K a' w') → Good P n B0 w0 Fr ops.toArray K pl listed ks s p a0
  | [], listed, ks, e, s, p, a0, r, h, hp, hr, hk, hK => by
    have h1 : some (e, s) = some r := h
    simp only [Option.some.injEq] at h1
    subst h1
    simp only [planOk, List.isEmpty_iff] at hp
    exact good_nil hp (fun w hs => hK a0 w p (Pl.le_refl p) hr hs)
  | (i, q, z) :: pl, listed, ks, e, s, p, a0, r, h, hp, hr, hk, hK => by
    simp only [planOk, Bool.and_eq_true] at hp
    obtain ⟨hst, hpl⟩ := hp
    obtain ⟨o, ho', h1⟩ := ob_some (show ob (nth ops i) _ = some r from h)
    obtain ⟨b, hb, h2⟩ := ob_some (show ob (wantedO ops e o.guard) _ = some r from h1)
    obtain ⟨hmf, h3⟩ := bb_some h2
    clear h h1 h2
    have ho : ops.toArray[i]? = some o := by rw [nth_eq] at ho'; simpa using ho'
    have hdo := dstOk_lt (Array.all_eq_true_iff_forall_mem.1 hdst o (Array.mem_of_getElem? ho))
    have hplu : ∀ q ∈ pl, q.1 ≠ i := fun q hq e => by
      have h4 := planOk_unlisted hpl q hq
      rw [getD_set, e] at h4
      have hri := ((mem_ready (md := .any) (ops := ops.toArray)).1 (by simp only [stepOk, Bool.and_eq_true] at hst; simpa using hst.1 : i ∈ Region.ready .any ops.toArray listed)).1
      rcases Nat.lt_or_ge i listed.size with h' | h'
      · simp [h'] at h4
      · simp [Array.getElem?_eq_none h'] at h4
    have hw := wanted_ok hr hb
    intro fuel F w hs hPF hpw hin hcnt
    by_cases hiF : ∃ f ∈ F, f.i = i
    · -- a pending one
      obtain ⟨f, hf, hfi⟩ := hiF
      obtain ⟨of, k1, k2, k3, k4, _⟩ := (hPF f hf).o
      rw [hfi, ho] at k1
      cases k1
      rw [k3] at hb
      simp only [wantedO, Option.some.injEq] at hb
      subst hb
      cases q with
      | true =>
        obtain ⟨m, h4, _⟩ := ob_some (show ob (readsMem o.op) _ = some r from h3)
        rw [float_noread k2] at h4
        cases h4
      | false =>
        obtain ⟨⟨v, s1⟩, h4, h5⟩ := ob_some (show ob (exR c.call s (exOp c.tb e s o.op)) _ = some r from h3)
        obtain ⟨h6, h7⟩ := bb_some h5
        obtain ⟨rs, h8, h9⟩ := ob_some (show ob (exOp c.tb e s o.op) _ = some (v, s1) from h4)
        have hval : rs = .val v s1 := by
          cases rs with
          | val v' s2 =>
            have h10 : some (v', s2) = some (v, s1) := h9
            cases h10
            rfl
          | call f args =>
            exfalso
            obtain ⟨cc, hcc⟩ := call_only (tb := c.tb) (e := e) (s := s) (op := o.op) (by rw [h8]; exact fun h => h)
            exact float_nocall k2 cc hcc
        subst hval
        exact good_adopt (K := K) ht hsel hr hdo ho hplu k2 h8 (fun p' u hle hv => exM_ok ht hc hsel hdst h7 hpl ((hr.mono hle).put hv hdo) (hk.mono hle) (fun a' w' p'' hle' => hK a' w' p'' (Pl.le_trans hle hle'))) hs hPF hpw hin hcnt hf hfi
    · have hni : ∀ f ∈ F, f.i ≠ i := fun f hf e => hiF ⟨f, hf, e⟩
      cases q with
      | true =>
        cases b with
        | false =>
          have h4 : exM c ops pl (ks.map (·.k)) (putT e o.dst (.tup [])) s = some r := h3
          exact good_quiet (ks' := ks) (R := fun _ => True) (S := fun _ => false) (u := undef) hsel ho hst (.inr ⟨hw, rfl⟩) (fun _ _ _ => trivial) (.inl fun _ => rfl) (fun w _ k _ _ h => h) (fun _ _ _ _ _ _ => trivial) (fun k h => h)
            (exM_ok ht hc hsel hdst h4 hpl (hr.put (undefVR p) hdo) hk hK) fuel F w hs hPF hpw hin hni hcnt
        | true =>
          obtain ⟨m, hm, h4⟩ := ob_some (show ob (readsMem o.op) _ = some r from h3)
          obtain ⟨rs, h5, h6⟩ := ob_some (show ob (exOp c.tb e s o.op) _ = some r from h4)
          cases rs with
          | call f args => cases h6
          | val v s2 =>
            have hq := fun (Fr' : Nat → Option Obj) w (hs : Sim B0 w0 Fr' p s w) => exOp_quiet (a := a0) ht hm hs hr.oe h5
            obtain ⟨hs2, u, hv, hqu⟩ := hq _ w hs
            subst hs2
            cases m with
            | false =>
              have h7 : exM c ops pl (ks.map (·.k)) (putT e o.dst v) s2 = some r := h6
              exact good_quiet (ks' := ks) (R := fun _ => True) (S := fun _ => false) (u := u) hsel ho hst (.inl ⟨hw, fun w' _ => hqu.2 rfl _ _ _ _ _ w'⟩) (fun _ _ _ => trivial) (.inl fun _ => rfl) (fun w _ k _ _ h => h) (fun _ _ _ _ _ _ => trivial) (fun k h => h)
                (exM_ok ht hc hsel hdst h7 hpl (hr.put hv hdo) hk hK) fuel F w hs hPF hpw hin hni hcnt
            | true =>
              have h7 : exM c ops pl ((⟨⟨o.op, e, v, z⟩, a0, u⟩ :: ks).map (·.k)) (putT e o.dst v) s2 = some r := h6
              exact good_quiet (ks' := ⟨⟨o.op, e, v, z⟩, a0, u⟩ :: ks) (R := fun w => PW P a0.eval o.op u w) (S := fun j => z.contains j) (u := u) hsel ho hst (.inl ⟨hw, fun w' hR => hR _ _ _ _ _⟩)
                (fun F w hs => by
                  obtain ⟨_, u', hv', hq'⟩ := hq _ w hs
                  rw [VR.det hv hv']
                  exact hq'.1) (.inr rfl) (fun w _ k _ _ h => h)
                (fun j w w' hj hR hC => hC ⟨⟨o.op, e, v, z⟩, a0, u⟩ (by simp) hj hR) (fun k h => List.mem_cons_of_mem _ h)
                (exM_ok ht hc hsel hdst h7 hpl (hr.put hv hdo) (fun k hkk => by
                  rcases List.mem_cons.1 hkk with rfl | hkk
                  · exact ⟨hv, hr.oe, hm⟩
                  · exact hk k hkk) hK) fuel F w hs hPF hpw hin hni hcnt
      | false =>
        have hmf' : mayFloat c.tb ops (ks.map (·.k)) e s z = true := hmf
        cases b with
        | false =>
          have h4 : exM c ops pl (ks.map (·.k)) (putT e o.dst (.tup [])) s = some r := h3
          refine good_loud (e := e) (s1 := s) (o := o) ht hsel hdst ho hst hr hk (by simpa using hmf') (fun F w hs K' a hexec hwant hnext => ?_) fuel F w hs hPF hpw hin hni hcnt
          unfold Sl.opC
          simp only [ho, hwant.trans hw, Bool.false_eq_true, if_false]
          exact hnext p undef w (Pl.le_refl p) hs (exM_ok ht hc hsel hdst h4 hpl (hr.put (undefVR p) hdo) hk hK)
        | true =>
          obtain ⟨⟨v, s1⟩, h4, h5⟩ := ob_some (show ob (exR c.call s (exOp c.tb e s o.op)) _ = some r from h3)
          obtain ⟨h6, h7⟩ := bb_some h5
          refine good_loud (e := e) (s1 := s1) (o := o) ht hsel hdst ho hst hr hk (by simpa using hmf') (fun F w hs K' a hexec hwant hnext => ?_) fuel F w hs hPF hpw hin hni hcnt
          unfold Sl.opC
          simp only [ho, hwant.trans hw, if_true]
          refine opR_congr hexec (opR_mono (exR_ok ht hc hs hr.oe h4 o.dst o.type o.pos o.after o.guard) fun u w' ⟨p', hle, hs', hv⟩ => ?_)
          refine ⟨fun k hkk hz _ => keeps_pw ht (hk.mono hle) hs' h6 k hkk hz, hnext p' u w' hle hs' ?_⟩
          exact exM_ok ht hc hsel hdst h7 hpl ((hr.mono hle).put hv hdo) (hk.mono hle) (fun a' w' p'' hle' => hK a' w' p'' (Pl.le_trans hle hle'))

/-! ### code -/
/-- loops that are told are loops of the program -/
def LoopOk (P : Program) (n : Nat) (loop : LoopR) (f : Nat) (cok : Code → Bool) (m : Nat) : Prop := ∀ b e s r, loop f b e s = some r → cok b = true → ∀ B0 w0 Fr p w a Q, RE p n e a → Sim B0 w0 Fr p s w → Fin B0 w0 Fr p n r Q → Code.rounds P b Q m a w

/-- code whose destinations lie in the frame, whose regions have plans that are good -/
noncomputable def codeOk (n : Nat) (ps : List (Nat × Plan)) : Code → Bool
  | .region id ops d => ops.all (dstOk n) && (!d || match lookP id ps with
    | some p => Region.noSelect ops && planOk ops p (Array.replicate ops.size false) && Nat.ble p.length ops.size
    | none => true)
  | .seq a b => codeOk n ps a && codeOk n ps b
  | .cond _ a b => codeOk n ps a && codeOk n ps b
  | .block _ a => codeOk n ps a
  | .loop a => codeOk n ps a
  | _ => true

theorem Fin.then {p : Pl} {r : Ex × En × S} {Q : Exit → Act → World → Prop} {c2 : Act → World → Prop} (h : r.1 ≠ .nrm → Fin B0 w0 Fr p n r Q) (hn : r.1 = .nrm → Fin B0 w0 Fr p n r (fun _ a w => c2 a w)) : Fin B0 w0 Fr p n r (Exit.then c2 Q) := by
  intro a' w' p' hle hr hs
  obtain ⟨x, e, s⟩ := r
  cases x with
  | nrm => exact hn rfl a' w' p' hle hr hs
  | ret => exact h (by intro h; cases h) a' w' p' hle hr hs
  | exit id => exact h (by intro h; cases h) a' w' p' hle hr hs

theorem thenE_some {r0 : Option (Ex × En × S)} {k : En → S → Option (Ex × En × S)} {r : Ex × En × S} (h : thenE r0 k = some r) : ∃ x e s, r0 = some (x, e, s) ∧ ((x = .nrm ∧ k e s = some r) ∨ (x ≠ .nrm ∧ r = (x, e, s))) := by
  unfold thenE at h
  obtain ⟨⟨x, e, s⟩, h1, h2⟩ := ob_some h
  refine ⟨x, e, s, h1, ?_⟩
  cases x with
  | nrm => exact .inl ⟨rfl, h2⟩
  | ret => exact .inr ⟨(by intro h; cases h), (Option.some.inj (show some (Ex.ret, e, s) = some r from h2)).symm⟩
  | exit id => exact .inr ⟨(by intro h; cases h), (Option.some.inj (show some (Ex.exit id, e, s) = some r from h2)).symm⟩

theorem exC_ok (ht : TabOk P c.tb) (hc : CallOk P c.call) (hmix : P.follows .mixedOrders = true) {m : Nat} (hl : LoopOk P n c.loop c.f (codeOk n ((c.tb.plan.get c.f).getD [])) m) : ∀ {cd : Code} {e : En} {s : S} {r : Ex × En × S}, exC cd c e s = some r → codeOk n ((c.tb.plan.get c.f).getD []) cd = true →
    ∀ {p : Pl} {w : World} {a : Act} {Q : Exit → Act → World → Prop}, RE p n e a → Sim B0 w0 Fr p s w → Fin B0 w0 Fr p n r Q → cd.wp P Q a w := by
  intro cd
  induction cd with
  | skip =>
    intro e s r h _ p w a Q hr hs hf
    have h1 : some (Ex.nrm, e, s) = some r := h
    cases h1
    exact wp_skip (hf a w p (Pl.le_refl p) hr hs)
  | region id ops d =>
    intro e s r h hok p w a Q hr hs hf
    simp only [codeOk, Bool.and_eq_true] at hok
    obtain ⟨hdst, hok⟩ := hok
    cases d with
    | false =>
      obtain ⟨r1, h1, h2⟩ := ob_some (show ob (exL c ops.toList ops.toList e s) _ = some r from h)
      have h3 : some (Ex.nrm, r1) = some r := h2
      cases h3
      have h4 := exL_ok (Q := Q) ht hc h1 (by simpa using hdst) hr hs hf
      have h5 := wp_region_lit (id := id) h4
      simpa using h5
    | true =>
      obtain ⟨ps, h1, h2⟩ := ob_some (show ob (c.tb.plan.get c.f) _ = some r from h)
      obtain ⟨pl, h3, h4⟩ := ob_some h2
      obtain ⟨r1, h5, h6⟩ := ob_some h4
      have h7 : some (Ex.nrm, r1) = some r := h6
      cases h7
      rw [h1] at hok
      simp only [Option.getD_some, h3, Bool.not_true, Bool.false_or, Bool.and_eq_true] at hok
      have hlen := Nat.le_of_ble_eq_true hok.2
      have hG := exM_ok (B0 := B0) (w0 := w0) (Fr := Fr) (ks := []) (p := p) (K := Q .normal) ht hc (by simpa using hok.1.1) (by simpa using hdst) h5 (by simpa using hok.1.2) hr (fun _ h => by cases h) (fun a' w' p' hle hr' hs' => hf a' w' p' hle hr' hs')
      have hs' : Sim B0 w0 (frF Fr []) p s w.drew := hs.drew
      have h8 := hG ops.size [] w.drew hs' (fun _ h => by cases h) List.Pairwise.nil (fun _ h => by cases h) (by
        have : cnt pl [] ≤ pl.length := by unfold cnt; exact List.length_filter_le _ _
        omega)
      refine wp_region_any hmix (Sl.wpAny_of_C (C := Cls P []) _ _ _ _ ?_)
      exact h8
  | seq c1 c2 ih1 ih2 =>
    intro e s r h hok p w a Q hr hs hf
    simp only [codeOk, Bool.and_eq_true] at hok
    obtain ⟨x, e1, s1, h1, h2⟩ := thenE_some (show thenE (exC c1 c e s) (fun e s => exC c2 c e s) = some r from h)
    refine wp_seq (ih1 h1 hok.1 hr hs (Fin.then (fun hx => ?_) (fun hx => ?_)))
    · rcases h2 with ⟨h3, _⟩ | ⟨_, rfl⟩
      · exact absurd h3 hx
      · exact hf
    · rcases h2 with ⟨_, h4⟩ | ⟨h3, _⟩
      · intro a' w' p' hle hr' hs'
        exact ih2 h4 hok.2 hr' hs' (hf.mono hle)
      · exact absurd hx h3
  | cond o c1 c2 ih1 ih2 =>
    intro e s r h hok p w a Q hr hs hf
    simp only [codeOk, Bool.and_eq_true] at hok
    have h1 : condE (opd e o) (exC c1 c e s) (exC c2 c e s) = some r := h
    unfold condE at h1
    split at h1
    · rename_i b hb
      have hv := hr.oe _ _ hb
      simp only [VR] at hv
      refine wp_cond_split hv (fun e1 => ?_) (fun e1 => ?_)
      · subst e1; exact ih1 h1 hok.1 hr hs hf
      · subst e1; exact ih2 h1 hok.2 hr hs hf
    · cases h1
  | block id c1 ih =>
    intro e s r h hok p w a Q hr hs hf
    simp only [codeOk] at hok
    obtain ⟨⟨x, e1, s1⟩, h1, h2⟩ := ob_some (show ob (exC c1 c e s) _ = some r from h)
    refine wp_block (ih h1 hok hr hs ?_)
    intro a' w' p' hle hr' hs'
    cases x with
    | nrm =>
      have h3 : some (Ex.nrm, e1, s1) = some r := h2
      cases h3
      exact hf a' w' p' hle hr' hs'
    | ret =>
      have h3 : some (Ex.ret, e1, s1) = some r := h2
      cases h3
      exact hf a' w' p' hle hr' hs'
    | exit j =>
      have h3 : bb (Nat.beq j id) (some (Ex.nrm, e1, s1)) (some (Ex.exit j, e1, s1)) = some r := h2
      show if j = id then Q .normal a' w' else Q (.exit j) a' w'
      cases hj : Nat.beq j id with
      | true =>
        rw [hj] at h3
        have h4 : some (Ex.nrm, e1, s1) = some r := h3
        cases h4
        have := Nat.eq_of_beq_eq_true hj
        subst this
        rw [if_pos (by simp)]
        exact hf a' w' p' hle hr' hs'
      | false =>
        rw [hj] at h3
        have h4 : some (Ex.exit j, e1, s1) = some r := h3
        cases h4
        have := Nat.ne_of_beq_eq_false hj
        rw [if_neg (by simpa using this)]
        exact hf a' w' p' hle hr' hs'
  | loop c1 ih =>
    intro e s r h hok p w a Q hr hs hf
    simp only [codeOk] at hok
    obtain ⟨x, e1, s1, h1, h2⟩ := thenE_some (show thenE (exC c1 c e s) (fun e s => c.loop c.f c1 e s) = some r from h)
    refine wp_loop_rounds (m + 1) ?_
    rw [rounds_succ]
    refine ih h1 hok hr hs (Fin.then (fun hx => ?_) (fun hx => ?_))
    · rcases h2 with ⟨h3, _⟩ | ⟨_, rfl⟩
      · exact absurd h3 hx
      · exact hf
    · rcases h2 with ⟨_, h4⟩ | ⟨h3, _⟩
      · intro a' w' p' hle hr' hs'
        exact hl c1 e1 s1 r h4 hok B0 w0 Fr p' w' a' Q hr' hs' (hf.mono hle)
      · exact absurd hx h3
  | exit id =>
    intro e s r h _ p w a Q hr hs hf
    have h1 : some (Ex.exit id, e, s) = some r := h
    cases h1
    exact wp_exit (hf a w p (Pl.le_refl p) hr hs)
  | ret =>
    intro e s r h _ p w a Q hr hs hf
    have h1 : some (Ex.ret, e, s) = some r := h
    cases h1
    exact wp_ret (hf a w p (Pl.le_refl p) hr hs)
  | _ => intros; rename_i h _ _ _ _ _ _ _ _; cases h

/-! ### functions -/
theorem envOf_ok {p : Pl} : ∀ {l : List AV} {vs : List Value} {i : Nat} {e : En}, VRs p l vs → ∀ t, (i ≤ t → t < i + l.length → ∃ v u, (envOf i l e).get t = some v ∧ vs[t - i]? = some u ∧ VR p v u) ∧ (t < i ∨ i + l.length ≤ t → (envOf i l e).get t = e.get t)
  | [], vs, i, e, _, t => ⟨fun h1 h2 => by simp at h2; omega, fun _ => rfl⟩
  | v :: l, vs, i, e, h, t => by
    simp only [VRs] at h
    obtain ⟨u, us, rfl, h1, h2⟩ := h
    obtain ⟨k1, k2⟩ := envOf_ok (i := i + 1) (e := e.put i v) h2 t
    refine ⟨fun h3 h4 => ?_, fun h3 => ?_⟩
    · by_cases ht : t = i
      · subst ht
        refine ⟨v, u, ?_, by simp, h1⟩
        show (envOf (t + 1) l (e.put t v)).get t = some v
        rw [k2 (.inl (by omega)), Tr.put_same]
      · simp only [List.length_cons] at h4
        obtain ⟨v', u', h5, h6, h7⟩ := k1 (by omega) (by omega)
        refine ⟨v', u', h5, ?_, h7⟩
        rw [show t - i = (t - (i + 1)) + 1 from by omega]
        simpa using h6
    · show (envOf (i + 1) l (e.put i v)).get t = e.get t
      simp only [List.length_cons] at h3
      rw [k2 (by omega), Tr.put_ne _ _ _ _ (by omega)]

theorem RE.init {p : Pl} {l : List AV} {vs : List Value} {nt : Nat} (h : VRs p l vs) : RE p nt (envOf 0 l .lf) { tmps := vs.toArray ++ Array.replicate (nt - vs.toArray.size) undef, defers := [] } := by
  have hl := h.length
  refine ⟨by simp; omega, rfl, fun t => ?_⟩
  obtain ⟨k1, k2⟩ := envOf_ok (i := 0) (e := (.lf : En)) h t
  unfold tmpV
  by_cases ht : t < l.length
  · obtain ⟨v, u, h1, h2, h3⟩ := k1 (Nat.zero_le _) (by omega)
    rw [h1]
    simp only [Nat.sub_zero] at h2
    have : (vs.toArray ++ Array.replicate (nt - vs.toArray.size) undef).getD t undef = u := by
      simp [Array.getElem?_append, show t < vs.length from by omega]
      exact (List.getElem?_eq_some_iff.1 h2).2
    rw [this]
    exact h3
  · rw [k2 (.inr (by omega))]
    have : (vs.toArray ++ Array.replicate (nt - vs.toArray.size) undef).getD t undef = undef := by
      simp only [Array.getD_eq_getD_getElem?, Array.getElem?_append, List.size_toArray, show ¬ t < vs.length from by omega, if_false]
      rw [Array.getElem?_replicate]
      split <;> rfl
    rw [this]
    exact undefVR p

theorem resV_ok {p : Pl} {e : En} {s : S} {a : Act} {w : World} {r : ResultVar} {v : AV} {tb : Tab} (ht : TabOk P tb) (hr : RE p n e a) (hs : Sim B0 w0 Fr p s w) (h : resV tb e s r = some v) : ∃ u, VR p v u ∧ (Sl.resF a.tmps r).run P w = .ok u w := by
  cases r with
  | tmp t =>
    simp only [resV, Option.some.injEq] at h
    subst h
    exact ⟨_, hr.get t, rfl⟩
  | cell cc T =>
    have h1 : load tb s T (tmpV e cc) = some v := h
    obtain ⟨b, o, u, h2, h3, h4⟩ := loadV_ok (P := P) ht.ty hs (hr.get cc) h1
    refine ⟨u, h3, ?_⟩
    unfold Sl.resF
    simp only [h2]
    exact h4

theorem resVs_ok {p : Pl} {e : En} {s : S} {a : Act} {w : World} {tb : Tab} (ht : TabOk P tb) (hr : RE p n e a) (hs : Sim B0 w0 Fr p s w) : ∀ {rs : List ResultVar} {vs : List AV}, resVs tb e s rs = some vs → ∃ us, VRs p vs us ∧ (rs.mapM (Sl.resF a.tmps)).run P w = .ok us w
  | [], vs, h => by simp only [resVs, Option.some.injEq] at h; subst h; exact ⟨[], by simp [VRs], rfl⟩
  | r :: rs, vs, h => by
    simp only [resVs] at h
    obtain ⟨v, h1, h2⟩ := ob_some h
    obtain ⟨l, h3, h4⟩ := ob_some h2
    simp only [Option.some.injEq] at h4
    subst h4
    obtain ⟨u, hu, hru⟩ := resV_ok ht hr hs h1
    obtain ⟨us, hus, hrus⟩ := resVs_ok ht hr hs h3
    refine ⟨u :: us, by simp only [VRs]; exact ⟨u, us, rfl, hu, hus⟩, ?_⟩
    rw [List.mapM_cons]
    simp only [Bind.bind, run_bind, hru, Pure.pure, Sem.run]
    rw [hrus]

theorem exF_ok {tb : Tab} {call : CallR} {loop : LoopR} {m : Nat} (ht : TabOk P tb) (hmix : P.follows .mixedOrders = true) (hc : CallOk P call) (hl : ∀ f fn, tb.funs.get f = some fn → LoopOk P fn.ntmps loop f (codeOk fn.ntmps ((tb.plan.get f).getD [])) m)
    (hfun : ∀ f fn c, tb.funs.get f = some fn → fn.body = some c → codeOk fn.ntmps ((tb.plan.get f).getD []) c = true ∧ (fn.name == "runtime.NumGoroutine") = false) : CallOk P (exF tb call loop) := by
  intro f args s v s' h
  obtain ⟨fn, hfn, h1⟩ := ob_some (show ob (tb.funs.get f) _ = _ from h)
  obtain ⟨cd, hcd, h2⟩ := ob_some (show ob fn.body _ = _ from h1)
  obtain ⟨hok, hname⟩ := hfun f fn cd hfn hcd
  have hP := ht.fn f fn hfn
  refine ⟨⟨fn, hP, by rw [hcd]; rfl, hname⟩, fun B0 w0 Fr p w vs hs hvs => ?_⟩
  obtain ⟨⟨x, e1, s1⟩, h3, h4⟩ := ob_some (show ob (exC cd ⟨tb, f, call, loop⟩ (envOf 0 args .lf) s) _ = _ from h2)
  obtain ⟨hx, h5⟩ := bb_some h4
  obtain ⟨rs, h6, h7⟩ := ob_some h5
  refine calls_of_wp hP hcd (exC_ok (c := ⟨tb, f, call, loop⟩) (m := m) ht hc hmix (hl f fn hfn) h3 hok (RE.init hvs) hs ?_)
  intro a' w' p' hle hr' hs'
  obtain ⟨us, hus, hrun⟩ := resVs_ok ht hr' hs' h6
  have hres : (results fn a'.tmps).run P w' = .ok (if h : us.toArray.size = 1 then us.toArray[0] else .tuple us.toArray) w' := by
    rw [Sl.results_eq, Array.mapM_eq_mapM_toList, ← bind_pure_comp]
    simp only [Bind.bind, run_bind, hrun, Pure.pure, Sem.run]
  have hfin : ∃ u, (results fn a'.tmps).run P w' = .ok u w' ∧ VR p' v u ∧ s' = s1 := by
    split at h7
    · rename_i v'
      simp only [Option.some.injEq, Prod.mk.injEq] at h7
      obtain ⟨rfl, rfl⟩ := h7
      obtain ⟨u, rfl, hu⟩ := hus.single
      exact ⟨u, hres, hu, rfl⟩
    · rename_i l hne
      simp only [Option.some.injEq, Prod.mk.injEq] at h7
      obtain ⟨rfl, rfl⟩ := h7
      have hlen := hus.length
      have hn1 : ¬ us.toArray.size = 1 := by
        intro h1
        have : rs.length = 1 := by rw [← hlen]; simpa using h1
        obtain ⟨v', rfl⟩ := List.length_eq_one_iff.1 this
        exact hne v' rfl
      refine ⟨.tuple us.toArray, by rw [hres, dif_neg hn1], ?_, rfl⟩
      simp only [VR]
      exact ⟨us, rfl, hus⟩
  obtain ⟨u, hu1, hu2, rfl⟩ := hfin
  cases x with
  | nrm => exact ⟨hr'.defers, u, hu1, u, rfl, p', hle, hs', hu2⟩
  | ret => exact ⟨hr'.defers, u, hu1, u, rfl, p', hle, hs', hu2⟩
  | exit id => cases hx

/-- what the table tells of functions is true, its plans are good -/
def FunsOk (tb : Tab) : Prop := ∀ f fn c, tb.funs.get f = some fn → fn.body = some c → codeOk fn.ntmps ((tb.plan.get f).getD []) c = true ∧ (fn.name == "runtime.NumGoroutine") = false

theorem run_ok {tb : Tab} (ht : TabOk P tb) (hmix : P.follows .mixedOrders = true) (hfun : FunsOk tb) : ∀ k, CallOk P (run tb k).call ∧ ∀ f fn, tb.funs.get f = some fn → LoopOk P fn.ntmps (run tb k).loop f (codeOk fn.ntmps ((tb.plan.get f).getD [])) k
  | 0 => ⟨(fun _ _ _ _ _ h => by cases h), (fun _ _ _ _ _ _ _ h => by cases h)⟩
  | k + 1 => by
    obtain ⟨h1, h2⟩ := run_ok ht hmix hfun k
    refine ⟨exF_ok (m := k) ht hmix h1 h2 hfun, fun f fn hfn b e s r h hok B0 w0 Fr p w a Q hr hs hf => ?_⟩
    obtain ⟨x, e1, s1, h3, h4⟩ := thenE_some (show thenE (exC b ⟨tb, f, (run tb k).call, (run tb k).loop⟩ e s) (fun e s => (run tb k).loop f b e s) = some r from h)
    rw [rounds_succ]
    refine exC_ok (c := ⟨tb, f, (run tb k).call, (run tb k).loop⟩) (m := k) ht h1 hmix (h2 f fn hfn) h3 hok hr hs (Fin.then (fun hx => ?_) (fun hx => ?_))
    · rcases h4 with ⟨h5, _⟩ | ⟨_, rfl⟩
      · exact absurd h5 hx
      · exact hf
    · rcases h4 with ⟨_, h5⟩ | ⟨h5, _⟩
      · intro a' w' p' hle hr' hs'
        exact h2 f fn hfn b e1 s1 r h5 hok B0 w0 Fr p' w' a' Q hr' hs' (hf.mono hle)
      · exact absurd hx h5

/-- A closed run of the reckoner is a run of the program, in whatever memory. -/
theorem run_calls {tb : Tab} (ht : TabOk P tb) (hmix : P.follows .mixedOrders = true) (hfun : FunsOk tb) {k f : Nat} {args : List AV} {v : AV} {s' : S} (h : (run tb k).call f args ⟨.lf, 0⟩ = some (v, s')) {vs : List Value} (hvs : VRs (fun _ => none) args vs) (w : World) :
    Calls P f vs.toArray w (fun en w' => ∃ u p', en = .returned u ∧ VR p' v u ∧ Below w.heap.size w w') := by
  have hs : Sim w.heap.size w (fun _ => none) (fun _ => none) ⟨.lf, 0⟩ w := ⟨(fun id o hi => by have := hi.1; cases this), (fun id _ => ⟨rfl, rfl⟩), (fun i j oi oj a b S b' S' hi => by have := hi.1; cases this), (fun b o h => by cases h), Below.refl _ _, Nat.le_refl _⟩
  exact (((run_ok ht hmix hfun k).1 f args _ v s' h).2 _ _ _ _ w vs hs hvs).mono fun en w' ⟨u, he, p', _, hs', hv⟩ => ⟨u, p', he, hv, hs'.below⟩
end
end Go.Rk
