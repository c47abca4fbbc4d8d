/- Regions that draw their order are walked by their plan: quiet steps, loud steps. -/
import Derived.Test.YtffkmfgmdepfcaaGreatDoorRk24
set_option linter.unusedSimpArgs false
set_option linter.unusedVariables false
set_option linter.unusedSectionVars false
namespace Go.Rk
open Go.Sl (opR opR_mono opR_wp run_bind takeOk sinkOk takeOk_spec sinkOk_spec wpAnyC opC wpAnyC_first wpAnyC_mono YieldsC)
open Go.RowKit
variable [Sym]

section
variable {P : Program} {c : Cfg} {n : Nat} {B0 : Nat} {w0 : World} {Fr : Nat → Option Obj}
variable {ops : Array Oper} {K : Act → World → Prop} {pl : Plan} {listed : Array Bool} {ks ks' : List Kx} {s s1 : S} {p : Pl} {a0 : Act} {e : En} {i : Nat} {q : Bool} {z : List Nat} {o : Oper} {v : AV} {w : World}

theorem Good.next {fuel : Nat} {F : List Pnd} {dst : Option Nat} {u : Value} (h : Good P n B0 w0 Fr ops K pl (listed.setIfInBounds i true) ks s1 p (a0.put dst u)) (hsel : Region.noSelect ops = true) (hs : Sim B0 w0 (frF Fr F) p s1 w)
    (hPF : ∀ f ∈ F, PF P ops n B0 Fr listed (F.map (·.i)) a0 f) (hpw : F.Pairwise (PP ops)) (hin : ∀ f ∈ F, ∃ r ∈ (i, q, z) :: pl, r.1 = f.i) (hni : ∀ f ∈ F, f.i ≠ i)
    (hap : ∀ f ∈ F, (∀ d, dst = some d → f.d ≠ d) ∧ ∀ of, ops[f.i]? = some of → ∀ d, dst = some d → d ∉ of.looksAt ops) (hcnt : cnt ((i, q, z) :: pl) F ≤ fuel + 1) :
    wpAnyC P .any ops (Cls P ks) K fuel ((listAll listed (F.map (·.i))).setIfInBounds i true) ((putsF a0 F).put dst u) w := by
  have h1 := h fuel F w hs (fun f hf => (hPF f hf).step hsel (hni f hf) (fun o ho d hd => (hap f hf).2 o ho d hd)) hpw (fun f hf => by
    obtain ⟨r, hr, e⟩ := hin f hf
    rcases List.mem_cons.1 hr with rfl | hr
    · exact absurd e.symm (hni f hf)
    · exact ⟨r, hr, e⟩) (by rw [cnt_tail (fun f hf => hni f hf)] at hcnt; omega)
  rw [listAll_set, ← putsF_put (fun f hf d hd => (hap f hf).1 d hd)] at h1
  exact h1

/-- a quiet operation at its turn -/
theorem good_quiet (hsel : Region.noSelect ops = true) (ho : ops[i]? = some o) (hst : stepOk ops listed i true z pl = true) {R : World → Prop} {u : Value}
    (hy : YieldsC P ops R o u a0) (hR : ∀ F w, Sim B0 w0 (frF Fr F) p s w → R w) {S : Nat → Bool} (hS : (∀ j, S j = false) ∨ S = fun j => z.contains j)
    (hCi : ∀ w, R w → Cls P ks' i w w) (hCR : ∀ j w w', S j = false → R w → Cls P ks' j w w' → R w') (hsub : ∀ k ∈ ks, k ∈ ks')
    (hnext : Good P n B0 w0 Fr ops K pl (listed.setIfInBounds i true) ks' s p (a0.put o.dst u)) :
    ∀ (fuel : Nat) (F : List Pnd) (w : World), Sim B0 w0 (frF Fr F) p s w → (∀ f ∈ F, PF P ops n B0 Fr listed (F.map (·.i)) a0 f) → F.Pairwise (PP ops) → (∀ f ∈ F, ∃ r ∈ (i, true, z) :: pl, r.1 = f.i) → (∀ f ∈ F, f.i ≠ i) → cnt ((i, true, z) :: pl) F ≤ fuel →
    wpAnyC P .any ops (Cls P ks) K fuel (listAll listed (F.map (·.i))) (putsF a0 F) w := by
  intro fuel F w hs hPF hpw hin hni hcnt
  simp only [stepOk, Bool.and_eq_true, if_true] at hst
  obtain ⟨hri, ⟨htake, hsink⟩, hzf⟩ := hst
  have hri : i ∈ Region.ready .any ops listed := by simpa using hri
  obtain ⟨_, hfree⟩ := takeOk_spec htake ho
  have hap := pend_apart (o := o) hri hPF hni (fun f hf of hof hno => hfree f.i of hof (hni f hf) (hPF f hf).un hno)
  have hsel' := Region.noSelect_spec hsel
  have hexec : execOp (putsF a0 F).eval o = execOp a0.eval o := putsF_exec o (fun cs b => hsel' _ _ cs b ho) (fun f hf => (hap f hf).1)
  have hwant : Region.wanted o (yielded ops (putsF a0 F).tmps) = Region.wanted o (yielded ops a0.tmps) := putsF_wanted o (fun f hf => (hap f hf).1)
  have hy' : YieldsC P ops R o u (putsF a0 F) := by
    rcases hy with ⟨h1, h2⟩ | ⟨h1, h2⟩
    · exact .inl ⟨hwant.trans h1, fun w hw => by rw [hexec]; exact h2 w hw⟩
    · exact .inr ⟨hwant.trans h1, h2⟩
  obtain ⟨fuel, rfl⟩ : ∃ k, fuel = k + 1 := ⟨fuel - 1, by rw [cnt_tail (fun f hf => hni f hf)] at hcnt; omega⟩
  have hni' : i ∉ F.map (·.i) := fun h => by obtain ⟨f, hf, e⟩ := List.mem_map.1 h; exact hni f hf e
  refine wpAnyC_mono (C := Cls P ks') (fun j w w' hT k hk hz hp => hT k (hsub k hk) hz hp) _ _ _ _ ?_
  refine wpAnyC_first (R := R) (S := S) ho hsel' hCi hCR ?_ fuel _ _ w (hR F w hs) ?_ ?_ (ready_all hri hni') hy' (hnext.next hsel hs hPF hpw hin hni (fun f hf => ⟨(hap f hf).2.1, (hap f hf).2.2⟩) hcnt)
  · intro j hj
    rcases hS with h | rfl
    · rw [h j] at hj; cases hj
    · exact (sinkOk_spec hsink).2 j hj
  · intro j hj
    rcases hS with h | rfl
    · rw [h j] at hj; cases hj
    · rw [getD_listAll, if_neg (fun h => by
        obtain ⟨f, hf, e⟩ := List.mem_map.1 h.1
        obtain ⟨of, h1, h2, h3, h4, _⟩ := (hPF f hf).o
        have h5 := List.all_eq_true.1 hzf j (by simpa using hj)
        rw [← e] at h5
        simp [isFloatAt, h1, h2, h3, h4] at h5)]
      exact (sinkOk_spec hsink).1 j hj
  · intro j oj hj hji hl hno
    refine hfree j oj hj hji ?_ hno
    rw [getD_listAll] at hl
    split at hl
    · cases hl
    · exact hl

/-- a loud operation at its turn, blocks that come up early -/
theorem good_loud (ht : TabOk P c.tb) (hsel : Region.noSelect ops = true) (hdst : ops.all (dstOk n) = true) (ho : ops[i]? = some o) (hst : stepOk ops listed i false z pl = true) (hRE : RE p n e a0) (hk : KI p ks)
    (hmf : mayFloat c.tb ops.toList (ks.map (·.k)) e s z = true)
    (hnow : ∀ (F : List Pnd) (w : World), Sim B0 w0 (frF Fr F) p s w → ∀ (K' : Act → World → Prop) (a : Act), execOp a.eval o = execOp a0.eval o → Region.wanted o (yielded ops a.tmps) = Region.wanted o (yielded ops a0.tmps) →
      (∀ p' u w', Pl.le p p' → Sim B0 w0 (frF Fr F) p' s1 w' → Good P n B0 w0 Fr ops K pl (listed.setIfInBounds i true) ks s1 p' (a0.put o.dst u) → K' (a.put o.dst u) w') → opC P ops (Cls P ks i) i K' a w) :
    ∀ (fuel : Nat) (F : List Pnd) (w : World), Sim B0 w0 (frF Fr F) p s w → (∀ f ∈ F, PF P ops n B0 Fr listed (F.map (·.i)) a0 f) → F.Pairwise (PP ops) → (∀ f ∈ F, ∃ r ∈ (i, false, z) :: pl, r.1 = f.i) → (∀ f ∈ F, f.i ≠ i) → cnt ((i, false, z) :: pl) F ≤ fuel →
    wpAnyC P .any ops (Cls P ks) K fuel (listAll listed (F.map (·.i))) (putsF a0 F) w := by
  have hsel' := Region.noSelect_spec hsel
  have hst0 := hst
  simp only [stepOk, Bool.and_eq_true, Bool.false_eq_true, if_false, beq_iff_eq] at hst
  obtain ⟨hri, ⟨hone, hfl⟩, hz⟩ := hst
  have hri : i ∈ Region.ready .any ops listed := by simpa using hri
  have memFl : ∀ {j}, j ∈ floats ops listed i ↔ j < ops.size ∧ j ≠ i ∧ listed.getD j true = false ∧ isFloatAt ops j = true := by
    intro j
    simp [floats, and_assoc]
  intro fuel
  induction fuel with
  | zero =>
    intro F w hs hPF hpw hin hni hcnt
    rw [cnt_tail (fun f hf => hni f hf)] at hcnt
    omega
  | succ fuel ih =>
    intro F w hs hPF hpw hin hni hcnt
    have hni' : i ∉ F.map (·.i) := fun h => by obtain ⟨f, hf, e⟩ := List.mem_map.1 h; exact hni f hf e
    have isF : ∀ f ∈ F, isFloatAt ops f.i = true ∧ f.i < ops.size := fun f hf => by
      obtain ⟨of, h1, h2, h3, h4, _⟩ := (hPF f hf).o
      exact ⟨by simp [isFloatAt, h1, h2, h3, h4], (Array.getElem?_eq_some_iff.1 h1).1⟩
    have inFl : ∀ f ∈ F, f.i ∈ floats ops listed i := fun f hf => memFl.2 ⟨(isF f hf).2, hni f hf, (hPF f hf).un, (isF f hf).1⟩
    have hap := pend_apart (o := o) hri hPF hni (fun f hf of hof hno => by
      have h1 := List.all_eq_true.1 hfl f.i (inFl f hf)
      simp only [Bool.and_eq_true, Bool.or_eq_true] at h1
      rcases h1.1 with h2 | h2
      · exfalso
        simp only [waitsFor, hof] at h2
        obtain ⟨e', he, hb⟩ := Array.any_eq_true'.1 h2
        simp only [Bool.and_eq_true, beq_iff_eq] at hb
        exact hno e' he hb.1 hb.2
      · simpa [apartB, ho, hof] using h2)
    refine ⟨fun h => ?_, fun j hj => ?_⟩
    · have := ready_all hri hni'
      rw [h] at this
      cases this
    · by_cases hji : j = i
      · -- its turn
        subst hji
        refine hnow F w hs _ _ (putsF_exec o (fun cs b => hsel' _ _ cs b ho) (fun f hf => (hap f hf).1)) (putsF_wanted o (fun f hf => (hap f hf).1)) (fun p' u w' hle hs' hG => ?_)
        exact hG.next hsel hs' hPF hpw hin hni (fun f hf => ⟨(hap f hf).2.1, (hap f hf).2.2⟩) hcnt
      · -- a block comes up early
        obtain ⟨hjun, oj, hoj, hall⟩ := (mem_ready (md := .any) (ops := ops)).1 hj
        have hjF : j ∉ F.map (·.i) ∧ listed.getD j true = false := by
          rw [getD_listAll] at hjun
          split at hjun
          · cases hjun
          · rename_i h
            refine ⟨fun hm => ?_, hjun⟩
            rcases Nat.lt_or_ge j listed.size with h' | h'
            · exact h ⟨hm, h'⟩
            · simp [Array.getElem?_eq_none h'] at hjun
        have hjs : j < ops.size := (Array.getElem?_eq_some_iff.1 hoj).1
        have hjfl : isFloatAt ops j = true := by
          cases hb : isFloatAt ops j with
          | true => rfl
          | false =>
            exfalso
            have : j ∈ Region.ready .any ops (listAll listed (floats ops listed i)) := by
              rw [mem_ready]
              refine ⟨?_, oj, hoj, fun e' he hbd => ?_⟩
              · rw [getD_listAll, if_neg (fun h => by rw [(memFl.1 h.1).2.2.2] at hb; cases hb)]
                exact hjF.2
              · have h1 := hall e' he hbd
                rw [getD_listAll] at h1 ⊢
                split at h1
                · rename_i h
                  obtain ⟨f, hf, e2⟩ := List.mem_map.1 h.1
                  rw [if_pos ⟨e2 ▸ inFl f hf, h.2⟩]
                · split
                  · rfl
                  · exact h1
            rw [hone] at this
            simp at this
            exact hji this
        have hjm : j ∈ floats ops listed i := memFl.2 ⟨hjs, hji, hjF.2, hjfl⟩
        have hjz : j ∈ z := by
          have h1 := List.all_eq_true.1 hfl j hjm
          simp only [Bool.and_eq_true, Bool.or_eq_true] at h1
          rcases h1.2 with h2 | h2
          · simpa using h2
          · exfalso
            simp only [blocked, hoj] at h2
            obtain ⟨e', he, hb⟩ := Array.any_eq_true'.1 h2
            simp only [Bool.and_eq_true, Bool.not_eq_true'] at hb
            have h3 := hall e' he hb.1.1
            rw [getD_listAll] at h3
            split at h3
            · rename_i h
              obtain ⟨f, hf, e2⟩ := List.mem_map.1 h.1
              rw [← e2, (isF f hf).1] at hb
              cases hb.2
            · rw [hb.1.2] at h3; cases h3
        have hzj := List.all_eq_true.1 hz j hjz
        simp only [Bool.and_eq_true] at hzj
        obtain ⟨⟨_, hrest⟩, hapj⟩ := hzj
        obtain ⟨hkeep, oj', v, s', hoj', hex⟩ := mayFloat_spec hmf j hjz
        rw [nth_eq, Array.getElem?_toList, hoj] at hoj'
        cases hoj'
        have hfl' : floatOp oj.op = true ∧ oj.guard = none ∧ ∃ d, oj.dst = some d := by
          simp only [isFloatAt, hoj, Bool.and_eq_true] at hjfl
          refine ⟨hjfl.1.1, by simpa using hjfl.1.2, Option.isSome_iff_exists.1 hjfl.2⟩
        obtain ⟨hfo, hgn, d, hd⟩ := hfl'
        obtain ⟨ao, ob, mk, Sz, hmk, hmade⟩ := float_ok (P := P) ht hfo hRE.oe hex
        have hd' : d < n := by
          have := Array.all_eq_true_iff_forall_mem.1 hdst oj (Array.mem_of_getElem? hoj)
          exact dstOk_lt this d hd
        have hapF : ∀ f ∈ F, f.d ∉ oj.looksAt ops ∧ f.d ≠ d ∧ ∀ of, ops[f.i]? = some of → d ∉ of.looksAt ops := fun f hf => by
          obtain ⟨of, h1, h2, h3, h4, _⟩ := (hPF f hf).o
          have h5 : f.i ∈ floats ops listed j := by
            simp only [floats, List.mem_filter, List.mem_range, Bool.and_eq_true, bne_iff_ne, ne_eq, Bool.not_eq_true']
            exact ⟨(isF f hf).2, ⟨fun e' => hjF.1 (List.mem_map.2 ⟨f, hf, e'⟩), (hPF f hf).un⟩, (isF f hf).1⟩
          have h6 := List.all_eq_true.1 hapj f.i h5
          simp only [apartB, hoj, h1] at h6
          obtain ⟨k1, k2, k3⟩ := Oper.apart_spec h6
          refine ⟨k3 f.d h4, ?_, fun of' ho' => ?_⟩
          · have := k2 d hd
            rw [h4] at this
            simpa using this
          · rw [h1] at ho'
            cases ho'
            exact k1 d hd
        have hexec : execOp (putsF a0 F).eval oj = execOp a0.eval oj := putsF_exec oj (fun cs b => hsel' _ _ cs b hoj) (fun f hf => (hapF f hf).1)
        unfold Sl.opC
        simp only [hoj, Region.wanted, hgn, if_true]
        unfold opR
        rw [hexec, hmk.run oj.dst oj.type oj.pos oj.after oj.guard w]
        have hsz : frF Fr F w.heap.size = none := hs.Fr_size
        have hsz' := frF_none hsz
        have hs2 : Sim B0 w0 (frF Fr (F ++ [⟨j, d, w.heap.size, mk w.heap.size, ob⟩])) p s (w.alloc ob) := (hs.alloc ob).frame_eq (fun b o' hb => by
            rcases frF_some hb with ⟨g, hg, e'⟩ | hb'
            · by_cases hbs : b = w.heap.size
              · have : frF Fr (F ++ [⟨j, d, w.heap.size, mk w.heap.size, ob⟩]) b = some ob := by
                  subst hbs
                  unfold frF
                  have h1 : F.find? (fun f => f.b == w.heap.size) = none := List.find?_eq_none.2 fun f hf => by simpa using hsz'.2 f hf
                  rw [List.find?_append, h1]
                  simp
                rw [this] at hb
                cases hb
                rw [hbs]
                exact alloc_at w ob
              · have h1 : frF Fr F b = some o' := by
                  rw [← hb]
                  unfold frF
                  rw [List.find?_append]
                  have h2 : ([⟨j, d, w.heap.size, mk w.heap.size, ob⟩] : List Pnd).find? (fun f => f.b == b) = none := List.find?_eq_none.2 fun f hf => by
                    simp only [List.mem_singleton] at hf
                    subst hf
                    simpa using Ne.symm hbs
                  rw [h2]
                  simp
                exact (hs.alloc ob).frame _ _ h1
            · by_cases hx : ∃ g ∈ F, g.b = b
              · obtain ⟨g, hg, e'⟩ := hx
                have := (hPF g hg).fr
                rw [e'] at this
                rw [this] at hb'
                cases hb'
              · exact (hs.alloc ob).frame _ _ (by rw [frF_ne (fun g hg e' => hx ⟨g, hg, e'⟩)]; exact hb'))
          (fun b hb ⟨i', oi, S', bo, hl, hp⟩ => by
            obtain ⟨a1, b1, S1, hp1, hor, _⟩ := hs.live i' oi hl
            rw [hp] at hp1
            cases hp1
            have hlt := hor.lt
            have h1 := frF_none hb
            rw [frF_ne (fun g hg => by
              rcases List.mem_append.1 hg with hg | hg
              · exact h1.2 g hg
              · simp only [List.mem_singleton] at hg
                subst hg
                simp only
                omega)]
            exact h1.1)
        refine ⟨fun k hkk hzk _ => keeps_pw ht hk hs2 hkeep k hkk hzk, ?_⟩
        have hlist : listAll listed ((F ++ [(⟨j, d, w.heap.size, mk w.heap.size, ob⟩ : Pnd)]).map (fun f : Pnd => f.i)) = (listAll listed (F.map (·.i))).setIfInBounds j true := by
          rw [List.map_append, List.map_cons, List.map_nil, listAll_snoc]
        have hG := ih (F ++ [⟨j, d, w.heap.size, mk w.heap.size, ob⟩]) (w.alloc ob) hs2 (fun f hf => by
            rcases List.mem_append.1 hf with hf | hf
            · obtain ⟨⟨of, k1, k2, k3, k4, k5, k6⟩, hdg, hung, hbg, hfg⟩ := hPF f hf
              exact ⟨⟨of, k1, k2, k3, k4, k5, fun e' he hb => by rw [hlist]; exact getD_set_true (k6 e' he hb)⟩, hdg, hung, hbg, hfg⟩
            · simp only [List.mem_singleton] at hf
              subst hf
              refine ⟨⟨oj, hoj, hfo, hgn, hd, fun ob' mk' hm' => ?_, fun e' he hb => by rw [hlist]; exact getD_set_true (hall e' he hb)⟩, hd', hjF.2, hs.base_le, hsz'.1⟩
              have h1 := hmk.run none 0 "" #[] none w
              have h2 := hm'.run none 0 "" #[] none w
              rw [h1] at h2
              simp only [Result.ok.injEq, Next.value.injEq] at h2
              have h3 : (w.alloc ob).heap[w.heap.size]? = (w.alloc ob').heap[w.heap.size]? := by rw [h2.2]
              rw [alloc_at, alloc_at] at h3
              exact ⟨(Option.some.inj h3).symm, h2.1.symm⟩)
          (List.pairwise_append.2 ⟨hpw, by simp, fun f hf g hg => by
            simp only [List.mem_singleton] at hg
            subst hg
            refine ⟨fun e' => hjF.1 (List.mem_map.2 ⟨f, hf, e'⟩), hsz'.2 f hf, (hapF f hf).2.1, fun o1 o2 h1 h2 => ?_⟩
            rw [hoj] at h2
            cases h2
            exact ⟨(hapF f hf).1, (hapF f hf).2.2 o1 h1⟩⟩)
          (fun f hf => by
            rcases List.mem_append.1 hf with hf | hf
            · exact hin f hf
            · simp only [List.mem_singleton] at hf
              subst hf
              obtain ⟨r, hr, e'⟩ := List.any_eq_true.1 hrest
              exact ⟨r, List.mem_cons_of_mem _ hr, by simpa using e'⟩)
          (fun f hf => by
            rcases List.mem_append.1 hf with hf | hf
            · exact hni f hf
            · simp only [List.mem_singleton] at hf
              subst hf
              exact hji)
          (by
            have := cnt_lt (pl := (i, false, z) :: pl) (F := F) (f := ⟨j, d, w.heap.size, mk w.heap.size, ob⟩) (by
              obtain ⟨r, hr, e'⟩ := List.any_eq_true.1 hrest
              exact ⟨r, List.mem_cons_of_mem _ hr, by simpa using e'⟩) (fun g hg e' => hjF.1 (List.mem_map.2 ⟨g, hg, e'⟩))
            omega)
        rw [hlist] at hG
        have hput : putsF a0 (F ++ [⟨j, d, w.heap.size, mk w.heap.size, ob⟩]) = (putsF a0 F).put oj.dst (mk w.heap.size) := by
          unfold putsF
          rw [List.foldl_append, hd]
          rfl
        rw [hput] at hG
        exact hG
end
end Go.Rk
