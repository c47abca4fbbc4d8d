/- Regions that draw their order are walked by their plan: the proof, put together. -/
import Derived.Test.YtffkmfgmdepfcaaGreatDoorRk23
set_option linter.unusedSimpArgs false
set_option linter.unusedVariables false
set_option linter.unusedSectionVars false
namespace Go.Rk
open Go.Sl (opR opR_mono opR_wp run_bind takeOk sinkOk takeOk_spec sinkOk_spec wpAnyC opC wpAnyC_first wpAnyC_mono YieldsC)
open Go.RowKit
variable [Sym]

section
variable {P : Program} {c : Cfg} {n : Nat} {B0 : Nat} {w0 : World} {Fr : Nat → Option Obj}

/-- the walk from here on is good, whatever is pending -/
def Good (P : Program) (n B0 : Nat) (w0 : World) (Fr : Nat → Option Obj) (ops : Array Oper) (K : Act → World → Prop) (pl : Plan) (listed : Array Bool) (ks : List Kx) (s : S) (p : Pl) (a0 : Act) : Prop :=
  ∀ (fuel : Nat) (F : List Pnd) (w : World), Sim B0 w0 (frF Fr F) p s w → (∀ f ∈ F, PF P ops n B0 Fr listed (F.map (·.i)) a0 f) → F.Pairwise (PP ops) → (∀ f ∈ F, ∃ q ∈ pl, q.1 = f.i) → cnt pl F ≤ fuel →
    wpAnyC P .any ops (Cls P ks) K fuel (listAll listed (F.map (·.i))) (putsF a0 F) w

theorem good_nil {ops : Array Oper} {K : Act → World → Prop} {listed : Array Bool} {ks : List Kx} {s : S} {p : Pl} {a0 : Act} (hr : Region.ready .any ops listed = []) (hK : ∀ w, Sim B0 w0 Fr p s w → K a0 w) : Good P n B0 w0 Fr ops K [] listed ks s p a0 := by
  intro fuel F w hs _ _ hin _
  have hF : F = [] := by
    cases F with
    | nil => rfl
    | cons f F => obtain ⟨q, hq, _⟩ := hin f (by simp); cases hq
  subst hF
  have hs' : Sim B0 w0 Fr p s w := hs
  cases fuel with
  | zero => exact ⟨hr, hK w hs'⟩
  | succ fuel => exact ⟨fun _ => hK w hs', fun i hi => by
      have : i ∈ Region.ready .any ops listed := hi
      rw [hr] at this; cases this⟩

variable {ops : Array Oper} {K : Act → World → Prop} {pl : Plan} {listed : Array Bool} {ks : List Kx} {s s1 : S} {p : Pl} {a0 : Act} {e : En} {i : Nat} {q : Bool} {z : List Nat} {o : Oper} {v : AV} {w : World}

/-- a pending block is told of at its turn -/
theorem good_adopt (ht : TabOk P c.tb) (hsel : Region.noSelect ops = true) (hRE : RE p n e a0) (hdst : ∀ k, o.dst = some k → k < n) (ho : ops[i]? = some o) (hplu : ∀ q ∈ pl, q.1 ≠ i) (hfl : floatOp o.op = true)
    (he : exOp c.tb e s o.op = some (.val v s1))
    (hnext : ∀ (p' : Pl) (u : Value), Pl.le p p' → VR p' v u → Good P n B0 w0 Fr ops K pl (listed.setIfInBounds i true) ks s1 p' (a0.put o.dst u))
    {fuel : Nat} {F : List Pnd} (hs : Sim B0 w0 (frF Fr F) p s w) (hPF : ∀ f ∈ F, PF P ops n B0 Fr listed (F.map (·.i)) a0 f) (hpw : F.Pairwise (PP ops)) (hin : ∀ f ∈ F, ∃ r ∈ (i, q, z) :: pl, r.1 = f.i) (hcnt : cnt ((i, q, z) :: pl) F ≤ fuel)
    {f : Pnd} (hf : f ∈ F) (hfi : f.i = i) : wpAnyC P .any ops (Cls P ks) K fuel (listAll listed (F.map (·.i))) (putsF a0 F) w := by
  obtain ⟨F1, F2, hFF⟩ := List.append_of_mem hf
  obtain ⟨⟨o', h1, h2, h3, h4, h5, h6⟩, hd', hun, hbase, hfr⟩ := hPF f hf
  rw [hfi, ho] at h1
  cases h1
  obtain ⟨ao, ob, mk, Sz, hmk, hmade⟩ := float_ok (P := P) ht hfl hRE.oe he
  obtain ⟨rfl, hval⟩ := h5 ob mk hmk
  have hpw' := hpw
  rw [hFF] at hpw'
  obtain ⟨hp1, hp2, hp3⟩ := List.pairwise_append.1 hpw'
  have hp2' := List.pairwise_cons.1 hp2
  have hPPf : ∀ g ∈ F1 ++ F2, g.i ≠ i ∧ g.b ≠ f.b ∧ g.d ≠ f.d ∧ ∀ o', ops[g.i]? = some o' → f.d ∉ o'.looksAt ops := fun g hg => by
    rcases List.mem_append.1 hg with hg | hg
    · have := hp3 g hg f (by simp)
      exact ⟨hfi ▸ this.1, this.2.1, this.2.2.1, fun o' ho' => (this.2.2.2 o' o ho' (hfi ▸ ho)).2⟩
    · have := hp2'.1 g hg
      exact ⟨fun h => this.1 (hfi.trans h.symm), Ne.symm this.2.1, Ne.symm this.2.2.1, fun o' ho' => (this.2.2.2 o o' (hfi ▸ ho) ho').1⟩
  have hmem : ∀ g ∈ F1 ++ F2, g ∈ F := fun g hg => by
    rw [hFF]
    rcases List.mem_append.1 hg with hg | hg
    · exact List.mem_append_left _ hg
    · exact List.mem_append_right _ (List.mem_cons_of_mem _ hg)
  have hfrf : frF Fr F f.b = some f.ob := frF_mem hpw f hf
  have hFr2 : frF Fr (F1 ++ F2) f.b = none := by rw [frF_ne (fun g hg => (hPPf g hg).2.1)]; exact hfr
  have hheap : w.heap[f.b]? = some f.ob := hs.frame _ _ hfrf
  -- the state without it
  have hs2 : Sim B0 w0 (frF Fr (F1 ++ F2)) p s w := hs.frame_eq (fun b o' hb => by
      by_cases hbf : b = f.b
      · subst hbf; rw [hFr2] at hb; cases hb
      · rcases frF_some hb with ⟨g, hg, e⟩ | hb'
        · have hg1 := frF_mem (Fr := Fr) hpw g (hmem g hg)
          have hg2 : frF Fr (F1 ++ F2) g.b = some g.ob := frF_mem (ops := ops) (List.pairwise_append.2 ⟨hp1, hp2'.2, fun x hx y hy => hp3 x hx y (List.mem_cons_of_mem _ hy)⟩) g hg
          rw [← e] at hb ⊢
          rw [hg2] at hb
          cases hb
          exact hs.frame _ _ hg1
        · by_cases hx : ∃ g ∈ F, g.b = b
          · obtain ⟨g, hg, e⟩ := hx
            have := (hPF g hg).fr
            rw [e] at this
            rw [this] at hb'
            cases hb'
          · exact hs.frame _ _ (by rw [frF_ne (fun g hg e => hx ⟨g, hg, e⟩)]; exact hb')) (fun b hb _ => by
      have := frF_none hb
      rw [frF_ne (fun g hg => this.2 g (hmem g hg))]
      exact this.1)
  have hno : ∀ j oj b' S', Live s j oj → p j = some (f.b, b', S') → False := fun j oj b' S' hj hpj => by
    obtain ⟨a1, b1, S1, hp1, _, _, hF1⟩ := hs.live j oj hj
    rw [hpj] at hp1
    cases hp1
    rw [hfrf] at hF1
    cases hF1
  have hs3 := hs2.adopt (hmade.obj p f.b w (Pl.le_refl p) hheap) hbase hFr2 hno
  have hle : Pl.le p (p.add s.nx (f.b, 0, Sz)) := Pl.le_add (hs.fresh _ (Nat.le_refl _)).1 _
  have hv : VR (p.add s.nx (f.b, 0, Sz)) v f.v := by
    have := hmade.val (p.add s.nx (f.b, 0, Sz)) f.b (Pl.add_same _ _ _)
    rw [hval] at this
    exact this
  rw [← hmade.push] at hs3
  have hG := hnext _ f.v hle hv fuel (F1 ++ F2) w hs3 (fun g hg => ?_) (List.pairwise_append.2 ⟨hp1, hp2'.2, fun x hx y hy => hp3 x hx y (List.mem_cons_of_mem _ hy)⟩) (fun g hg => ?_) (Nat.le_trans (cnt_adopt (fun r hr => hfi ▸ hplu r hr) (i, q, z)) (hFF ▸ hcnt))
  · have e1 : putsF a0 F = putsF (a0.put o.dst f.v) (F1 ++ F2) := by
      rw [hFF, h4]
      exact putsF_mid (fun g hg => (hPPf g (List.mem_append_left _ hg)).2.2.1)
    have e2 : listAll listed (F.map (·.i)) = listAll (listed.setIfInBounds i true) ((F1 ++ F2).map (·.i)) := by
      rw [hFF, List.map_append, List.map_cons, List.map_append, listAll_append, listAll_append, listAll_set, hfi]
      rfl
    rw [e1, e2]
    exact hG
  · have hg1 := hPF g (hmem g hg)
    have h7 := hPPf g hg
    have e2 : listAll listed (F.map (·.i)) = listAll (listed.setIfInBounds i true) ((F1 ++ F2).map (·.i)) := by
      rw [hFF, List.map_append, List.map_cons, List.map_append, listAll_append, listAll_append, listAll_set, hfi]
      rfl
    obtain ⟨⟨og, k1, k2, k3, k4, k5, k6⟩, hdg, hung, hbg, hfg⟩ := hg1
    refine ⟨⟨og, k1, k2, k3, k4, fun ob mk hm => k5 ob mk (makes_put (ops := ops) (fun cs b => Region.noSelect_spec hsel _ _ cs b k1) (fun d hd => ?_) hm), fun e he hbd => ?_⟩, hdg, ?_, hbg, hfg⟩
    · rw [h4] at hd
      cases hd
      exact h7.2.2.2 og k1
    · rw [← e2]
      exact k6 e he hbd
    · rw [getD_set, if_neg (fun h => h7.1 h.1.symm)]
      exact hung
  · obtain ⟨r, hr, e⟩ := hin g (hmem g hg)
    rcases List.mem_cons.1 hr with rfl | hr
    · exact absurd e.symm (hPPf g hg).1
    · exact ⟨r, hr, e⟩

/-- what every pending one is to an operation that does not wait -/
theorem pend_apart (hri : i ∈ Region.ready .any ops listed) {F : List Pnd} (hPF : ∀ f ∈ F, PF P ops n B0 Fr listed (F.map (·.i)) a0 f) (hni : ∀ f ∈ F, f.i ≠ i)
    (hap : ∀ f ∈ F, ∀ of, ops[f.i]? = some of → (∀ e ∈ of.after, Region.binds .any e = true → e.on ≠ i) → o.apart ops of = true) :
    ∀ f ∈ F, f.d ∉ o.looksAt ops ∧ (∀ d, o.dst = some d → f.d ≠ d) ∧ ∀ of, ops[f.i]? = some of → ∀ d, o.dst = some d → d ∉ of.looksAt ops := fun f hf => by
  obtain ⟨⟨of, h1, h2, h3, h4, h5, h6⟩, hd', hun, hbase, hfr⟩ := hPF f hf
  have hi0 : (listAll listed (F.map (·.i))).getD i false = false := by
    rw [getD_listAll, if_neg (fun h => by
      obtain ⟨g, hg, e⟩ := List.mem_map.1 h.1
      exact hni g hg e)]
    have h0 := ((mem_ready (md := .any) (ops := ops)).1 hri).1
    rcases Nat.lt_or_ge i listed.size with h' | h'
    · simp [h'] at h0 ⊢; exact h0
    · simp [Array.getElem?_eq_none h']
  have hno : ∀ e ∈ of.after, Region.binds .any e = true → e.on ≠ i := fun e he hb heq => by
    have := h6 e he hb
    rw [heq, hi0] at this
    cases this
  obtain ⟨k1, k2, k3⟩ := Oper.apart_spec (hap f hf of h1 hno)
  refine ⟨k3 f.d h4, fun d hd => ?_, fun of' ho' d hd => ?_⟩
  · have := k2 d hd
    rw [h4] at this
    simpa using this
  · rw [h1] at ho'
    cases ho'
    exact k1 d hd

theorem ready_all (hri : i ∈ Region.ready .any ops listed) {is : List Nat} (hni : i ∉ is) : i ∈ Region.ready .any ops (listAll listed is) := by
  rw [mem_ready] at hri ⊢
  obtain ⟨h0, o, ho, hall⟩ := hri
  refine ⟨by rw [getD_listAll, if_neg (fun h => hni h.1)]; exact h0, o, ho, fun e he hb => ?_⟩
  rw [getD_listAll]
  split
  · rfl
  · exact hall e he hb
end
end Go.Rk
