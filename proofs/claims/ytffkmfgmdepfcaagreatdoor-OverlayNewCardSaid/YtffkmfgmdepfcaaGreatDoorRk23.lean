/- Regions that draw their order are walked by their plan: the proof. -/
import Derived.Test.YtffkmfgmdepfcaaGreatDoorRk22
set_option linter.unusedSimpArgs false
set_option linter.unusedVariables false
set_option linter.unusedSectionVars false
namespace Go.Rk
open Go.Sl (opR opR_mono opR_wp run_bind takeOk sinkOk takeOk_spec sinkOk_spec wpAnyC opC wpAnyC_first wpAnyC_mono YieldsC)
open Go.RowKit
variable [Sym]

theorem float_noread {op : Op} (h : floatOp op = true) : readsMem op = none := by cases op <;> first | rfl | cases h
theorem float_nocall {op : Op} (h : floatOp op = true) (c : Call) : op ≠ .call c := fun e => by subst e; cases h

section
variable {P : Program} {c : Cfg} {n : Nat} {B0 : Nat} {w0 : World} {Fr : Nat → Option Obj} {ops : Array Oper}

theorem makes_put {o : Oper} {a : Act} {dst : Option Nat} {v : Value} {ob : Obj} {mk : Nat → Value} (hsel : ∀ cs b, o.op ≠ .select cs b) (h : ∀ d, dst = some d → d ∉ o.looksAt ops) : Makes P (a.put dst v).eval o.op ob mk → Makes P a.eval o.op ob mk := fun hm => ⟨fun dst' t pos after g w => by
  have e := execOp_put (ops := ops) ⟨dst', o.op, t, pos, after, none⟩ hsel a dst v (fun d hd hmem => h d hd (by
    unfold Oper.looksAt at hmem ⊢
    simp only [List.append_nil] at hmem
    exact List.mem_append_left _ hmem))
  have h1 := hm.run dst' t pos after none w
  rw [e] at h1
  exact h1⟩

theorem opR_congr {a a' : Act} {o : Oper} {w : World} {R : Value → World → Prop} (h : execOp a'.eval o = execOp a.eval o) (k : opR P o a w R) : opR P o a' w R := by
  unfold opR at *
  rw [h]
  exact k

theorem frF_mem {F : List Pnd} : F.Pairwise (PP ops) → ∀ f ∈ F, frF Fr F f.b = some f.ob := by
  intro h f hf
  unfold frF
  induction F with
  | nil => cases hf
  | cons g F ih =>
    rw [List.find?_cons]
    rcases List.mem_cons.1 hf with rfl | hf
    · simp
    · have hne : g.b ≠ f.b := ((List.pairwise_cons.1 h).1 f hf).2.1
      have : (g.b == f.b) = false := beq_eq_false_iff_ne.2 hne
      rw [this]
      exact ih (List.pairwise_cons.1 h).2 hf
theorem frF_ne {F : List Pnd} {b : Nat} (h : ∀ f ∈ F, f.b ≠ b) : frF Fr F b = Fr b := by
  unfold frF
  have : F.find? (fun f => f.b == b) = none := List.find?_eq_none.2 fun f hf => by simpa using h f hf
  rw [this]
theorem frF_some {F : List Pnd} {b : Nat} {o : Obj} (h : frF Fr F b = some o) : (∃ f ∈ F, f.b = b) ∨ Fr b = some o := by
  unfold frF at h
  split at h
  · rename_i f hf
    exact .inl ⟨f, List.mem_of_find?_eq_some hf, by simpa using List.find?_some hf⟩
  · exact .inr h

theorem cnt_tail {q : Nat × Bool × List Nat} {pl : Plan} {F : List Pnd} (h : ∀ f ∈ F, f.i ≠ q.1) : cnt (q :: pl) F = cnt pl F + 1 := by
  have : (F.any fun f => f.i == q.1) = false := by
    rw [List.any_eq_false]
    intro f hf
    simpa using h f hf
  simp [cnt, List.filter_cons, this]
theorem cnt_lt {pl : Plan} {F : List Pnd} {f : Pnd} (hj : ∃ q ∈ pl, q.1 = f.i) (hF : ∀ g ∈ F, g.i ≠ f.i) : cnt pl (F ++ [f]) < cnt pl F := by
  unfold cnt
  have hle : ∀ l : Plan, (l.filter fun q => !(F ++ [f]).any fun g => g.i == q.1).length ≤ (l.filter fun q => !F.any fun g => g.i == q.1).length := by
    intro l
    induction l with
    | nil => simp
    | cons q l ih =>
      simp only [List.filter_cons, List.any_append, List.any_cons, List.any_nil, Bool.or_false]
      cases h1 : F.any fun g => g.i == q.1 <;> cases h2 : (f.i == q.1) <;> simp only [Bool.or_false, Bool.or_true, Bool.not_true, Bool.not_false, if_true, Bool.false_eq_true, if_false, List.length_cons] <;> simp only [List.any_append, List.any_cons, List.any_nil, Bool.or_false] at ih <;> omega
  induction pl with
  | nil => obtain ⟨q, hq, _⟩ := hj; cases hq
  | cons q l ih =>
    obtain ⟨q', hq', e⟩ := hj
    have hlel := hle l
    simp only [List.filter_cons, List.any_append, List.any_cons, List.any_nil, Bool.or_false] at ih hlel ⊢
    rcases List.mem_cons.1 hq' with rfl | hq'
    · have h1 : (F.any fun g => g.i == q'.1) = false := by
        rw [List.any_eq_false]
        intro g hg
        simpa [e] using hF g hg
      have h2 : (f.i == q'.1) = true := by simp [e]
      simp only [h1, h2, Bool.or_true, Bool.not_true, Bool.not_false, if_true, Bool.false_eq_true, if_false, List.length_cons]
      omega
    · have := ih ⟨q', hq', e⟩
      cases h1 : F.any fun g => g.i == q.1 <;> cases h2 : (f.i == q.1) <;> simp only [Bool.or_false, Bool.or_true, Bool.not_true, Bool.not_false, if_true, Bool.false_eq_true, if_false, List.length_cons] <;> omega
theorem cnt_adopt {pl : Plan} {F1 F2 : List Pnd} {f : Pnd} (hpl : ∀ q ∈ pl, q.1 ≠ f.i) (q : Nat × Bool × List Nat) : cnt pl (F1 ++ F2) ≤ cnt (q :: pl) (F1 ++ f :: F2) := by
  have : cnt pl (F1 ++ F2) = cnt pl (F1 ++ f :: F2) := by
    unfold cnt
    congr 1
    apply List.filter_congr
    intro q hq
    have : (f.i == q.1) = false := beq_eq_false_iff_ne.2 (Ne.symm (hpl q hq))
    simp [List.any_append, this]
  rw [this]
  unfold cnt
  rw [List.filter_cons]
  split
  · simp
  · exact Nat.le_refl _

/-- what stays of the pending ones behind a step -/
theorem PF.step {listed : Array Bool} {is : List Nat} {a0 : Act} {f : Pnd} {i : Nat} {dst : Option Nat} {u : Value} (hsel : Region.noSelect ops = true) (h : PF P ops n B0 Fr listed is a0 f) (hne : f.i ≠ i) (hd : ∀ o, ops[f.i]? = some o → ∀ d, dst = some d → d ∉ o.looksAt ops) :
    PF P ops n B0 Fr (listed.setIfInBounds i true) is (a0.put dst u) f := by
  obtain ⟨⟨o, h1, h2, h3, h4, h5, h6⟩, hd', hun, hb, hf⟩ := h
  refine ⟨⟨o, h1, h2, h3, h4, fun ob mk hm => h5 ob mk (makes_put (fun cs b => Region.noSelect_spec hsel _ _ cs b h1) (hd o h1) hm), fun e he hbd => ?_⟩, hd', ?_, hb, hf⟩
  · rw [listAll_set]
    exact getD_set_true (h6 e he hbd)
  · rw [getD_set, if_neg (fun h => hne h.1.symm)]
    exact hun
end
end Go.Rk
