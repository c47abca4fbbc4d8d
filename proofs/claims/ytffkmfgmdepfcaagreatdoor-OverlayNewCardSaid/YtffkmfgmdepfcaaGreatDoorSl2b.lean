/- One operation as a step between states; regions that draw their order. -/
import Derived.Test.YtffkmfgmdepfcaaGreatDoorSl2
import Derived.Still
namespace Go.Sl

/-- One operation yields a value or nothing, or a call that returns: never a panic. -/
def opR (P : Program) (o : Oper) (a : Act) (w : World) (R : Value → World → Prop) : Prop :=
  match (execOp a.eval o).run P w with
  | .ok (.value v) w' => R v w'
  | .ok .skip w' => R undef w'
  | .ok (.enter f args) w' => Calls P f args w' (fun e w'' => ∃ v, e = .returned v ∧ R v w'')
  | .ok (.row row args) w' => Rows P row args w' R
  | _ => False

theorem opR_mono {P : Program} {o : Oper} {a : Act} {w : World} {R R' : Value → World → Prop} (h : opR P o a w R) (hr : ∀ v w', R v w' → R' v w') : opR P o a w R' := by
  unfold opR at *
  split at h
  · exact hr _ _ h
  · exact hr _ _ h
  · exact h.mono fun e w'' ⟨v, he, hv⟩ => ⟨v, he, hr _ _ hv⟩
  · exact h.mono hr
  · exact h.elim

theorem opR_wp {P : Program} {o : Oper} {a : Act} {w : World} {K : Act → World → Prop} {Q : Exit → Act → World → Prop} (h : opR P o a w (fun v w' => K (a.put o.dst v) w')) : o.wp P a w K Q := by
  unfold opR at h
  unfold Oper.wp
  generalize (execOp a.eval o).run P w = r at h
  cases r with
  | ok n w' =>
    cases n <;> simp only at h <;> simp only [Oper.upon]
    case value v => exact h
    case skip => exact h
    case enter f args => exact h.mono fun e w'' ⟨v, he, hv⟩ => by subst he; exact hv
    case row row args => exact h
  | halt x w' => exact h.elim

/-- From a state: what one operation yields, by a ghost, and the state behind it. -/
def Step (x : Cx) (op : Op) (E : Env) (As : List Assn) {γ : Type} (val : γ → Value) (post : γ → List Assn) : Prop :=
  ∀ D a w, Dat.le x.D0 D → Rep x.n E a → St x.B0 x.w0 D As w → ∀ dst t pos after g,
    opR x.P ⟨dst, op, t, pos, after, g⟩ a w (fun u w' => ∃ k D', Dat.le D D' ∧ u = val k ∧ St x.B0 x.w0 D' (post k) w')

section
variable {x : Cx} {Q : Exit → Act → World → Prop} {E : Env} {As : List Assn} {ops : Array Oper} {rest : List Oper} {op : Op} {d t : Nat} {pos : String} {after : Array Edge} {γ : Type} {val : γ → Value} {post : γ → List Assn}

theorem L.step (h : Step x op E As val post) (hd : Nat.blt d x.n = true) (k : ∀ g, L x ops Q rest ((d, val g) :: E) (post g)) : L x ops Q (⟨some d, op, t, pos, after, none⟩ :: rest) E As :=
  fun D a w hl r st => wpList_plain rfl fun K hK => opR_wp (opR_mono (h D a w hl r st _ _ _ _ _) fun v w' ⟨g, D', l', hv, st'⟩ => by
    subst hv
    exact hK _ _ (k g D' _ w' (Dat.le_trans hl l') (r.put (Nat.blt_eq ▸ hd) _) st'))

theorem L.step0 (h : Step x op E As val post) (k : ∀ g, L x ops Q rest E (post g)) : L x ops Q (⟨none, op, t, pos, after, none⟩ :: rest) E As :=
  fun D a w hl r st => wpList_plain rfl fun _ hK => opR_wp (opR_mono (h D a w hl r st _ _ _ _ _) fun _ w' ⟨g, D', l', _, st'⟩ =>
    hK _ _ (k g D' _ w' (Dat.le_trans hl l') (r.put_none _) st'))

theorem yielded_of {n : Nat} {a : Act} (r : Rep n E a) {j dj : Nat} {b : Bool} (hj : (ops[j]?).bind (·.dst) = some dj) (hb : look E dj = some (.bool b)) : yielded ops a.tmps j = some b := by
  have := r.get dj _ hb
  unfold yielded
  rw [hj]
  simp only [Option.bind_some]
  cases ht : a.tmps[dj]? with
  | none =>
    simp [Array.getD_eq_getD_getElem?, ht, undef] at this
  | some u =>
    simp [Array.getD_eq_getD_getElem?, ht] at this
    subst this
    rfl

/-- A guarded operation whose guard says that it is carried out: as if there were no guard. -/
theorem L.guardT {dst : Option Tmp} {j dj : Nat} {want : Bool} (hj : (ops[j]?).bind (·.dst) = some dj) (hb : look E dj = some (.bool want))
    (k : L x ops Q (⟨dst, op, t, pos, after, none⟩ :: rest) E As) : L x ops Q (⟨dst, op, t, pos, after, some (j, want)⟩ :: rest) E As :=
  fun D a w hl r st => by
    have h := k D a w hl r st
    have hw : Region.wanted ⟨dst, op, t, pos, after, some (j, want)⟩ (yielded ops a.tmps) = true := by simp [Region.wanted, yielded_of r hj hb]
    have hw' : Region.wanted ⟨dst, op, t, pos, after, none⟩ (yielded ops a.tmps) = true := by simp [Region.wanted]
    unfold wpList at h ⊢
    rw [if_pos hw]
    rw [if_pos hw'] at h
    exact h

/-- .. that it is not carried out. -/
theorem L.guardF {j dj : Nat} {want b : Bool} (hj : (ops[j]?).bind (·.dst) = some dj) (hb : look E dj = some (.bool b)) (hne : b = !want) (hd : Nat.blt d x.n = true)
    (k : L x ops Q rest ((d, undef) :: E) As) : L x ops Q (⟨some d, op, t, pos, after, some (j, want)⟩ :: rest) E As :=
  fun D a w hl r st => by
    have hw : Region.wanted ⟨some d, op, t, pos, after, some (j, want)⟩ (yielded ops a.tmps) = false := by
      simp [Region.wanted, yielded_of r hj hb, hne]
    unfold wpList
    rw [if_neg (by simp [hw])]
    exact k D _ w hl (r.put (Nat.blt_eq ▸ hd) _) st
theorem L.guardF0 {j dj : Nat} {want b : Bool} (hj : (ops[j]?).bind (·.dst) = some dj) (hb : look E dj = some (.bool b)) (hne : b = !want)
    (k : L x ops Q rest E As) : L x ops Q (⟨none, op, t, pos, after, some (j, want)⟩ :: rest) E As :=
  fun D a w hl r st => by
    have hw : Region.wanted ⟨none, op, t, pos, after, some (j, want)⟩ (yielded ops a.tmps) = false := by
      simp [Region.wanted, yielded_of r hj hb, hne]
    unfold wpList
    rw [if_neg (by simp [hw])]
    exact k D _ w hl (r.put_none _) st
end

/-! ### Regions that draw their order -/
section
variable {P : Program} {ops : Array Oper} {Q : Exit → Act → World → Prop} {md : Region.Mode}

/-- Operation i in state a, w: what it keeps. -/
def opC (P : Program) (ops : Array Oper) (C : World → World → Prop) (i : Nat) (K : Act → World → Prop) (a : Act) (w : World) : Prop :=
  match ops[i]? with
  | none => K a w
  | some o => if Region.wanted o (yielded ops a.tmps) then opR P o a w (fun v w' => C w w' ∧ K (a.put o.dst v) w') else K (a.put o.dst undef) w

/-- Whatever order is picked; each operation keeps a class of its own. -/
def wpAnyC (P : Program) (md : Region.Mode) (ops : Array Oper) (C : Nat → World → World → Prop) (Q : Act → World → Prop) : Nat → Array Bool → Act → World → Prop
  | 0, listed, a, w => Region.ready md ops listed = [] ∧ Q a w
  | fuel + 1, listed, a, w =>
    (Region.ready md ops listed = [] → Q a w) ∧
    ∀ i ∈ Region.ready md ops listed, opC P ops (C i) i (wpAnyC P md ops C Q fuel (listed.setIfInBounds i true)) a w

theorem opC_mono {C C' : World → World → Prop} {i : Nat} {K K' : Act → World → Prop} {a : Act} {w : World} (hC : ∀ w w', C w w' → C' w w') (hK : ∀ a w, K a w → K' a w) (h : opC P ops C i K a w) : opC P ops C' i K' a w := by
  unfold opC at *
  split
  · exact hK _ _ (by simpa [*] using h)
  · rename_i o ho
    simp only [ho] at h
    split
    · rename_i hw; simp only [hw, if_true] at h; exact opR_mono h fun v w' hh => ⟨hC _ _ hh.1, hK _ _ hh.2⟩
    · rename_i hw; simp only [hw] at h; exact hK _ _ h

theorem wpAnyC_mono {C C' : Nat → World → World → Prop} {Q : Act → World → Prop} (hC : ∀ i w w', C i w w' → C' i w w') : ∀ (fuel : Nat) (listed : Array Bool) (a : Act) (w : World),
    wpAnyC P md ops C Q fuel listed a w → wpAnyC P md ops C' Q fuel listed a w
  | 0, _, _, _, h => h
  | fuel + 1, _, _, _, h => ⟨h.1, fun i hi => opC_mono (hC i) (fun a w => wpAnyC_mono hC fuel _ a w) (h.2 i hi)⟩

theorem wpAny_of_C {C : Nat → World → World → Prop} : ∀ (fuel : Nat) (listed : Array Bool) (a : Act) (w : World), wpAnyC P md ops C (Q .normal) fuel listed a w → wpAny P md ops Q fuel listed a w
  | 0, _, _, _, h => h
  | fuel + 1, _, _, _, h => ⟨h.1, fun i hi => by
      have := h.2 i hi
      unfold opC at this
      unfold wpOp
      split
      · rename_i ho; simp only [ho] at this; exact wpAny_of_C fuel _ _ _ this
      · rename_i o ho
        simp only [ho] at this
        split
        · rename_i hw; simp only [hw, if_true] at this
          exact .inl (opR_wp (opR_mono this fun _ _ hh => wpAny_of_C fuel _ _ _ hh.2))
        · rename_i hw; simp only [hw] at this; exact wpAny_of_C fuel _ _ _ this⟩

/-- In state a, in every world of the class, the operation leaves v in its temporary and the world alone. -/
def YieldsC (P : Program) (ops : Array Oper) (R : World → Prop) (o : Oper) (v : Value) (a : Act) : Prop :=
  (Region.wanted o (yielded ops a.tmps) = true ∧ ∀ w, R w → (execOp a.eval o).run P w = .ok (.value v) w) ∨
  (Region.wanted o (yielded ops a.tmps) = false ∧ v = undef)

theorem YieldsC.of_same {C : World → Prop} {o : Oper} {v : Value} {a a' : Act} (hy : YieldsC P ops C o v a) (he : execOp a'.eval o = execOp a.eval o)
    (hw : Region.wanted o (yielded ops a'.tmps) = Region.wanted o (yielded ops a.tmps)) : YieldsC P ops C o v a' := by
  unfold YieldsC at *
  rw [he, hw]
  exact hy

theorem YieldsC.opC {C : World → World → Prop} {R : World → Prop} {i : Nat} {o : Oper} {v : Value} {a : Act} {w : World} (hi : ops[i]? = some o) (hy : YieldsC P ops R o v a) (hC : C w w) (hR : R w) {K : Act → World → Prop} (h : K (a.put o.dst v) w) : Sl.opC P ops C i K a w := by
  unfold Sl.opC
  simp only [hi]
  rcases hy with ⟨hw, hv⟩ | ⟨hw, rfl⟩
  · simp only [hw, if_true]
    unfold opR
    rw [hv w hR]
    exact ⟨hC, h⟩
  · simp only [hw, Bool.false_eq_true, if_false]; exact h

theorem opC_put {C : World → World → Prop} {R : World → Prop} {j : Nat} {oi oj : Oper} {v : Value} (hj : ops[j]? = some oj) (hap : oi.apart ops oj = true)
    (hsi : ∀ cs b, oi.op ≠ .select cs b) (hsj : ∀ cs b, oj.op ≠ .select cs b) {K : Act → World → Prop} {a : Act} {w : World} (hR : R w) (hCR : ∀ w w', R w → C w w' → R w')
    (hy : YieldsC P ops R oi v a) (h : opC P ops C j K (a.put oi.dst v) w) :
    opC P ops C j (fun a' w' => R w' ∧ YieldsC P ops R oi v a' ∧ K (a'.put oi.dst v) w') a w := by
  obtain ⟨h1, h2, h3⟩ := Oper.apart_spec hap
  have keep : ∀ (a : Act), YieldsC P ops R oi v a → ∀ u, YieldsC P ops R oi v (a.put oj.dst u) := fun a hy u =>
    hy.of_same (execOp_put oi hsi a oj.dst u h3) (wanted_put oi a oj.dst u h3)
  unfold opC at *
  simp only [hj] at *
  rw [wanted_put oj a oi.dst v h1] at h
  split
  · rename_i hw
    simp only [hw, if_true] at h
    have e : execOp (a.put oi.dst v).eval oj = execOp a.eval oj := execOp_put oj hsj a oi.dst v h1
    unfold opR at h ⊢
    rw [e] at h
    split at h
    · exact ⟨h.1, hCR _ _ hR h.1, keep a hy _, by rw [← Act.put_comm a v _ h2]; exact h.2⟩
    · exact ⟨h.1, hCR _ _ hR h.1, keep a hy _, by rw [← Act.put_comm a v _ h2]; exact h.2⟩
    · exact h.mono fun e w'' ⟨u, he, hu⟩ => ⟨u, he, hu.1, hCR _ _ hR hu.1, keep a hy _, by rw [← Act.put_comm a v _ h2]; exact hu.2⟩
    · exact h.mono fun u w'' hu => ⟨hu.1, hCR _ _ hR hu.1, keep a hy _, by rw [← Act.put_comm a v _ h2]; exact hu.2⟩
    · exact h.elim
  · rename_i hw
    simp only [hw] at h
    exact ⟨hR, keep a hy _, by rw [← Act.put_comm a v undef h2]; exact h⟩

/-- **An operation that may come up now may be taken first**, if it yields its value in every world of a class R; every operation that may come up before it keeps R (those in S cannot: each waits for it or for another one of S); and every other one that has not come up yet waits for it or is apart from it. -/
theorem wpAnyC_first {C : Nat → World → World → Prop} {R : World → Prop} {S : Nat → Bool} {Q : Act → World → Prop} {i : Nat} {oi : Oper} {v : Value} (hi : ops[i]? = some oi) (hsel : ∀ (j : Nat) (o : Oper) cs b, ops[j]? = some o → o.op ≠ .select cs b)
    (hCi : ∀ w, R w → C i w w) (hCR : ∀ j w w', S j = false → R w → C j w w' → R w')
    (hS : ∀ j, S j = true → ∃ oj, ops[j]? = some oj ∧ ∃ e ∈ oj.after, Region.binds md e = true ∧ (e.on = i ∨ S e.on = true)) :
    ∀ (fuel : Nat) (listed : Array Bool) (a : Act) (w : World), R w →
      (∀ j, S j = true → listed.getD j false = false) →
      (∀ j oj, ops[j]? = some oj → j ≠ i → listed.getD j true = false → (∀ e ∈ oj.after, Region.binds md e = true → e.on ≠ i) → oi.apart ops oj = true) →
      i ∈ Region.ready md ops listed → YieldsC P ops R oi v a →
      wpAnyC P md ops C Q fuel (listed.setIfInBounds i true) (a.put oi.dst v) w → wpAnyC P md ops C Q (fuel + 1) listed a w := by
  intro fuel
  induction fuel with
  | zero =>
    intro listed a w hR _ _ hr hy H
    refine ⟨fun h => (by rw [h] at hr; cases hr), fun j hj => ?_⟩
    by_cases hji : j = i
    · subst hji; exact hy.opC hi (hCi _ hR) hR H
    · have := ready_mono hj hji
      rw [H.1] at this
      cases this
  | succ fuel ih =>
    intro listed a w hR hun hfree hr hy H
    refine ⟨fun h => (by rw [h] at hr; cases hr), fun j hj => ?_⟩
    by_cases hji : j = i
    · subst hji; exact hy.opC hi (hCi _ hR) hR H
    · have h1 := H.2 j (ready_mono hj hji)
      obtain ⟨hjun, oj, hoj, hall⟩ := mem_ready.1 hj
      have hi0 : listed.getD i false = false := by
        have h0 := (mem_ready.1 hr).1
        rcases Nat.lt_or_ge i listed.size with h' | h'
        · simp [h'] at h0 ⊢; exact h0
        · simp [Array.getElem?_eq_none h']
      have hjS : S j = false := by
        cases hs : S j with
        | false => rfl
        | true =>
          obtain ⟨oj', hoj', e, he, hb, hon⟩ := hS j hs
          rw [hoj] at hoj'
          cases hoj'
          have hl := hall e he hb
          rcases hon with hon | hon
          · rw [hon, hi0] at hl; cases hl
          · rw [hun _ hon] at hl; cases hl
      have hnot : ∀ e ∈ oj.after, Region.binds md e = true → e.on ≠ i := fun e he hb heq => by
        have h1 := hall e he hb
        rw [heq, hi0] at h1
        cases h1
      have h2 := opC_put hoj (hfree j oj hoj hji hjun hnot) (fun cs b => hsel i oi cs b hi) (fun cs b => hsel j oj cs b hoj) hR (fun w w' => hCR j w w' hjS) hy h1
      have hfree' : ∀ k ok, ops[k]? = some ok → k ≠ i → (listed.setIfInBounds j true).getD k true = false →
          (∀ e ∈ ok.after, Region.binds md e = true → e.on ≠ i) → oi.apart ops ok = true := fun k ok hk hki hun hno => by
        refine hfree k ok hk hki ?_ hno
        by_cases hjk : j = k
        · subst hjk; exact hjun
        · rw [getD_set_ne true hjk] at hun; exact hun
      have hun' : ∀ k, S k = true → (listed.setIfInBounds j true).getD k false = false := fun k hk => by
        have hjk : j ≠ k := by rintro rfl; rw [hjS] at hk; cases hk
        rw [getD_set_ne false hjk]; exact hun k hk
      refine opC_mono (fun _ _ h => h) (fun a' w' h3 => ih (listed.setIfInBounds j true) a' w' h3.1 hun' hfree' (ready_mono hr (Ne.symm hji)) h3.2.1 ?_) h2
      rw [Array.setIfInBounds_comm _ _ hji]
      exact h3.2.2

/-- if one alone may come up, it is the one -/
theorem wpAnyC_one {C : Nat → World → World → Prop} {Q : Act → World → Prop} {i : Nat} {fuel : Nat} {listed : Array Bool} {a : Act} {w : World} (hr : Region.ready md ops listed = [i])
    (h : opC P ops (C i) i (wpAnyC P md ops C Q fuel (listed.setIfInBounds i true)) a w) : wpAnyC P md ops C Q (fuel + 1) listed a w :=
  ⟨fun e => (by rw [hr] at e; cases e), fun j hj => by rw [hr] at hj; simp only [List.mem_singleton] at hj; subst hj; exact h⟩
end
end Go.Sl
