/- A region that draws its order, walked in one order that a closed check has found good. -/
import Derived.Test.YtffkmfgmdepfcaaGreatDoorSl2b
import Derived.KernelRfl
namespace Go.Sl

def nthO : List Oper → Nat → Option Oper
  | [], _ => none
  | o :: _, 0 => some o
  | _ :: l, n + 1 => nthO l n

theorem nthO_eq : ∀ (l : List Oper) (i : Nat), nthO l i = l.toArray[i]?
  | [], _ => by simp [nthO]
  | o :: l, 0 => by simp [nthO]
  | o :: l, n + 1 => by simp [nthO, nthO_eq l n]

/-- may operation i be taken first: it may come up, and every other one that has not come up waits for it or is apart from it -/
def takeOk (ops : Array Oper) (listed : Array Bool) (i : Nat) : Bool :=
  (Region.ready .any ops listed).contains i &&
  match ops[i]? with
  | none => false
  | some oi => (List.range ops.size).all fun j =>
    j == i || listed.getD j true || match ops[j]? with
      | none => true
      | some oj => (oj.after.any fun e => Region.binds .any e && e.on == i) || oi.apart ops oj

def orderOk (ops : Array Oper) : List (Nat × Bool) → Array Bool → Bool
  | [], listed => (Region.ready .any ops listed).isEmpty
  | (i, quiet) :: p, listed => (if quiet then takeOk ops listed i else Region.ready .any ops listed == [i]) && orderOk ops p (listed.setIfInBounds i true)

/-- those of S have not come up, and each waits for i or for another one of S -/
def sinkOk (ops : Array Oper) (listed : Array Bool) (i : Nat) (S : List Nat) : Bool :=
  S.all fun j => !listed.getD j false && match ops[j]? with
    | none => false
    | some oj => oj.after.any fun e => Region.binds .any e && (e.on == i || S.contains e.on)

/-- an owned block that lies as it lay till its readers have read it; but for operations of S -/
structure Keep where
  b : Nat
  o : Obj
  S : List Nat

def Tr (D : Dat) (Cs : List Keep) (j : Nat) (w w' : World) : Prop :=
  DH D w' ∧ ∀ k ∈ Cs, j ∉ k.S → w.heap[k.b]? = some k.o → w'.heap[k.b]? = some k.o

theorem Tr.refl (D : Dat) (Cs : List Keep) (j : Nat) (w : World) (h : DH D w) : Tr D Cs j w w := ⟨h, fun _ _ _ h => h⟩

/-- the walk of the order p -/
def M (x : Cx) (l : List Oper) (K : Act → World → Prop) (p : List (Nat × Bool)) (listed : Array Bool) (Cs : List Keep) (E : Env) (As : List Assn) : Prop :=
  orderOk l.toArray p listed = true → Region.noSelect l.toArray = true →
    ∀ D a w, Dat.le x.D0 D → Rep x.n E a → St x.B0 x.w0 D As w → wpAnyC x.P .any l.toArray (Tr D Cs) K p.length listed a w

section
variable {x : Cx} {Q : Exit → Act → World → Prop} {K : Act → World → Prop} {E : Env} {As : List Assn} {l : List Oper} {p : List (Nat × Bool)} {listed : Array Bool} {Cs : List Keep} {op : Op} {v : Value} {d t i : Nat} {pos : String} {after : Array Edge} {g : Option (Nat × Bool)}

theorem W.regionAny {id : Nat} (p : List (Nat × Bool)) (hm : x.P.follows .mixedOrders = true) (hs : Region.noSelect l.toArray = true) (ho : orderOk l.toArray p (Array.replicate l.toArray.size false) = true) (hlen : p.length = l.toArray.size)
    (h : M x l (Q .normal) p (Array.replicate l.toArray.size false) [] E As) : W x Q (.region id l.toArray true) E As := fun D a w hl r st => by
  refine wp_region_any hm (wpAny_of_C (C := Tr D []) _ _ _ _ ?_)
  have := h ho hs D a w.drew hl r st.drew
  rw [hlen] at this
  exact this

theorem M.nil (h : F x K E As) : M x l K [] listed Cs E As := fun ho _ D a w hl r st => by
  simp only [orderOk, List.isEmpty_iff] at ho
  exact ⟨ho, h D a w hl r st⟩

theorem takeOk_spec {ops : Array Oper} {listed : Array Bool} {i : Nat} {oi : Oper} (h : takeOk ops listed i = true) (hi : ops[i]? = some oi) :
    i ∈ Region.ready .any ops listed ∧ ∀ j oj, ops[j]? = some oj → j ≠ i → listed.getD j true = false → (∀ e ∈ oj.after, Region.binds .any e = true → e.on ≠ i) → oi.apart ops oj = true := by
  simp only [takeOk, Bool.and_eq_true, hi] at h
  refine ⟨by simpa using h.1, fun j oj hj hji hl hno => ?_⟩
  have hjs : j < ops.size := (Array.getElem?_eq_some_iff.1 hj).1
  have h2 := List.all_eq_true.1 h.2 j (List.mem_range.2 hjs)
  simp only [hj, hl, Bool.or_false, Bool.or_eq_true, beq_iff_eq, hji, false_or] at h2
  rcases h2 with h2 | h2
  · obtain ⟨e, he, hb⟩ := Array.any_eq_true'.1 h2
    simp only [Bool.and_eq_true, beq_iff_eq] at hb
    exact absurd hb.2 (hno e he hb.1)
  · exact h2

theorem sinkOk_spec {ops : Array Oper} {listed : Array Bool} {i : Nat} {S : List Nat} (h : sinkOk ops listed i S = true) :
    (∀ j, S.contains j = true → listed.getD j false = false) ∧ ∀ j, S.contains j = true → ∃ oj, ops[j]? = some oj ∧ ∃ e ∈ oj.after, Region.binds .any e = true ∧ (e.on = i ∨ S.contains e.on = true) := by
  have key : ∀ j, S.contains j = true → (listed.getD j false = false ∧ ∃ oj, ops[j]? = some oj ∧ ∃ e ∈ oj.after, Region.binds .any e = true ∧ (e.on = i ∨ S.contains e.on = true)) := fun j hj => by
    have h2 := List.all_eq_true.1 h j (by simpa using hj)
    simp only [Bool.and_eq_true, Bool.not_eq_true'] at h2
    refine ⟨h2.1, ?_⟩
    have h3 := h2.2
    split at h3
    · cases h3
    · rename_i oj hoj
      obtain ⟨e, he, hb⟩ := Array.any_eq_true'.1 h3
      simp only [Bool.and_eq_true, Bool.or_eq_true, beq_iff_eq] at hb
      exact ⟨oj, hoj, e, he, hb.1, hb.2⟩
  exact ⟨fun j hj => (key j hj).1, fun j hj => (key j hj).2⟩

/-- what an operation yields in every world that holds the unchanging blocks -/
def ReadOp (x : Cx) (E : Env) (As : List Assn) (op : Op) (v : Value) : Prop :=
  ∀ D a w, Dat.le x.D0 D → Rep x.n E a → St x.B0 x.w0 D As w → ∀ w', DH D w' → ∀ dst t pos after g, (execOp a.eval ⟨dst, op, t, pos, after, g⟩).run x.P w' = .ok (.value v) w'

/-- .. and an owned block -/
def ReadOwn (x : Cx) (E : Env) (As : List Assn) (b : Nat) (o : Obj) (op : Op) (v : Value) : Prop :=
  ∀ D a w, Dat.le x.D0 D → Rep x.n E a → St x.B0 x.w0 D As w → w.heap[b]? = some o ∧ ∀ w', DH D w' → w'.heap[b]? = some o → ∀ dst t pos after g, (execOp a.eval ⟨dst, op, t, pos, after, g⟩).run x.P w' = .ok (.value v) w'

theorem M.read (hi : nthO l i = some ⟨some d, op, t, pos, after, none⟩) (h : ReadOp x E As op v) (hd : Nat.blt d x.n = true) (k : M x l K p (listed.setIfInBounds i true) Cs ((d, v) :: E) As) :
    M x l K ((i, true) :: p) listed Cs E As := fun ho hs D a w hl r st => by
  simp only [orderOk, if_true, Bool.and_eq_true] at ho
  have hi' := (nthO_eq l i).symm.trans hi
  obtain ⟨h1, h2⟩ := takeOk_spec ho.1 hi'
  exact wpAnyC_first (R := DH D) (S := fun _ => false) hi' (Region.noSelect_spec hs) (fun w hR => Tr.refl D Cs i w hR) (fun j w w' _ _ hT => hT.1) (fun j hj => by cases hj) _ _ _ _ st.dat (fun j hj => by cases hj) h2 h1
    (.inl ⟨by simp [Region.wanted], fun w' hw' => h D a w hl r st w' hw' _ _ _ _ _⟩) (k ho.2 hs D _ w hl (r.put (Nat.blt_eq ▸ hd) v) st)

theorem M.readOwn {b : Nat} {o : Obj} (S : List Nat) (hsink : sinkOk l.toArray listed i S = true) (hi : nthO l i = some ⟨some d, op, t, pos, after, none⟩) (h : ReadOwn x E As b o op v) (hd : Nat.blt d x.n = true)
    (k : M x l K p (listed.setIfInBounds i true) (⟨b, o, S⟩ :: Cs) ((d, v) :: E) As) : M x l K ((i, true) :: p) listed Cs E As := fun ho hs D a w hl r st => by
  simp only [orderOk, if_true, Bool.and_eq_true] at ho
  have hi' := (nthO_eq l i).symm.trans hi
  obtain ⟨h1, h2⟩ := takeOk_spec ho.1 hi'
  obtain ⟨s1, s2⟩ := sinkOk_spec hsink
  obtain ⟨hb, hrun⟩ := h D a w hl r st
  refine wpAnyC_mono (C := Tr D (⟨b, o, S⟩ :: Cs)) (fun j w w' hT => ⟨hT.1, fun k hk => hT.2 k (List.mem_cons_of_mem _ hk)⟩) _ _ _ _ ?_
  exact wpAnyC_first (R := fun w' => DH D w' ∧ w'.heap[b]? = some o) (S := fun j => S.contains j) hi' (Region.noSelect_spec hs) (fun w hR => Tr.refl D _ i w hR.1)
    (fun j w w' hj hR hT => ⟨hT.1, hT.2 ⟨b, o, S⟩ (by simp) (by simpa using hj) hR.2⟩) s2 _ _ _ _ ⟨st.dat, hb⟩ s1 h2 h1
    (.inl ⟨by simp [Region.wanted], fun w' hw' => hrun w' hw'.1 hw'.2 _ _ _ _ _⟩) (k ho.2 hs D _ w hl (r.put (Nat.blt_eq ▸ hd) v) st)

theorem nthO_dst {i : Nat} {o : Oper} (hi : nthO l i = some o) : (l.toArray[i]?).bind (·.dst) = o.dst := by
  have : l.toArray[i]? = some o := by rw [← nthO_eq]; exact hi
  rw [this]; rfl

/-- a guarded one whose guard says no -/
theorem M.guardF {j dj : Nat} {want b : Bool} {oj : Oper} (hi : nthO l i = some ⟨some d, op, t, pos, after, some (j, want)⟩) (hj : nthO l j = some oj) (hdj : oj.dst = some dj) (hb : look E dj = some (.bool b)) (hne : b = !want) (hd : Nat.blt d x.n = true)
    (k : M x l K p (listed.setIfInBounds i true) Cs ((d, undef) :: E) As) : M x l K ((i, true) :: p) listed Cs E As := fun ho hs D a w hl r st => by
  simp only [orderOk, if_true, Bool.and_eq_true] at ho
  have hi' := (nthO_eq l i).symm.trans hi
  obtain ⟨h1, h2⟩ := takeOk_spec ho.1 hi'
  have hy : yielded l.toArray a.tmps j = some b := yielded_of r ((nthO_dst hj).trans hdj) hb
  exact wpAnyC_first (R := DH D) (S := fun _ => false) hi' (Region.noSelect_spec hs) (fun w hR => Tr.refl D Cs i w hR) (fun j w w' _ _ hT => hT.1) (fun j hj => by cases hj) _ _ _ _ st.dat (fun j hj => by cases hj) h2 h1
    (.inr ⟨by simp [Region.wanted, hy, hne], rfl⟩) (k ho.2 hs D _ w hl (r.put (Nat.blt_eq ▸ hd) undef) st)

/-- a guarded one whose guard says yes -/
theorem M.readG {j dj : Nat} {want : Bool} {oj : Oper} (hi : nthO l i = some ⟨some d, op, t, pos, after, some (j, want)⟩) (hj : nthO l j = some oj) (hdj : oj.dst = some dj) (hb : look E dj = some (.bool want)) (h : ReadOp x E As op v) (hd : Nat.blt d x.n = true)
    (k : M x l K p (listed.setIfInBounds i true) Cs ((d, v) :: E) As) : M x l K ((i, true) :: p) listed Cs E As := fun ho hs D a w hl r st => by
  simp only [orderOk, if_true, Bool.and_eq_true] at ho
  have hi' := (nthO_eq l i).symm.trans hi
  obtain ⟨h1, h2⟩ := takeOk_spec ho.1 hi'
  have hy : yielded l.toArray a.tmps j = some want := yielded_of r ((nthO_dst hj).trans hdj) hb
  exact wpAnyC_first (R := DH D) (S := fun _ => false) hi' (Region.noSelect_spec hs) (fun w hR => Tr.refl D Cs i w hR) (fun j w w' _ _ hT => hT.1) (fun j hj => by cases hj) _ _ _ _ st.dat (fun j hj => by cases hj) h2 h1
    (.inl ⟨by simp [Region.wanted, hy], fun w' hw' => h D a w hl r st w' hw' _ _ _ _ _⟩) (k ho.2 hs D _ w hl (r.put (Nat.blt_eq ▸ hd) v) st)

theorem M.readOwnG {b : Nat} {o : Obj} {j dj : Nat} {want : Bool} {oj : Oper} (S : List Nat) (hsink : sinkOk l.toArray listed i S = true) (hi : nthO l i = some ⟨some d, op, t, pos, after, some (j, want)⟩) (hj : nthO l j = some oj) (hdj : oj.dst = some dj) (hb : look E dj = some (.bool want)) (h : ReadOwn x E As b o op v) (hd : Nat.blt d x.n = true)
    (k : M x l K p (listed.setIfInBounds i true) (⟨b, o, S⟩ :: Cs) ((d, v) :: E) As) : M x l K ((i, true) :: p) listed Cs E As := fun ho hs D a w hl r st => by
  simp only [orderOk, if_true, Bool.and_eq_true] at ho
  have hi' := (nthO_eq l i).symm.trans hi
  obtain ⟨h1, h2⟩ := takeOk_spec ho.1 hi'
  obtain ⟨s1, s2⟩ := sinkOk_spec hsink
  obtain ⟨hbb, hrun⟩ := h D a w hl r st
  have hy : yielded l.toArray a.tmps j = some want := yielded_of r ((nthO_dst hj).trans hdj) hb
  refine wpAnyC_mono (C := Tr D (⟨b, o, S⟩ :: Cs)) (fun j w w' hT => ⟨hT.1, fun k hk => hT.2 k (List.mem_cons_of_mem _ hk)⟩) _ _ _ _ ?_
  exact wpAnyC_first (R := fun w' => DH D w' ∧ w'.heap[b]? = some o) (S := fun j => S.contains j) hi' (Region.noSelect_spec hs) (fun w hR => Tr.refl D _ i w hR.1)
    (fun j w w' hj hR hT => ⟨hT.1, hT.2 ⟨b, o, S⟩ (by simp) (by simpa using hj) hR.2⟩) s2 _ _ _ _ ⟨st.dat, hbb⟩ s1 h2 h1
    (.inl ⟨by simp [Region.wanted, hy], fun w' hw' => hrun w' hw'.1 hw'.2 _ _ _ _ _⟩) (k ho.2 hs D _ w hl (r.put (Nat.blt_eq ▸ hd) v) st)

/-- the blocks that others are still to find as they lay are still owned -/
def Keeps (Cs : List Keep) (j : Nat) (As : List Assn) : Prop := ∀ k ∈ Cs, j ∈ k.S ∨ ∃ R, As.Perm (own k.b k.o :: R)
theorem Keeps.nil {j : Nat} {As : List Assn} : Keeps [] j As := fun _ h => by cases h
theorem Keeps.skip {k : Keep} {Cs : List Keep} {j : Nat} {As : List Assn} (h : k.S.contains j = true) (r : Keeps Cs j As) : Keeps (k :: Cs) j As := fun k' hk => by
  rcases List.mem_cons.1 hk with rfl | hk
  · exact .inl (by simpa using h)
  · exact r k' hk
theorem Keeps.cons {b : Nat} {o : Obj} {S : List Nat} {R : List Assn} {Cs : List Keep} {j : Nat} {As : List Assn} (h : As.Perm (own b o :: R)) (r : Keeps Cs j As) : Keeps (⟨b, o, S⟩ :: Cs) j As := fun k' hk => by
  rcases List.mem_cons.1 hk with rfl | hk
  · exact .inr ⟨R, h⟩
  · exact r k' hk

theorem Step.opC {γ : Type} {val : γ → Value} {post : γ → List Assn} {dst : Option Tmp} (hs : Step x op E As val post) (hk : ∀ g, Keeps Cs i (post g))
    {D : Dat} {a : Act} {w : World} (hl : Dat.le x.D0 D) (r : Rep x.n E a) (st : St x.B0 x.w0 D As w) (hi : l.toArray[i]? = some ⟨dst, op, t, pos, after, g⟩) (hw : Region.wanted ⟨dst, op, t, pos, after, g⟩ (yielded l.toArray a.tmps) = true)
    {Kk : Act → World → Prop} (k : ∀ gh D' w', Dat.le D D' → St x.B0 x.w0 D' (post gh) w' → Kk (a.put dst (val gh)) w') : Sl.opC x.P l.toArray (Tr D Cs i) i Kk a w := by
  unfold Sl.opC
  simp only [hi, hw, if_true]
  refine opR_mono (hs D a w hl r st _ _ _ _ _) fun u w' ⟨gh, D', l', hv, st'⟩ => ?_
  subst hv
  refine ⟨⟨st'.dat.mono l', fun kk hkk hj _ => ?_⟩, k gh D' w' l' st'⟩
  rcases hk gh kk hkk with h | ⟨R, hp⟩
  · exact absurd h hj
  · exact (st'.perm hp).own_at

theorem M.step {γ : Type} {val : γ → Value} {post : γ → List Assn} (hi : nthO l i = some ⟨some d, op, t, pos, after, none⟩) (h : Step x op E As val post) (hk : ∀ g, Keeps Cs i (post g)) (hd : Nat.blt d x.n = true)
    (k : ∀ g, M x l K p (listed.setIfInBounds i true) Cs ((d, val g) :: E) (post g)) : M x l K ((i, false) :: p) listed Cs E As := fun ho hs D a w hl r st => by
  simp only [orderOk, Bool.false_eq_true, if_false, Bool.and_eq_true, beq_iff_eq] at ho
  have hi' := (nthO_eq l i).symm.trans hi
  exact wpAnyC_one ho.1 (h.opC hk hl r st hi' (by simp [Region.wanted]) fun gh D' w' l' st' =>
    wpAnyC_mono (fun j w w' hT => ⟨hT.1.mono l', hT.2⟩) _ _ _ _ (k gh ho.2 hs D' _ w' (Dat.le_trans hl l') (r.put (Nat.blt_eq ▸ hd) _) st'))

theorem M.step0 {γ : Type} {val : γ → Value} {post : γ → List Assn} (hi : nthO l i = some ⟨none, op, t, pos, after, none⟩) (h : Step x op E As val post) (hk : ∀ g, Keeps Cs i (post g))
    (k : ∀ g, M x l K p (listed.setIfInBounds i true) Cs E (post g)) : M x l K ((i, false) :: p) listed Cs E As := fun ho hs D a w hl r st => by
  simp only [orderOk, Bool.false_eq_true, if_false, Bool.and_eq_true, beq_iff_eq] at ho
  have hi' := (nthO_eq l i).symm.trans hi
  exact wpAnyC_one ho.1 (h.opC hk hl r st hi' (by simp [Region.wanted]) fun gh D' w' l' st' =>
    wpAnyC_mono (fun j w w' hT => ⟨hT.1.mono l', hT.2⟩) _ _ _ _ (k gh ho.2 hs D' _ w' (Dat.le_trans hl l') (r.put_none _) st'))

theorem M.stepG {γ : Type} {val : γ → Value} {post : γ → List Assn} {j dj : Nat} {want : Bool} {oj : Oper} (hi : nthO l i = some ⟨some d, op, t, pos, after, some (j, want)⟩) (hj : nthO l j = some oj) (hdj : oj.dst = some dj) (hb : look E dj = some (.bool want))
    (h : Step x op E As val post) (hk : ∀ g, Keeps Cs i (post g)) (hd : Nat.blt d x.n = true)
    (k : ∀ g, M x l K p (listed.setIfInBounds i true) Cs ((d, val g) :: E) (post g)) : M x l K ((i, false) :: p) listed Cs E As := fun ho hs D a w hl r st => by
  simp only [orderOk, Bool.false_eq_true, if_false, Bool.and_eq_true, beq_iff_eq] at ho
  have hi' := (nthO_eq l i).symm.trans hi
  have hy : yielded l.toArray a.tmps j = some want := yielded_of r ((nthO_dst hj).trans hdj) hb
  exact wpAnyC_one ho.1 (h.opC hk hl r st hi' (by simp [Region.wanted, hy]) fun gh D' w' l' st' =>
    wpAnyC_mono (fun j w w' hT => ⟨hT.1.mono l', hT.2⟩) _ _ _ _ (k gh ho.2 hs D' _ w' (Dat.le_trans hl l') (r.put (Nat.blt_eq ▸ hd) _) st'))
end
end Go.Sl
