/- The rules of the walk over the small separation logic: frames as lists of slots, statements, pure operations. -/
import Derived.Test.YtffkmfgmdepfcaaGreatDoorSl1
import Derived.IntWalk
namespace Go.Sl
open Go.RowKit

abbrev Env := List (Nat × Value)

def look : Env → Nat → Option Value
  | [], _ => none
  | (k, v) :: E, t => match Nat.beq k t with
    | true => some v
    | false => look E t

def ev (E : Env) : Operand → Option Value
  | .tmp t => look E t
  | .const v => some v
  | .global g => some (.pointer (some ⟨g, 0, none⟩))
  | .func f => some (.func (.func f) #[] #[])

structure Rep (n : Nat) (E : Env) (a : Act) : Prop where
  size : a.tmps.size = n
  defers : a.defers = []
  get : ∀ t v, look E t = some v → a.tmps.getD t undef = v

theorem Rep.ev {n : Nat} {E : Env} {a : Act} (r : Rep n E a) {x : Operand} {v : Value} (h : ev E x = some v) : a.eval x = v := by
  cases x with
  | tmp t => exact r.get t v h
  | const u => simpa [Sl.ev, Act.eval] using h
  | global g => simpa [Sl.ev, Act.eval] using h
  | func f => simpa [Sl.ev, Act.eval] using h

def evs (E : Env) : List Operand → Option (List Value)
  | [] => some []
  | x :: xs => match ev E x with
    | some v => match evs E xs with
      | some vs => some (v :: vs)
      | none => none
    | none => none

theorem Rep.evs {n : Nat} {E : Env} {a : Act} (r : Rep n E a) : ∀ {xs : List Operand} {vs : List Value}, evs E xs = some vs → xs.map a.eval = vs
  | [], vs, h => by simp [Sl.evs] at h; simp [h]
  | x :: xs, vs, h => by
    unfold Sl.evs at h
    split at h
    · rename_i v hv
      split at h
      · rename_i us hus
        simp only [Option.some.injEq] at h
        subst h
        simp [r.ev hv, r.evs hus]
      · cases h
    · cases h

def putE (E : Env) : Option Tmp → Value → Env
  | some d, v => (d, v) :: E
  | none, _ => E

theorem Rep.put {n : Nat} {E : Env} {a : Act} (r : Rep n E a) {d : Nat} (hd : d < n) (v : Value) : Rep n ((d, v) :: E) (a.put (some d) v) := by
  refine ⟨by simp [Act.put, r.size], by simp [Act.put, r.defers], fun t u h => ?_⟩
  unfold look at h
  split at h
  · rename_i e
    have e := Nat.eq_of_beq_eq_true e
    subst e
    have hs : d < a.tmps.size := r.size ▸ hd
    simp only [Option.some.injEq] at h
    subst h
    simp [Act.put, hs]
  · rename_i e
    have e := Nat.ne_of_beq_eq_false e
    have := r.get t u h
    simp only [Act.put, Array.getD_eq_getD_getElem?, Array.getElem?_setIfInBounds_ne e] at this ⊢
    exact this

theorem Rep.put_none {n : Nat} {E : Env} {a : Act} (r : Rep n E a) (v : Value) : Rep n E (a.put none v) := r

/-- what one environment says the other says too -/
def Sub (E E' : Env) : Prop := ∀ t v, look E' t = some v → look E t = some v

theorem Rep.sub {n : Nat} {E E' : Env} {a : Act} (r : Rep n E a) (s : Sub E E') : Rep n E' a := ⟨r.size, r.defers, fun t v h => r.get t v (s t v h)⟩

theorem Sub.nil (E : Env) : Sub E [] := fun _ _ h => by cases h
theorem Sub.cons {E E' : Env} {t : Nat} {u v : Value} (h : look E t = some u) (e : u = v) (s : Sub E E') : Sub E ((t, v) :: E') := by
  subst e
  intro k w hk
  unfold look at hk
  split at hk
  · rename_i e
    have e := Nat.eq_of_beq_eq_true e
    subst e
    rw [← hk]; exact h
  · exact s k w hk
theorem Sub.refl (E : Env) : Sub E E := fun _ _ h => h

structure Cx where
  P : Program
  B0 : Nat
  w0 : World
  D0 : Dat
  n : Nat

def F (x : Cx) (K : Act → World → Prop) (E : Env) (As : List Assn) : Prop :=
  ∀ D a w, Dat.le x.D0 D → Rep x.n E a → St x.B0 x.w0 D As w → K a w

def W (x : Cx) (Q : Exit → Act → World → Prop) (c : Code) (E : Env) (As : List Assn) : Prop := F x (c.wp x.P Q) E As

def L (x : Cx) (ops : Array Oper) (Q : Exit → Act → World → Prop) (l : List Oper) (E : Env) (As : List Assn) : Prop := F x (wpList x.P ops Q l) E As

section
variable {x : Cx} {Q : Exit → Act → World → Prop} {E E' : Env} {As Bs : List Assn} {c c1 c2 : Code} {K : Act → World → Prop}

theorem F.sub (s : Sub E E') (h : F x K E' As) : F x K E As := fun D a w hl r st => h D a w hl (r.sub s) st
theorem F.perm (p : As.Perm Bs) (h : F x K E Bs) : F x K E As := fun D a w hl r st => h D a w hl r (st.perm p)
theorem W.code (h : W x Q c E As) : F x (c.wp x.P Q) E As := h

theorem W.seq (h : W x (Exit.then (c2.wp x.P Q) Q) c1 E As) : W x Q (.seq c1 c2) E As := fun D a w hl r st => wp_seq (h D a w hl r st)
theorem W.region {id : Nat} {l : List Oper} (h : L x l.toArray Q l E As) : W x Q (.region id l.toArray false) E As := fun D a w hl r st => wp_region_lit (h D a w hl r st)
theorem W.block {id : Nat} (h : W x (Exit.inBlock id Q) c E As) : W x Q (.block id c) E As := fun D a w hl r st => wp_block (h D a w hl r st)
theorem W.skip (h : F x (Q .normal) E As) : W x Q .skip E As := fun D a w hl r st => wp_skip (h D a w hl r st)
theorem W.ret (h : F x (Q .ret) E As) : W x Q .ret E As := fun D a w hl r st => wp_ret (h D a w hl r st)
theorem W.exit {id : Nat} (h : F x (Q (.exit id)) E As) : W x Q (.exit id) E As := fun D a w hl r st => wp_exit (h D a w hl r st)
theorem L.nil {ops : Array Oper} (h : F x (Q .normal) E As) : L x ops Q [] E As := fun D a w hl r st => wpList_nil (h D a w hl r st)

theorem F.then (h : F x K E As) : F x (Exit.then K Q .normal) E As := h
theorem F.inBlock {id : Nat} (h : F x (Q .normal) E As) : F x (Exit.inBlock id Q .normal) E As := h
theorem F.then_exit {id : Nat} (h : F x (Q (.exit id)) E As) : F x (Exit.then K Q (.exit id)) E As := h
theorem F.then_ret (h : F x (Q .ret) E As) : F x (Exit.then K Q .ret) E As := h
theorem F.inBlock_ret {id : Nat} (h : F x (Q .ret) E As) : F x (Exit.inBlock id Q .ret) E As := h
theorem F.inBlock_here {id : Nat} (h : F x (Q .normal) E As) : F x (Exit.inBlock id Q (.exit id)) E As := by
  unfold Exit.inBlock; simpa using h
theorem F.inBlock_other {id k : Nat} (hne : Nat.beq k id = false) (h : F x (Q (.exit k)) E As) : F x (Exit.inBlock id Q (.exit k)) E As := by
  have := Nat.ne_of_beq_eq_false hne
  unfold Exit.inBlock; simpa [this] using h

theorem W.cond {o : Operand} {b : Bool} (hb : ev E o = some (.bool b)) (ht : b = true → W x Q c1 E As) (hf : b = false → W x Q c2 E As) : W x Q (.cond o c1 c2) E As :=
  fun D a w hl r st => wp_cond_split (r.ev hb) (fun e => ht e D a w hl r st) (fun e => hf e D a w hl r st)
theorem W.cond_true {o : Operand} (hb : ev E o = some (.bool true)) (h : W x Q c1 E As) : W x Q (.cond o c1 c2) E As := W.cond hb (fun _ => h) (fun e => by cases e)
theorem W.cond_false {o : Operand} (hb : ev E o = some (.bool false)) (h : W x Q c2 E As) : W x Q (.cond o c1 c2) E As := W.cond hb (fun e => by cases e) (fun _ => h)
theorem W.cond_dec {o : Operand} {p : Prop} [Decidable p] (hb : ev E o = some (.bool (decide p))) (ht : p → W x Q c1 E As) (hf : ¬ p → W x Q c2 E As) : W x Q (.cond o c1 c2) E As :=
  W.cond hb (fun e => ht (of_decide_eq_true e)) (fun e => hf (of_decide_eq_false e))

/-! ### A loop: what holds at its head, by a ghost -/
def Again (x : Cx) {ι : Type} (EI : ι → Env) (AI : ι → List Assn) (ok : ι → Prop) : Act → World → Prop :=
  fun a w => ∃ j D, ok j ∧ Dat.le x.D0 D ∧ Rep x.n (EI j) a ∧ St x.B0 x.w0 D (AI j) w

theorem W.loop {ι : Type} (EI : ι → Env) (AI : ι → List Assn) (ok : ι → Prop) (μ : ι → Nat) (h0 : F x (Again x EI AI ok) E As)
    (round : ∀ i, ok i → W x (Exit.then (Again x EI AI (fun j => ok j ∧ μ j < μ i)) Q) c (EI i) (AI i)) : W x Q (.loop c) E As := by
  intro D a w hl r st b k cs
  have key : ∀ m i, μ i = m → ok i → ∀ D a w, Dat.le x.D0 D → Rep x.n (EI i) a → St x.B0 x.w0 D (AI i) w →
      ∃ e a' w', Q e a' w' ∧ Arrives x.P (lone (b.at a (.code c :: .inLoop c :: k)) cs w) b k cs e a' w' := by
    intro m
    induction m using Nat.strongRecOn with
    | _ m ih =>
      intro i hm hi D a w hl r st
      obtain ⟨e, a₁, w₁, hq, harr⟩ := round i hi D a w hl r st b (.inLoop c :: k) cs
      cases e with
      | normal =>
        obtain ⟨j, D₁, ⟨hj, hlt⟩, hl₁, r₁, st₁⟩ := hq
        obtain ⟨e₂, a₂, w₂, hq₂, harr₂⟩ := ih (μ j) (hm ▸ hlt) j rfl hj D₁ a₁ w₁ hl₁ r₁ st₁
        exact ⟨e₂, a₂, w₂, hq₂, .of_steps (Steps.trans harr (.one step_inLoop)) harr₂⟩
      | exit id => exact ⟨_, a₁, w₁, hq, .pass (x := .inLoop c) rfl (fun _ _ => .inl (by simp)) harr⟩
      | goto l => exact ⟨_, a₁, w₁, hq, .pass (x := .inLoop c) rfl (fun _ _ => .inl (by simp)) harr⟩
      | ret => exact ⟨_, a₁, w₁, hq, .pass (x := .inLoop c) rfl (fun _ _ => .inl (by simp)) harr⟩
      | panic ch => exact ⟨_, a₁, w₁, hq, .pass (x := .inLoop c) rfl (fun _ _ => .inl (by simp)) harr⟩
      | outgrown => exact ⟨_, a₁, w₁, hq, .pass (x := .inLoop c) rfl (fun _ _ => .inl (by simp)) harr⟩
  obtain ⟨j, D₁, hj, hl₁, r₁, st₁⟩ := h0 D a w hl r st
  obtain ⟨e, a', w', hq, harr⟩ := key _ j rfl hj D₁ a w hl₁ r₁ st₁
  exact ⟨e, a', w', hq, .of_steps (.one step_loop) harr⟩

/-! ### Entailment between lists of assertions, whatever stands beside -/
def Ent (As Bs : List Assn) : Prop := ∀ B0 w0 D w R, St B0 w0 D (As ++ R) w → ∃ D', Dat.le D D' ∧ St B0 w0 D' (Bs ++ R) w

theorem Ent.refl (As : List Assn) : Ent As As := fun _ _ D _ _ st => ⟨D, Dat.le_refl D, st⟩
theorem Ent.trans {As Bs Cs : List Assn} (h : Ent As Bs) (k : Ent Bs Cs) : Ent As Cs := fun B0 w0 D w R st =>
  let ⟨D1, l1, s1⟩ := h B0 w0 D w R st
  let ⟨D2, l2, s2⟩ := k B0 w0 D1 w R s1
  ⟨D2, Dat.le_trans l1 l2, s2⟩
theorem Ent.perm {As Bs : List Assn} (p : As.Perm Bs) : Ent As Bs := fun _ _ D _ R st => ⟨D, Dat.le_refl D, st.perm (p.append_right R)⟩

theorem Ent.frame {As Bs : List Assn} (h : Ent As Bs) (Cs : List Assn) : Ent (Cs ++ As) (Cs ++ Bs) := by
  intro B0 w0 D w R st
  have p1 : ((Cs ++ As) ++ R).Perm (As ++ (Cs ++ R)) := by
    rw [List.append_assoc, ← List.append_assoc As]
    rw [← List.append_assoc]
    exact (List.perm_append_comm).append_right R
  have p2 : (Bs ++ (Cs ++ R)).Perm ((Cs ++ Bs) ++ R) := by
    rw [← List.append_assoc]
    exact (List.perm_append_comm).append_right R
  obtain ⟨D', l, s⟩ := h B0 w0 D w (Cs ++ R) (st.perm p1)
  exact ⟨D', l, s.perm p2⟩
theorem Ent.cons {As Bs : List Assn} (A : Assn) (h : Ent As Bs) : Ent (A :: As) (A :: Bs) := h.frame [A]
theorem Ent.drop (A : Assn) (As : List Assn) : Ent (A :: As) As := fun _ _ D _ _ st => ⟨D, Dat.le_refl D, st.tail⟩
theorem Ent.dropAll (As : List Assn) : Ent As [] := by
  induction As with
  | nil => exact Ent.refl _
  | cons A As ih => exact (Ent.drop A As).trans ih

/-- one assertion is found among others -/
def Tk (As : List Assn) (A : Assn) (R : List Assn) : Prop := Ent As (A :: R)
theorem Tk.here {A : Assn} {As : List Assn} : Tk (A :: As) A As := Ent.refl _
theorem Tk.there {A B : Assn} {As R : List Assn} (h : Tk As A R) : Tk (B :: As) A (B :: R) :=
  (Ent.cons B h).trans (Ent.perm (List.Perm.swap A B R))
/-- an assertion that may be told twice -/
class Pers (A : Assn) : Prop where
  dup : ∀ D h, A.holds D h → h = []
instance {p : Dat → Prop} {hm : ∀ {D D'}, Dat.le D D' → p D → p D'} : Pers (pers p hm) := ⟨fun _ _ h => h.1⟩
instance {p : Prop} : Pers (fact p) := ⟨fun _ _ h => h.1⟩
instance {b : Nat} {cs : List Value} : Pers (datC b cs) := ⟨fun _ _ h => h.1⟩
theorem Ent.dup {A : Assn} [Pers A] {As : List Assn} : Ent (A :: As) (A :: A :: As) := by
  intro B0 w0 D w R st
  obtain ⟨h, ⟨h1, h2, rfl, a, r⟩, o⟩ := st.own
  have e := Pers.dup D h1 a
  subst e
  exact ⟨D, Dat.le_refl D, st.dat, ⟨[] ++ ([] ++ h2), ⟨[], [] ++ h2, rfl, a, [], h2, rfl, a, r⟩, o⟩, st.below, st.low⟩
theorem Tk.hereP {A : Assn} [Pers A] {As : List Assn} : Tk (A :: As) A (A :: As) := Ent.dup

def Tks (As : List Assn) (Bs : List Assn) (R : List Assn) : Prop := Ent As (Bs ++ R)
theorem Tks.nil {As : List Assn} : Tks As [] As := Ent.refl _
theorem Tks.cons {As R R' : List Assn} {B : Assn} {Bs : List Assn} (h : Tk As B R) (k : Tks R Bs R') : Tks As (B :: Bs) R' := Ent.trans h (Ent.cons B k)

theorem F.ent (h : Ent As Bs) (k : F x K E Bs) : F x K E As := fun D a w hl r st =>
  let ⟨D', l', st'⟩ := h x.B0 x.w0 D w [] (by simpa using st)
  k D' a w (Dat.le_trans hl l') r (by simpa using st')

theorem F.again {ι : Type} {EI : ι → Env} {AI : ι → List Assn} {ok : ι → Prop} (j : ι) (hj : ok j) (hE : Sub E (EI j)) (hA : Ent As (AI j)) : F x (Again x EI AI ok) E As :=
  fun D _ w hl r st =>
  let ⟨D', l', st'⟩ := hA x.B0 x.w0 D w [] (by simpa using st)
  ⟨j, D', hj, Dat.le_trans hl l', r.sub hE, by simpa using st'⟩
end
end Go.Sl
