/- What the reckoner's values and blocks say of the model's. -/
import Derived.Test.YtffkmfgmdepfcaaGreatDoorRk1
import Derived.Test.YtffkmfgmdepfcaaGreatDoorSl5
set_option linter.unusedSimpArgs false
set_option linter.unusedVariables false
set_option linter.unusedSectionVars false
namespace Go.Rk

/-! ### trees -/
theorem Tr.get_lf {α : Type} (i : Nat) : (Tr.lf : Tr α).get i = none := rfl
theorem Tr.get_zero {α : Type} (o : Option α) (l r : Tr α) : (Tr.nd o l r).get 0 = o := rfl
theorem Tr.get_even {α : Type} (o : Option α) (l r : Tr α) (j : Nat) (h : j % 2 = 0) : (Tr.nd o l r).get (j + 1) = l.get (j / 2) := by
  show (Bool.rec (r.get (Nat.div j 2)) (l.get (Nat.div j 2)) (Nat.beq (Nat.mod j 2) 0) : Option α) = _
  have : Nat.beq (Nat.mod j 2) 0 = true := by rw [show Nat.mod j 2 = j % 2 from rfl, h]; rfl
  rw [this]; rfl
theorem Tr.get_odd {α : Type} (o : Option α) (l r : Tr α) (j : Nat) (h : j % 2 ≠ 0) : (Tr.nd o l r).get (j + 1) = r.get (j / 2) := by
  show (Bool.rec (r.get (Nat.div j 2)) (l.get (Nat.div j 2)) (Nat.beq (Nat.mod j 2) 0) : Option α) = _
  have : Nat.beq (Nat.mod j 2) 0 = false := by
    rw [show Nat.mod j 2 = j % 2 from rfl]
    cases hb : Nat.beq (j % 2) 0 with
    | false => rfl
    | true => exact absurd (Nat.eq_of_beq_eq_true hb) h
  rw [this]; rfl

theorem Tr.set_zero {α : Type} (v : α) (n : Nat) (t : Tr α) : ∃ l r, Tr.set v (n + 1) t 0 = .nd (some v) l r ∧ (t = .lf ∧ l = .lf ∧ r = .lf ∨ ∃ o, t = .nd o l r) := by
  cases t with
  | lf => exact ⟨.lf, .lf, rfl, .inl ⟨rfl, rfl, rfl⟩⟩
  | nd o l r => exact ⟨l, r, rfl, .inr ⟨o, rfl⟩⟩
theorem Tr.set_even {α : Type} (v : α) (n : Nat) (t : Tr α) (j : Nat) (h : j % 2 = 0) : ∃ o l r, Tr.set v (n + 1) t (j + 1) = .nd o (Tr.set v n l (j / 2)) r ∧ (t = .lf ∧ o = none ∧ l = .lf ∧ r = .lf ∨ t = .nd o l r) := by
  have hb : Nat.beq (Nat.mod j 2) 0 = true := by rw [show Nat.mod j 2 = j % 2 from rfl, h]; rfl
  cases t with
  | lf =>
    refine ⟨none, .lf, .lf, ?_, .inl ⟨rfl, rfl, rfl, rfl⟩⟩
    show (Bool.rec _ _ (Nat.beq (Nat.mod j 2) 0) : Tr α) = _
    rw [hb]; rfl
  | nd o l r =>
    refine ⟨o, l, r, ?_, .inr rfl⟩
    show (Bool.rec _ _ (Nat.beq (Nat.mod j 2) 0) : Tr α) = _
    rw [hb]; rfl
theorem Tr.set_odd {α : Type} (v : α) (n : Nat) (t : Tr α) (j : Nat) (h : j % 2 ≠ 0) : ∃ o l r, Tr.set v (n + 1) t (j + 1) = .nd o l (Tr.set v n r (j / 2)) ∧ (t = .lf ∧ o = none ∧ l = .lf ∧ r = .lf ∨ t = .nd o l r) := by
  have hb : Nat.beq (Nat.mod j 2) 0 = false := by
    rw [show Nat.mod j 2 = j % 2 from rfl]
    cases hb : Nat.beq (j % 2) 0 with
    | false => rfl
    | true => exact absurd (Nat.eq_of_beq_eq_true hb) h
  cases t with
  | lf =>
    refine ⟨none, .lf, .lf, ?_, .inl ⟨rfl, rfl, rfl, rfl⟩⟩
    show (Bool.rec _ _ (Nat.beq (Nat.mod j 2) 0) : Tr α) = _
    rw [hb]; rfl
  | nd o l r =>
    refine ⟨o, l, r, ?_, .inr rfl⟩
    show (Bool.rec _ _ (Nat.beq (Nat.mod j 2) 0) : Tr α) = _
    rw [hb]; rfl

theorem Tr.set_same {α : Type} (v : α) : ∀ (n : Nat) (t : Tr α) (i : Nat), i + 2 ≤ 2 ^ n → (Tr.set v n t i).get i = some v := by
  intro n
  induction n with
  | zero => intro t i h; simp at h
  | succ n ih =>
    intro t i h
    cases i with
    | zero => obtain ⟨l, r, e, _⟩ := Tr.set_zero v n t; rw [e]; rfl
    | succ j =>
      have hb : j / 2 + 2 ≤ 2 ^ n := by
        rw [Nat.pow_succ] at h; omega
      by_cases hj : j % 2 = 0
      · obtain ⟨o, l, r, e, _⟩ := Tr.set_even v n t j hj; rw [e, Tr.get_even _ _ _ _ hj]; exact ih _ _ hb
      · obtain ⟨o, l, r, e, _⟩ := Tr.set_odd v n t j hj; rw [e, Tr.get_odd _ _ _ _ hj]; exact ih _ _ hb
theorem Tr.set_ne {α : Type} (v : α) : ∀ (n : Nat) (t : Tr α) (i k : Nat), k ≠ i → (Tr.set v n t i).get k = t.get k := by
  intro n
  induction n with
  | zero => intro t i k h; rfl
  | succ n ih =>
    intro t i k h
    cases i with
    | zero =>
      obtain ⟨l, r, e, h'⟩ := Tr.set_zero v n t
      obtain ⟨k, rfl⟩ : ∃ k', k = k' + 1 := ⟨k - 1, by omega⟩
      rw [e]
      by_cases hk : k % 2 = 0
      · rw [Tr.get_even _ _ _ _ hk]
        rcases h' with ⟨rfl, rfl, rfl⟩ | ⟨o, rfl⟩
        · rfl
        · rw [Tr.get_even _ _ _ _ hk]
      · rw [Tr.get_odd _ _ _ _ hk]
        rcases h' with ⟨rfl, rfl, rfl⟩ | ⟨o, rfl⟩
        · rfl
        · rw [Tr.get_odd _ _ _ _ hk]
    | succ j =>
      by_cases hj : j % 2 = 0
      · obtain ⟨o, l, r, e, h'⟩ := Tr.set_even v n t j hj
        rw [e]
        cases k with
        | zero => rcases h' with ⟨rfl, rfl, rfl, rfl⟩ | rfl <;> rfl
        | succ k =>
          by_cases hk : k % 2 = 0
          · rw [Tr.get_even _ _ _ _ hk, ih _ _ _ (by omega)]
            rcases h' with ⟨rfl, rfl, rfl, rfl⟩ | rfl
            · rfl
            · rw [Tr.get_even _ _ _ _ hk]
          · rw [Tr.get_odd _ _ _ _ hk]
            rcases h' with ⟨rfl, rfl, rfl, rfl⟩ | rfl
            · rfl
            · rw [Tr.get_odd _ _ _ _ hk]
      · obtain ⟨o, l, r, e, h'⟩ := Tr.set_odd v n t j hj
        rw [e]
        cases k with
        | zero => rcases h' with ⟨rfl, rfl, rfl, rfl⟩ | rfl <;> rfl
        | succ k =>
          by_cases hk : k % 2 = 0
          · rw [Tr.get_even _ _ _ _ hk]
            rcases h' with ⟨rfl, rfl, rfl, rfl⟩ | rfl
            · rfl
            · rw [Tr.get_even _ _ _ _ hk]
          · rw [Tr.get_odd _ _ _ _ hk, ih _ _ _ (by omega)]
            rcases h' with ⟨rfl, rfl, rfl, rfl⟩ | rfl
            · rfl
            · rw [Tr.get_odd _ _ _ _ hk]
theorem Tr.put_same {α : Type} (t : Tr α) (i : Nat) (v : α) : (t.put i v).get i = some v := by
  refine Tr.set_same v _ t i ?_
  have := Nat.lt_log2_self (n := i + 1)
  show i + 2 ≤ 2 ^ (Nat.log2 (i + 1) + 1)
  omega
theorem Tr.put_ne {α : Type} (t : Tr α) (i k : Nat) (v : α) (h : k ≠ i) : (t.put i v).get k = t.get k := Tr.set_ne v _ t i k h

theorem ob_some {α β : Type} {x : Option α} {f : α → Option β} {b : β} (h : ob x f = some b) : ∃ a, x = some a ∧ f a = some b := by
  cases x with
  | none => cases h
  | some a => exact ⟨a, rfl, h⟩
theorem bb_some {α : Type} {c : Bool} {x : Option α} {b : α} (h : bb c x none = some b) : c = true ∧ x = some b := by
  cases c with
  | false => cases h
  | true => exact ⟨rfl, h⟩

/-! ### values -/
/-- where the reckoner's blocks lie: block, first cell, how many cells from there on -/
abbrev Pl := Nat → Option (Nat × Nat × Nat)
def Pl.le (p q : Pl) : Prop := ∀ i x, p i = some x → q i = some x
theorem Pl.le_refl (p : Pl) : Pl.le p p := fun _ _ h => h
theorem Pl.le_trans {p q r : Pl} (h : Pl.le p q) (k : Pl.le q r) : Pl.le p r := fun i x e => k i x (h i x e)

/-- the argument that is not told -/
class Sym where
  n : Int
variable [Sym]
def symV : Nat → Int
  | 0 => Sym.n
  | 1 => Sym.n.tmod 6
  | _ => Sym.n.tmod 6 + 6

mutual
def VR (p : Pl) : AV → Value → Prop
  | .bool b, v => v = .bool b
  | .int k n, v => v = .int k n
  | .flt k n, v => v = .float k n
  | .str l, v => ∃ s : ByteArray, v = .string s ∧ s.data.toList.map (·.toNat) = l
  | .nilp, v => v = .pointer none
  | .ptr id off, v => ∃ a b S, p id = some (a, b, S) ∧ v = .pointer (some ⟨a, b + off, none⟩)
  | .snil, v => v = .slice none 0 0
  | .sl id off n c, v => ∃ a b S, p id = some (a, b, S) ∧ v = .slice (some ⟨a, b + off, none⟩) n c
  | .slg id off n z po, v => ∃ a b S, p id = some (a, b, S) ∧ 0 < z ∧ off + n * z ≤ S ∧ v = .slice (some ⟨a, b + (if (S - off) / z = 0 then po else off), none⟩) n ((S - off) / z)
  | .mnil, v => v = .map none
  | .map id, v => ∃ a b S, p id = some (a, b, S) ∧ v = .map (some a)
  | .fn f l m, v => ∃ l' m', v = .func f (List.toArray l') (List.toArray m') ∧ VRs p l l' ∧ VRs p m m'
  | .nilFn, v => v = .nilFunc
  | .iface t u, v => ∃ u', v = .iface t u' ∧ VR p u u'
  | .nilI, v => v = .nilIface
  | .agg l, v => ∃ l', v = .agg (List.toArray l') ∧ VRs p l l'
  | .tup l, v => ∃ l', v = .tuple (List.toArray l') ∧ VRs p l l'
  | .sym j, v => v = .int .i64 (symV j)
def VRs (p : Pl) : List AV → List Value → Prop
  | [], l => l = []
  | a :: l, r => ∃ b m, r = b :: m ∧ VR p a b ∧ VRs p l m
end

mutual
theorem VR.mono {p q : Pl} (h : Pl.le p q) : ∀ {a : AV} {v : Value}, VR p a v → VR q a v
  | .bool _, _, r => by simp only [VR] at r ⊢; exact r
  | .int _ _, _, r => by simp only [VR] at r ⊢; exact r
  | .flt _ _, _, r => by simp only [VR] at r ⊢; exact r
  | .str _, _, r => by simp only [VR] at r ⊢; exact r
  | .nilp, _, r => by simp only [VR] at r ⊢; exact r
  | .ptr _ _, _, r => by simp only [VR] at r ⊢; obtain ⟨a, b, S, e, k⟩ := r; exact ⟨a, b, S, h _ _ e, k⟩
  | .snil, _, r => by simp only [VR] at r ⊢; exact r
  | .sl _ _ _ _, _, r => by simp only [VR] at r ⊢; obtain ⟨a, b, S, e, k⟩ := r; exact ⟨a, b, S, h _ _ e, k⟩
  | .slg _ _ _ _ _, _, r => by simp only [VR] at r ⊢; obtain ⟨a, b, S, e, k⟩ := r; exact ⟨a, b, S, h _ _ e, k⟩
  | .mnil, _, r => by simp only [VR] at r ⊢; exact r
  | .map _, _, r => by simp only [VR] at r ⊢; obtain ⟨a, b, S, e, k⟩ := r; exact ⟨a, b, S, h _ _ e, k⟩
  | .fn _ _ _, _, r => by simp only [VR] at r ⊢; obtain ⟨l, m, e, k1, k2⟩ := r; exact ⟨l, m, e, VRs.mono h k1, VRs.mono h k2⟩
  | .nilFn, _, r => by simp only [VR] at r ⊢; exact r
  | .iface _ _, _, r => by simp only [VR] at r ⊢; obtain ⟨u, e, k⟩ := r; exact ⟨u, e, VR.mono h k⟩
  | .nilI, _, r => by simp only [VR] at r ⊢; exact r
  | .agg _, _, r => by simp only [VR] at r ⊢; obtain ⟨l, e, k⟩ := r; exact ⟨l, e, VRs.mono h k⟩
  | .tup _, _, r => by simp only [VR] at r ⊢; obtain ⟨l, e, k⟩ := r; exact ⟨l, e, VRs.mono h k⟩
  | .sym _, _, r => by simp only [VR] at r ⊢; exact r
theorem VRs.mono {p q : Pl} (h : Pl.le p q) : ∀ {a : List AV} {v : List Value}, VRs p a v → VRs q a v
  | [], _, r => by simp only [VRs] at r ⊢; exact r
  | _ :: _, _, r => by simp only [VRs] at r ⊢; obtain ⟨b, m, e, k1, k2⟩ := r; exact ⟨b, m, e, VR.mono h k1, VRs.mono h k2⟩
end

theorem bytes_inj {s t : ByteArray} (h : s.data.toList.map (·.toNat) = t.data.toList.map (·.toNat)) : s = t := by
  cases s with | mk a => cases t with | mk b =>
  congr 1
  have : Function.Injective (fun x : UInt8 => x.toNat) := fun x y h => UInt8.toNat_inj.1 h
  exact Array.toList_inj.1 (List.map_inj_right (fun x y h => UInt8.toNat_inj.1 h) |>.1 h)

mutual
theorem VR.det {p : Pl} : ∀ {a : AV} {v w : Value}, VR p a v → VR p a w → v = w
  | .bool _, _, _, r, k => by simp only [VR] at r k; rw [r, k]
  | .int _ _, _, _, r, k => by simp only [VR] at r k; rw [r, k]
  | .flt _ _, _, _, r, k => by simp only [VR] at r k; rw [r, k]
  | .str _, _, _, r, k => by simp only [VR] at r k; obtain ⟨s, rfl, e⟩ := r; obtain ⟨t, rfl, e'⟩ := k; rw [bytes_inj (e.trans e'.symm)]
  | .nilp, _, _, r, k => by simp only [VR] at r k; rw [r, k]
  | .ptr _ _, _, _, r, k => by
    simp only [VR] at r k; obtain ⟨a, b, S, e, rfl⟩ := r; obtain ⟨a', b', S', e', rfl⟩ := k
    rw [e] at e'; cases e'; rfl
  | .snil, _, _, r, k => by simp only [VR] at r k; rw [r, k]
  | .sl _ _ _ _, _, _, r, k => by
    simp only [VR] at r k; obtain ⟨a, b, S, e, rfl⟩ := r; obtain ⟨a', b', S', e', rfl⟩ := k
    rw [e] at e'; cases e'; rfl
  | .slg _ _ _ _ _, _, _, r, k => by
    simp only [VR] at r k; obtain ⟨a, b, S, e, _, _, rfl⟩ := r; obtain ⟨a', b', S', e', _, _, rfl⟩ := k
    rw [e] at e'; cases e'; rfl
  | .mnil, _, _, r, k => by simp only [VR] at r k; rw [r, k]
  | .map _, _, _, r, k => by
    simp only [VR] at r k; obtain ⟨a, b, S, e, rfl⟩ := r; obtain ⟨a', b', S', e', rfl⟩ := k
    rw [e] at e'; cases e'; rfl
  | .fn _ _ _, _, _, r, k => by
    simp only [VR] at r k; obtain ⟨l, m, rfl, k1, k2⟩ := r; obtain ⟨l', m', rfl, k1', k2'⟩ := k
    rw [VRs.det k1 k1', VRs.det k2 k2']
  | .nilFn, _, _, r, k => by simp only [VR] at r k; rw [r, k]
  | .iface _ _, _, _, r, k => by simp only [VR] at r k; obtain ⟨u, rfl, k1⟩ := r; obtain ⟨u', rfl, k2⟩ := k; rw [VR.det k1 k2]
  | .nilI, _, _, r, k => by simp only [VR] at r k; rw [r, k]
  | .agg _, _, _, r, k => by simp only [VR] at r k; obtain ⟨l, rfl, k1⟩ := r; obtain ⟨l', rfl, k2⟩ := k; rw [VRs.det k1 k2]
  | .tup _, _, _, r, k => by simp only [VR] at r k; obtain ⟨l, rfl, k1⟩ := r; obtain ⟨l', rfl, k2⟩ := k; rw [VRs.det k1 k2]
  | .sym _, _, _, r, k => by simp only [VR] at r k; rw [r, k]
theorem VRs.det {p : Pl} : ∀ {a : List AV} {v w : List Value}, VRs p a v → VRs p a w → v = w
  | [], _, _, r, k => by simp only [VRs] at r k; rw [r, k]
  | _ :: _, _, _, r, k => by
    simp only [VRs] at r k; obtain ⟨b, m, rfl, k1, k2⟩ := r; obtain ⟨b', m', rfl, k1', k2'⟩ := k
    rw [VR.det k1 k1', VRs.det k2 k2']
end

theorem VRs.length {p : Pl} : ∀ {l : List AV} {m : List Value}, VRs p l m → m.length = l.length
  | [], _, r => by simp only [VRs] at r; simp [r]
  | _ :: _, _, r => by simp only [VRs] at r; obtain ⟨b, m, rfl, _, k⟩ := r; simp [VRs.length k]
theorem VRs.get {p : Pl} : ∀ {l : List AV} {m : List Value}, VRs p l m → ∀ {i : Nat} {a : AV}, l[i]? = some a → ∃ v, m[i]? = some v ∧ VR p a v
  | [], _, _, _, _, h => by simp at h
  | _ :: _, _, r, 0, _, h => by simp only [VRs] at r; obtain ⟨b, m, rfl, k, _⟩ := r; simp at h; subst h; exact ⟨b, rfl, k⟩
  | _ :: _, _, r, i + 1, _, h => by simp only [VRs] at r; obtain ⟨b, m, rfl, _, k⟩ := r; simp at h ⊢; exact VRs.get k h
theorem VRs.of_get {p : Pl} : ∀ {l : List AV} {m : List Value}, m.length = l.length → (∀ (i : Nat) (a : AV) (v : Value), l[i]? = some a → m[i]? = some v → VR p a v) → VRs p l m
  | [], m, h, _ => by simp only [VRs]; simpa using h
  | a :: l, [], h, _ => by simp at h
  | a :: l, b :: m, h, k => by simp only [VRs]; exact ⟨b, m, rfl, k 0 a b rfl rfl, VRs.of_get (by simpa using h) fun i x y hx hy => k (i + 1) x y (by simpa using hx) (by simpa using hy)⟩
theorem VRs.append {p : Pl} : ∀ {l l' : List AV} {m m' : List Value}, VRs p l m → VRs p l' m' → VRs p (l ++ l') (m ++ m')
  | [], _, _, _, r, k => by simp only [VRs] at r; subst r; simpa using k
  | _ :: _, _, _, _, r, k => by
    simp only [VRs] at r; obtain ⟨b, m, rfl, k1, k2⟩ := r
    simp only [List.cons_append, VRs]; exact ⟨b, _, rfl, k1, k2.append k⟩
theorem VRs.takeX {p : Pl} : ∀ {n : Nat} {l r : List AV} {m : List Value}, VRs p l m → takeX n l = some r → VRs p r (m.take n) ∧ n ≤ l.length
  | 0, l, r, m, h, e => by simp only [Rk.takeX, Option.some.injEq] at e; subst e; simp [VRs]
  | n + 1, [], r, m, h, e => by simp [Rk.takeX] at e
  | n + 1, a :: l, r, m, h, e => by
    simp only [VRs] at h; obtain ⟨b, m, rfl, k1, k2⟩ := h
    simp only [Rk.takeX] at e
    obtain ⟨r', e1, e2⟩ := ob_some e
    simp only [Option.some.injEq] at e2
    subst e2
    have := VRs.takeX k2 e1
    simp only [List.take_succ_cons, VRs, List.length_cons]
    exact ⟨⟨b, _, rfl, k1, this.1⟩, by omega⟩
theorem VRs.dropX {p : Pl} : ∀ {n : Nat} {l r : List AV} {m : List Value}, VRs p l m → dropX n l = some r → VRs p r (m.drop n) ∧ n ≤ l.length ∧ r.length = l.length - n
  | 0, l, r, m, h, e => by simp only [Rk.dropX, Option.some.injEq] at e; subst e; simpa using h
  | n + 1, [], r, m, h, e => by simp [Rk.dropX] at e
  | n + 1, a :: l, r, m, h, e => by
    simp only [VRs] at h; obtain ⟨b, m, rfl, k1, k2⟩ := h
    simp only [Rk.dropX] at e
    have := VRs.dropX k2 e
    simp only [List.drop_succ_cons, List.length_cons]
    exact ⟨this.1, by omega, by omega⟩
theorem VRs.slcX {p : Pl} {l r : List AV} {m : List Value} {o n : Nat} (h : VRs p l m) (e : slcX l o n = some r) : VRs p r ((m.drop o).take n) ∧ o + n ≤ l.length := by
  obtain ⟨d, e1, e2⟩ := ob_some e
  have h1 := h.dropX e1
  have h2 := h1.1.takeX e2
  exact ⟨h2.1, by omega⟩
theorem nth_eq {α : Type} : ∀ (l : List α) (i : Nat), nth l i = l[i]?
  | [], i => by simp [nth]
  | a :: l, 0 => by simp [nth]
  | a :: l, i + 1 => by simp [nth, nth_eq l i]
theorem VRs.overX {p : Pl} : ∀ {us l r : List AV} {ws m : List Value}, VRs p us ws → VRs p l m → overX us l = some r → VRs p r (ws ++ m.drop ws.length) ∧ us.length ≤ l.length
  | [], l, r, ws, m, hu, h, e => by
    simp only [VRs] at hu; subst hu
    simp only [Rk.overX, Option.some.injEq] at e; subst e
    simpa using h
  | u :: us, [], r, ws, m, hu, h, e => by simp [Rk.overX] at e
  | u :: us, a :: l, r, ws, m, hu, h, e => by
    simp only [VRs] at hu h
    obtain ⟨w, ws, rfl, k1, k2⟩ := hu
    obtain ⟨b, m, rfl, k3, k4⟩ := h
    simp only [Rk.overX] at e
    obtain ⟨r', e1, e2⟩ := ob_some e
    simp only [Option.some.injEq] at e2
    subst e2
    have := VRs.overX k2 k4 e1
    simp only [List.length_cons, List.drop_succ_cons, List.cons_append, VRs]
    exact ⟨⟨w, _, rfl, k1, this.1⟩, by omega⟩
theorem VRs.putX {p : Pl} {us : List AV} {ws : List Value} (hu : VRs p us ws) : ∀ {o : Nat} {l r : List AV} {m : List Value}, VRs p l m → putX us o l = some r → VRs p r (m.take o ++ ws ++ m.drop (o + ws.length)) ∧ o + us.length ≤ l.length
  | 0, l, r, m, h, e => by
    simp only [Rk.putX] at e
    have := hu.overX h e
    simpa using this
  | o + 1, [], r, m, h, e => by simp [Rk.putX] at e
  | o + 1, a :: l, r, m, h, e => by
    simp only [VRs] at h
    obtain ⟨b, m, rfl, k3, k4⟩ := h
    simp only [Rk.putX] at e
    obtain ⟨r', e1, e2⟩ := ob_some e
    simp only [Option.some.injEq] at e2
    subst e2
    have := VRs.putX hu k4 e1
    rw [show o + 1 + ws.length = (o + ws.length) + 1 from by omega]
    simp only [List.length_cons, List.drop_succ_cons, List.take_succ_cons, List.cons_append, VRs]
    exact ⟨⟨b, _, rfl, k3, this.1⟩, by omega⟩
theorem VRs.rep {p : Pl} {z : List AV} {y : List Value} (h : VRs p z y) : ∀ (n : Nat), VRs p (rep z n) (List.flatten (List.replicate n y))
  | 0 => by simp [Rk.rep, VRs]
  | n + 1 => by simp only [Rk.rep, List.replicate_succ, List.flatten_cons]; exact h.append (VRs.rep h n)
theorem VR.cells {p : Pl} {a : AV} {v : Value} (h : VR p a v) : VRs p (cellsOf a) v.cells.toList := by
  have h0 := h
  cases a <;> simp only [VR] at h
  case agg l => obtain ⟨l', rfl, k⟩ := h; simpa [cellsOf, Value.cells] using k
  all_goals
    have hc : v.cells.toList = [v] := by
      first
        | (subst h; rfl)
        | (obtain ⟨s, rfl, e⟩ := h; rfl)
        | (obtain ⟨a, b, S, e, rfl⟩ := h; rfl)
        | (obtain ⟨a, b, S, e, h1, h2, rfl⟩ := h; rfl)
        | (obtain ⟨l, m, rfl, k1, k2⟩ := h; rfl)
    rw [hc]
    simp only [cellsOf, VRs]
    exact ⟨v, [], rfl, h0, rfl⟩
theorem VR.one {p : Pl} {a : AV} {v : Value} (h : VR p a v) (ho : a.one = true) : Sl.one v = true := by
  cases a <;> simp only [VR, AV.one] at h ho <;> first
    | (cases ho; done)
    | (subst h; rfl)
    | (obtain ⟨s, rfl, e⟩ := h; rfl)
    | (obtain ⟨a, b, S, e, rfl⟩ := h; rfl)
    | (obtain ⟨a, b, S, e, h1, h2, rfl⟩ := h; rfl)
    | (obtain ⟨l, m, rfl, k1, k2⟩ := h; rfl)
theorem VRs.ones {p : Pl} : ∀ {l : List AV} {m : List Value}, VRs p l m → ones l = true → ∀ u ∈ m, Sl.one u = true
  | [], m, h, _ => by simp only [VRs] at h; subst h; simp
  | a :: l, m, h, e => by
    simp only [VRs] at h
    obtain ⟨b, m, rfl, k1, k2⟩ := h
    simp only [Rk.ones] at e
    split at e
    · rename_i ha
      intro u hu
      rcases List.mem_cons.1 hu with rfl | hu
      · exact k1.one ha
      · exact VRs.ones k2 e u hu
    · cases e
end Go.Rk
