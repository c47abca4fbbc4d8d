/- Slices made by literals; append as a rule of the walk. -/
import Derived.Test.YtffkmfgmdepfcaaGreatDoorSl7
set_option linter.unusedSimpArgs false
namespace Go.Sl
open Go.RowKit

theorem fold_set (cs : List Value) : ∀ (off k : Nat) (pre mid post : List Value), pre.length = off + k → mid.length = cs.length →
    (cs.zipIdx k).foldl (fun (a : Array Value) (x : Value × Nat) => a.setIfInBounds (off + x.2) x.1) (pre ++ mid ++ post).toArray = (pre ++ cs ++ post).toArray := by
  induction cs with
  | nil => intro off k pre mid post h1 h2; simp [List.length_eq_zero_iff.1 h2]
  | cons c cs ih =>
    intro off k pre mid post h1 h2
    match mid, h2 with
    | m :: mid, h2 =>
      simp only [List.length_cons, Nat.add_right_cancel_iff] at h2
      simp only [List.zipIdx_cons, List.foldl_cons]
      have e : (pre ++ m :: mid ++ post).toArray.setIfInBounds (off + k) c = ((pre ++ [c]) ++ mid ++ post).toArray := by
        rw [← h1]
        simp [List.setIfInBounds_toArray]
      rw [e, ih off (k + 1) (pre ++ [c]) mid post (by simp; omega) h2]
      simp

theorem fill_all (sz : Nat) : ∀ (vs : List (List Value)) (us : List Value) (k : Nat) (done rest : List Value), us.map (fun u => u.cells.toList) = vs → (∀ v ∈ vs, v.length = sz) → done.length = k * sz → rest.length = vs.length * sz →
    Instr.fill (fun i => some (i * sz, sz)) (done ++ rest).toArray ((us.zipIdx k).map fun x => (x.2, x.1)) = some (done ++ vs.flatten).toArray := by
  intro vs
  induction vs with
  | nil =>
    intro us k done rest hu _ _ hr
    have : us = [] := by simpa using hu
    subst this
    have : rest = [] := List.length_eq_zero_iff.1 (by simpa using hr)
    subst this
    simp [Instr.fill]
  | cons v vs ih =>
    intro us k done rest hu hv hd hr
    match us, hu with
    | u :: us, hu =>
      simp only [List.map_cons, List.cons.injEq] at hu
      obtain ⟨hu1, hu2⟩ := hu
      have hvl : v.length = sz := hv v (by simp)
      have hus : u.cells.size = sz := by rw [← hvl, ← hu1]; simp
      simp only [List.length_cons, Nat.add_mul, Nat.one_mul] at hr
      have hsplit : rest = rest.take sz ++ rest.drop sz := (List.take_append_drop sz rest).symm
      have htl : (rest.take sz).length = sz := by simp; omega
      simp only [List.zipIdx_cons, List.map_cons, Instr.fill]
      have hcond : ¬ ((decide (u.cells.size ≠ sz) || decide (k * sz + u.cells.size > (done ++ rest).toArray.size)) = true) := by
        simp [hus]; omega
      rw [if_neg (by simpa using hcond)]
      have hfold : u.cells.zipIdx.foldl (fun (a : Array Value) (x : Value × Nat) => a.setIfInBounds (k * sz + x.2) x.1) (done ++ rest).toArray = (done ++ v ++ rest.drop sz).toArray := by
        have h := fold_set v (k * sz) 0 done (rest.take sz) (rest.drop sz) (by omega) (by omega)
        rw [List.append_assoc, ← hsplit] at h
        rw [← h, ← Array.foldl_toList]
        simp [hu1]
      have hfold' : Array.foldl (fun (cs : Array Value) (x : Value × Nat) => match x with | (c, j) => cs.setIfInBounds (k * sz + j) c) (done ++ rest).toArray u.cells.zipIdx = (done ++ v ++ rest.drop sz).toArray := hfold
      rw [hfold', ih us (k + 1) (done ++ v) (rest.drop sz) hu2 (fun x hx => hv x (by simp [hx])) (by simp [hd, hvl, Nat.add_mul]) (by simp; omega)]
      simp

/-! ### Lists of values, each of so many cells -/
class LenC (us : List Value) (n : outParam Nat) : Prop where
  eq : us.length = n
instance : LenC [] 0 := ⟨rfl⟩
instance {u : Value} {us : List Value} {n : Nat} [h : LenC us n] : LenC (u :: us) (n + 1) := ⟨by simp [h.eq]⟩
class AppC (us vs : List Value) (out : outParam (List Value)) : Prop where
  eq : us ++ vs = out
instance {vs : List Value} : AppC [] vs vs := ⟨rfl⟩
instance {u : Value} {us vs out : List Value} [h : AppC us vs out] : AppC (u :: us) vs (u :: out) := ⟨by simp [h.eq]⟩
/-- two numbers are one -/
class IsEq (a b : Nat) : Prop where
  eq : a = b
instance {a : Nat} : IsEq a a := ⟨rfl⟩
class CatC (vs : List Value) (sz : Nat) (out : outParam (List Value)) : Prop where
  eq : ∃ css : List (List Value), vs.map (fun u => u.cells.toList) = css ∧ (∀ c ∈ css, c.length = sz) ∧ css.flatten = out
instance {sz : Nat} : CatC [] sz [] := ⟨[], rfl, (fun _ h => by cases h), rfl⟩
instance {v : Value} {vs us r out : List Value} {sz n : Nat} [h1 : VCells v us] [h2 : LenC us n] [h3 : CatC vs sz r] [h4 : AppC us r out] [h5 : IsEq n sz] : CatC (v :: vs) sz out := by
  obtain ⟨css, e1, e2, e3⟩ := h3.eq
  refine ⟨us :: css, by simp [h1.eq, e1], fun c hc => ?_, by simp [e3, h4.eq]⟩
  rcases List.mem_cons.1 hc with rfl | hc
  · rw [h2.eq, h5.eq]
  · exact e2 c hc

theorem pairs_of {α : Type} : ∀ (l : List (Nat × α)) (ys : List α) (k : Nat), l.map Prod.fst = List.range' k ys.length → l.map Prod.snd = ys → l = (ys.zipIdx k).map fun x => (x.2, x.1)
  | [], ys, k, _, h2 => by simp at h2; subst h2; rfl
  | (a, b) :: l, [], k, _, h2 => by simp at h2
  | (a, b) :: l, y :: ys, k, h1, h2 => by
    simp only [List.map_cons, List.cons.injEq, List.length_cons, List.range'_succ] at h1 h2
    simp only [List.zipIdx_cons, List.map_cons, List.cons.injEq, Prod.mk.injEq]
    exact ⟨⟨h1.1, h2.1⟩, pairs_of l ys (k + 1) h1.2 h2.2⟩

section
variable {x : Cx} {E : Env} {As R : List Assn}

theorem st_buildSlice {t e sz len : Nat} {z : Value} {parts : Array (Nat × Operand)} {ys : List Operand} {vs out : List Value} [h : TU x.P t (.slice e)] [hs : TSz x.P e sz] [hz : TZ x.P e z]
    (h1 : parts.toList.map Prod.fst = List.range' 0 len) (h2 : parts.toList.map Prod.snd = ys) (hv : Evs E ys vs) (hlen : Nat.ble (len * sz) 16777216 = true) [hc : CatC vs sz out] :
    Step x (.buildSlice t len parts) E As (fun b : Nat => .slice (some ⟨b, 0, none⟩) len len) (fun b => ownC b out e :: As) := fun D a w hl r st dst ty pos after g => by
  have hyl : ys.length = len := by
    have := congrArg List.length h1
    simp at this
    rw [← h2]; simp [this]
  have hvl : vs.length = len := by
    have := hv a.eval r.ok
    rw [← this]; simp [hyl]
  have hp := pairs_of parts.toList ys 0 (by rw [hyl]; exact h1) h2
  have hp2 : (parts.map fun (i, y) => (i, a.eval y)).toList = (vs.zipIdx).map fun x => (x.2, x.1) := by
    rw [Array.toList_map, hp, ← hv a.eval r.ok]
    simp [List.zipIdx_map]
  obtain ⟨css, e1, e2, e3⟩ := hc.eq
  have hcl : css.length = len := by rw [← e1]; simp [hvl]
  have hle : ¬ (len * sz > 2 ^ 24) := by
    have := Nat.le_of_ble_eq_true hlen
    omega
  unfold opR
  have key : ∀ zc : Array Value, Instr.fill (fun i => some (i * sz, sz)) ((Array.range (len * sz)).map (zc[· % zc.size]!)) (parts.map fun (i, y) => (i, a.eval y)).toList = some out.toArray := fun zc => by
    have := fill_all sz css vs 0 [] ((Array.range (len * sz)).map (zc[· % zc.size]!)).toList e1 e2 (by simp) (by simp [hcl])
    rw [hp2]
    rw [List.nil_append, Array.toArray_toList, e3] at this
    simpa using this
  simp only [execOp, Instr.buildSlice, Bind.bind, run_bind, run_underlying' h.eq, run_sizeOf hs.eq, hle, if_false]
  by_cases h0 : len * sz = 0
  · simp only [h0, if_true, Pure.pure, Sem.run]
    have k0 := key #[]
    rw [h0] at k0
    simp only [k0, newRow, newObj, Bind.bind, run_bind, Pure.pure, Sem.run]
    exact ⟨w.heap.size, D, Dat.le_refl D, rfl, st.alloc _⟩
  · simp only [h0, if_false, run_bind, run_zeroValue hz.eq, Pure.pure, Sem.run, Bind.bind]
    simp only [key, newRow, newObj, Bind.bind, run_bind, Pure.pure, Sem.run]
    exact ⟨w.heap.size, D, Dat.le_refl D, rfl, st.alloc _⟩

/-- a fact that holds of the unchanging blocks -/
def Holds (As : List Assn) (A : Assn) : Prop := ∀ B0 w0 D w, St B0 w0 D As w → A.holds D []
theorem Holds.here {A : Assn} [h : Pers A] : Holds (A :: As) A := fun _ _ D _ st => by
  obtain ⟨hh, ⟨h1, h2, rfl, a, r⟩, o⟩ := st.own
  have e := h.dup D h1 a
  subst e
  exact a
theorem Holds.there {A B : Assn} (k : Holds As A) : Holds (B :: As) A := fun B0 w0 D w st => k B0 w0 D w st.tail
def HoldsAll (As Fs : List Assn) : Prop := ∀ B0 w0 D w, St B0 w0 D As w → allF Fs D
theorem HoldsAll.nil : HoldsAll As [] := fun _ _ _ _ _ _ h => by cases h
theorem HoldsAll.cons {A : Assn} {Fs : List Assn} (h : Holds As A) (k : HoldsAll As Fs) : HoldsAll As (A :: Fs) := fun B0 w0 D w st B hB => by
  rcases List.mem_cons.1 hB with rfl | hB
  · exact h B0 w0 D w st
  · exact k B0 w0 D w st B hB

theorem newsOk_one {α : Type} [Rp α] {D : Dat} (y : α) (g : Rp.Gh α) (hf : allF (Rp.facts y g) D) : newsOk [y] (Rp.cells y g) D :=
  ⟨by simp [Rp.len], fun i y' hy => by
    match i, hy with
    | 0, hy => simp only [List.getElem?_cons_zero, Option.some.injEq] at hy; subst hy; exact ⟨g, fun j v hv => by simpa using hv, hf⟩⟩

/-- append of one value, which was laid in a row of its own -/
theorem st_append1 {α : Type} [Rp α] {t e bytes bx cx n c : Nat} {z : Value} {p : Option Addr} {xs : List α} {ya yb : Operand} {cs : List Value} {T1 : TypeId} {R1 R2 : List Assn} (y : α) (g : Rp.Gh α)
    [h : TU x.P t (.slice e)] [hs : TSz x.P e (Rp.sz α)] [hb : TBy x.P e bytes] [hz : TZ x.P e z] (hzs : z.cells.size = Rp.sz α) (hsz : Nat.blt 0 (Rp.sz α) = true) (hby : Nat.blt 0 bytes = true)
    (ha : ev E ya = some (.slice p n c)) (hx : ev E yb = some (.slice (some ⟨bx, 0, none⟩) 1 cx)) [ho : OwnAt As bx cs T1 R1] (hcs : cs = Rp.cells y g) (hg : Tk R1 (gS e p n c xs) R2) (hf : HoldsAll As (Rp.facts y g))
    (hroom : (n + 1) * bytes ≤ 140737488355328) :
    Step x (.call ⟨.builtin .append, #[ya, yb], #[t, t]⟩) E As (fun k : Option Addr × Nat => .slice k.1 (n + 1) k.2) (fun k => gS e k.1 (n + 1) k.2 (xs ++ [y]) :: R2) := fun D a w hl r st dst ty pos after gd => by
  have st1 := st.perm ho.perm
  have hat := st1.own_at
  obtain ⟨D2, l2, st2⟩ := hg x.B0 x.w0 D w [] (by simpa using st1.tail)
  simp only [List.cons_append, List.append_nil] at st2
  have hff : allF (Rp.facts y g) D2 := allF_mono l2 (hf _ _ _ _ st)
  obtain ⟨p', c', w', D', hr, l', st'⟩ := run_append (P := x.P) (ys := [y]) (m := 1) (news := Rp.cells y g) (ax := some ⟨bx, 0, none⟩) (cx := cx) ⟨h.eq, hs.eq, hb.eq, hz.eq, hzs⟩ (Nat.blt_eq ▸ hsz) (Nat.blt_eq ▸ hby) st2 rfl
    (fun j v hj => ⟨_, rfl, by rw [add_mk, cell_of hat, hcs, Nat.zero_add]; exact hj⟩) (fun v hv => Rp.ones y g v hv) (newsOk_one y g hff) hroom ty #[t, t] rfl rfl
  unfold opR
  simp only [execOp, resolve, Bind.bind, run_bind, Pure.pure, Sem.run, invoke, Go.builtin, List.map_toArray, List.map_cons, List.map_nil, r.ev ha, r.ev hx, hr]
  exact ⟨(p', c'), D', Dat.le_trans l2 l', rfl, st'⟩
end
end Go.Sl
