/- The reckoner's operations that write. -/
import Derived.Test.YtffkmfgmdepfcaaGreatDoorRk16
set_option linter.unusedSimpArgs false
set_option linter.unusedVariables false
set_option linter.unusedSectionVars false
namespace Go.Rk
open Go.Sl (run_bind run_underlying' run_sizeOf run_zeroValue run_isAgg add_mk run_storeCells run_loadCells cell_of)
open Go.RowKit
variable [Sym]

section
variable {P : Program} {tb : Tab} {p : Pl} {a : Act} {e : En} {x y : Operand} {va vb vc r : AV} {T U : TypeId} {n : Nat}
variable {B0 : Nat} {w0 : World} {Fr : Nat → Option Obj} {s s' : S} {w : World}

/-- what a run leaves -/
def Ran (P : Program) (B0 : Nat) (w0 : World) (Fr : Nat → Option Obj) (p : Pl) (m : Sem Value) (w : World) (v : AV) (s' : S) : Prop :=
  ∃ u w' p', m.run P w = .ok u w' ∧ Pl.le p p' ∧ Sim B0 w0 Fr p' s' w' ∧ VR p' v u

theorem undefVR (p : Pl) : VR p (.tup []) undef := by simp only [VR, undef]; exact ⟨[], rfl, rfl⟩

theorem store_ok (htb : ∀ T t, tb.tys.get T = some t → TyOk P T t) (hs : Sim B0 w0 Fr p s w) (ha : VR p va (a.eval x)) (hb : VR p vb (a.eval y)) (h : store tb s T va vb = some s') : Done P B0 w0 Fr p a.eval (.store T x y) w (.tup []) s' := by
  unfold store at h
  split at h <;> first | (cases h; done) | skip
  rename_i id off
  obtain ⟨t, ht, h1⟩ := ob_some h
  have hT := htb _ _ ht
  split at h1 <;> first | (cases h1; done) | skip
  rename_i hlen
  have hlen' := Nat.eq_of_beq_eq_true hlen
  obtain ⟨b, bo, S, hp, hle, w', hr, hs'⟩ := hs.write P hb.cells h1
  simp only [VR] at ha
  obtain ⟨b', bo', S', hp', ha⟩ := ha
  rw [hp] at hp'
  cases hp'
  intro dst tt pos after g
  refine ⟨.skip, undef, w', p, ?_, .inr ⟨rfl, rfl⟩, Pl.le_refl p, hs', undefVR p⟩
  have hsz : (a.eval y).cells.size = t.size := by rw [← hlen', ← hb.cells.length]; simp
  simp only [execOp, ha, Instr.storeAt, Instr.sureAddr, Bind.bind, run_bind, Pure.pure, Sem.run, storeVar, run_sizeOf hT.size, hsz, ne_eq, not_true_eq_false, if_false, hr]

theorem slcCells_ok {z k : Nat} {new : List AV} {u : Value} (hs : Sim B0 w0 Fr p s w) (hv : VR p va u) (hl : slcLen va = some n) (hkn : k ≤ n) (h : slcCells s z k va = some new) : ∃ vs, VRs p new vs ∧ vs.length = k * z ∧ (Builtin.firstCells z k u).run P w = .ok vs.toArray w ∧ (Builtin.lenOf u).run P w = .ok n w ∧ ∃ b c, u = .slice b n c := by
  unfold slcCells at h
  split at h <;> first | (cases h; done) | skip
  · split at h
    · simp only [Option.some.injEq] at h
      subst h
      simp only [slcLen, Option.some.injEq] at hl
      subst hl
      simp only [VR] at hv
      subst hv
      exact ⟨[], rfl, by simp, rfl, rfl, _, _, rfl⟩
    · cases h
  · rename_i id off n' c'
    simp only [slcLen, Option.some.injEq] at hl
    subst hl
    obtain ⟨b, bo, S, vs, hp, hle, hvs, hlen, hc⟩ := hs.read h
    simp only [VR] at hv
    obtain ⟨b', bo', S', hp', rfl⟩ := hv
    rw [hp] at hp'
    cases hp'
    refine ⟨vs, hvs, hlen, ?_, rfl, _, _, rfl⟩
    simp only [Builtin.firstCells]
    rw [← hlen]
    exact Sl.run_loadCells vs fun j v hj => by rw [add_mk]; exact hc j v hj
  · rename_i id off n' z' po
    simp only [slcLen, Option.some.injEq] at hl
    subst hl
    obtain ⟨b, bo, S, vs, hp, hle, hvs, hlen, hc⟩ := hs.read h
    simp only [VR] at hv
    obtain ⟨b', bo', S', hp', hz0, hS, rfl⟩ := hv
    rw [hp] at hp'
    cases hp'
    refine ⟨vs, hvs, hlen, ?_, rfl, _, _, rfl⟩
    simp only [Builtin.firstCells]
    rw [← hlen]
    refine Sl.run_loadCells vs fun j v hj => ?_
    rw [add_mk]
    have hj' := (List.getElem?_eq_some_iff.1 hj).1
    by_cases h0 : (S - off) / z' = 0
    · -- no room for one: nothing is read
      exfalso
      have hlt : S - off < z' := by
        rcases Nat.lt_or_ge (S - off) z' with h | h
        · exact h
        · exact absurd (Nat.div_pos h hz0) (by omega)
      have hn0 : n' = 0 := by
        rcases Nat.eq_zero_or_pos n' with h | h
        · exact h
        · have : 1 * z' ≤ n' * z' := Nat.mul_le_mul_right _ h
          omega
      have hk0 : k = 0 := by omega
      rw [hk0] at hlen
      omega
    · simp only [h0, if_false]; exact hc j v hj

theorem Ran.done {op : Op} {m : Sem Value} (h : Ran P B0 w0 Fr p m w r s') (hm : ∀ dst t pos after g u w', m.run P w = .ok u w' → (execOp a.eval ⟨dst, op, t, pos, after, g⟩).run P w = .ok (.value u) w') : Done P B0 w0 Fr p a.eval op w r s' := fun dst t pos after g => by
  obtain ⟨u, w', p', h1, h2, h3, h4⟩ := h
  exact ⟨_, u, w', p', hm dst t pos after g u w' h1, .inl rfl, h2, h3, h4⟩

theorem nextslicecap_le' (k c : Nat) (h : c < k) : Builtin.nextslicecap k c ≤ 2 * k := Sl.nextslicecap_le k c h

/-- the part of append that makes a new row -/
theorem grown_new (hs : Sim B0 w0 Fr p s w) {el : Nat} {old new : List AV} {us vs : List Value} (hu : VRs p old us) (hv : VRs p new vs) {z n c : Nat} (hz : 0 < z) (hn : us.length + vs.length = n * z) (hc : n ≤ c) (more : List Value) (hm : more.length = (c - n) * z) :
    ∃ p', Pl.le p p' ∧ Sim B0 w0 Fr p' (s.push (.cells (old ++ new))) (w.alloc (.cells (us ++ vs ++ more).toArray el (0, 0))) ∧ VR p' (.slg s.nx 0 n z 0) (.slice (some ⟨w.heap.size, 0, none⟩) n c) := by
  have hle : Pl.le p (p.add s.nx (w.heap.size, 0, (us ++ vs ++ more).length)) := Pl.le_add (hs.fresh _ (Nat.le_refl _)).1 _
  have hlen : (us ++ vs ++ more).length = c * z := by
    simp only [List.length_append]
    rw [hn, hm, ← Nat.add_mul]
    congr 1
    omega
  refine ⟨_, hle, hs.push (OR.cells_new (hu.append hv) w more), ?_⟩
  simp only [VR]
  refine ⟨w.heap.size, 0, _, Pl.add_same _ _ _, hz, ?_, ?_⟩
  · rw [hlen]
    have := Nat.mul_le_mul_right z hc
    omega
  · rw [hlen, Nat.sub_zero, Nat.mul_div_cancel _ hz]
    simp

/-- the part of append that writes where there is room, or makes a new row -/
theorem run_append {T el : Nat} {te : TI} {ats : Array TypeId} {T1 : TypeId} {d1 : TypeDesc} (hT : P.underlying T = some (.slice el)) (hte : TyOk P el te) (h0 : ats[0]? = some T) (h1 : ats[1]? = some T1) (hd1 : P.underlying T1 = some d1) (hi : ∀ k, d1 ≠ .int k)
    {base : Option Addr} {n c k : Nat} {u : Value} {vs : List Value} (hlen : (Builtin.lenOf u).run P w = .ok k w) (hvs : ∀ w', (∀ b : Nat, w'.heap[b]? = w.heap[b]?) → (Builtin.firstCells te.size k u).run P w' = .ok vs.toArray w')
    (hbig : (n + k) * (te.bytes + 1) ≤ 1000000) {ty : TypeId} {us : List Value} (hus : c < n + k → ∀ w', (∀ b : Nat, w'.heap[b]? = w.heap[b]?) → (Builtin.firstCells te.size n (.slice base n c)).run P w' = .ok us.toArray w') :
    (n + k ≤ c → (Builtin.append_ ats ty #[.slice base n c, u]).run P w = match base with
      | some a => match (storeCells (a.add (n * te.size)) vs).run P w with
        | .ok _ w' => .ok (.slice base (n + k) c) w'
        | .halt h w' => .halt h w'
      | none => .ok (.slice base (n + k) c) w) ∧
    (c < n + k → ∃ c' more, n + k ≤ c' ∧ more.length = (c' - (n + k)) * (match (P.info? el).bind (·.zero) with | some z => z.cells.size | none => 0) ∧ (Builtin.append_ ats ty #[.slice base n c, u]).run P w = .ok (.slice (some ⟨w.heap.size, 0, none⟩) (n + k) c') (w.drew.alloc (.cells (us ++ vs ++ more).toArray el (0, 0)))) := by
  constructor
  · intro hroom
    unfold Builtin.append_
    simp only [h0, h1, List.getElem?_toArray, List.getElem?_cons_zero, List.getElem?_cons_succ, Bind.bind, run_bind, run_underlying' hT, run_underlying' hd1, run_sizeOf hte.size, Pure.pure, Sem.run]
    cases d1 <;> first | exact absurd rfl (hi _) | skip
    all_goals
      simp only [Bool.false_eq_true, if_false, hlen, hroom, if_true, Bool.not_false, run_bind, hvs w (fun _ => rfl)]
      cases base with
      | none => rfl
      | some a =>
        simp only [run_bind, List.toList_toArray]
        cases (storeCells (a.add (n * te.size)) vs).run P w <;> rfl
  · intro hneed
    have hroom : ¬ n + k ≤ c := by omega
    obtain ⟨z, hz, hza⟩ := hte.zero
    obtain ⟨i0, hi0, hib⟩ := Sl.run_typeInfo_bytes (w := w) hte.bytes
    obtain ⟨i1, hi1, hib1⟩ := Sl.run_typeInfo_bytes (w := w.drew) hte.bytes
    have hle : n + k ≤ 1000000 := Nat.le_trans (Nat.le_mul_of_pos_right _ (by omega)) hbig
    have hmx : ¬ (((n + k : Nat) : Int) > IntKind.i64.max) := by
      have e : IntKind.i64.max = 9223372036854775807 := by decide
      rw [e]; omega
    have hcap : ¬ (Builtin.nextslicecap (n + k) c * i0.bytes > 2 ^ 48) := by
      have h1 := nextslicecap_le' (n + k) c hneed
      have h2 : Builtin.nextslicecap (n + k) c * i0.bytes ≤ (2 * (n + k)) * i0.bytes := Nat.mul_le_mul_right _ h1
      have h3 : (2 * (n + k)) * te.bytes = 2 * ((n + k) * te.bytes) := by rw [Nat.mul_assoc]
      have h4 : (n + k) * te.bytes ≤ (n + k) * (te.bytes + 1) := Nat.mul_le_mul_left _ (by omega)
      rw [hib] at h2 ⊢
      omega
    have hq : (Question.appendCap (n + k) c el).forced = false := rfl
    have hcut : (Question.appendCap (n + k) c el).cut (w.tape w.drawn (Question.appendCap (n + k) c el)) ≥ n + k := by
      simp only [Question.cut]
      omega
    refine ⟨(Question.appendCap (n + k) c el).cut (w.tape w.drawn (Question.appendCap (n + k) c el)), (Builtin.zeroCells z.cells ((Question.appendCap (n + k) c el).cut (w.tape w.drawn (Question.appendCap (n + k) c el)) - (n + k))).toList, hcut, ?_, ?_⟩
    · rw [hz, Array.length_toList, Sl.zeroCells_size]
    · unfold Builtin.append_
      simp only [h0, h1, List.getElem?_toArray, List.getElem?_cons_zero, List.getElem?_cons_succ, Bind.bind, run_bind, run_underlying' hT, run_underlying' hd1, run_sizeOf hte.size, Pure.pure, Sem.run]
      cases d1 <;> first | exact absurd rfl (hi _) | skip
      all_goals
        simp only [Bool.false_eq_true, if_false, hlen, hroom, run_bind, hmx, false_and, hi0, hcap]
        rw [Sl.run_choose _ hq]
        generalize (Question.appendCap (n + k) c el).cut (w.tape w.drawn (Question.appendCap (n + k) c el)) = newCap at hcut ⊢
        simp only [run_bind, hi1, Sl.run_askRoom, hus hneed w.drew (fun _ => rfl), Bool.not_false, if_true, hvs w.drew (fun _ => rfl), run_zeroValue hz, newRow, Sl.run_newObj, Bind.bind, Pure.pure, Sem.run]
        have hcells : us.toArray ++ vs.toArray ++ Builtin.zeroCells z.cells (newCap - (n + k)) = (us ++ vs ++ (Builtin.zeroCells z.cells (newCap - (n + k))).toList).toArray := by simp
        rw [hcells]
        rfl


theorem grown_some {old new : List AV} {n z : Nat} (h : grown s old new n z = some (.val r s')) : 0 < z ∧ r = .slg s.nx 0 n z 0 ∧ s' = s.push (.cells (old ++ new)) := by
  unfold grown at h
  split at h
  · cases h
  · simp only [Option.some.injEq, Res.val.injEq] at h
    exact ⟨Nat.succ_pos _, h.1.symm, h.2.symm⟩

theorem TyOk.zsize {T : TypeId} {t : TI} (h : TyOk P T t) {z : Value} (hz : (P.info? T).bind (·.zero) = some z) : z.cells.size = t.size := by
  obtain ⟨z', hz', hza⟩ := h.zero
  rw [hz] at hz'
  cases hz'
  have := (absV_ok (p := fun _ => none) hza).cells.length
  rw [h.zlen] at this
  simpa using this

theorem Sim.congr (hs : Sim B0 w0 Fr p s w) {s2 : S} (hg : ∀ i, s2.m.get i = s.m.get i) (hn : s2.nx = s.nx) : Sim B0 w0 Fr p s2 w := by
  have hl : ∀ {i o}, Live s2 i o → Live s i o := fun h => ⟨(hg _).symm.trans h.1, h.2⟩
  exact ⟨fun id o h => hs.live id o (hl h), fun id h => ⟨(hs.fresh id (hn ▸ h)).1, (hg id).trans (hs.fresh id (hn ▸ h)).2⟩, fun i j oi oj a b S b' S' hi hj => hs.inj _ _ _ _ _ _ _ _ _ (hl hi) (hl hj), hs.frame, hs.below, hs.low⟩

theorem Sim.regrow (P : Program) (hs : Sim B0 w0 Fr p s w) {id off m b bo S : Nat} {l old new : List AV} {vs : List Value} (hg : s.m.get id = some (.cells l)) (hp : p id = some (b, bo, S)) (hold : slcX l off m = some old) (hv : VRs p new vs) (ho : ones new = true) (hfit : off + m + vs.length ≤ S) :
    ∃ w', (storeCells ⟨b, bo + off + m, none⟩ vs 0).run P w = .ok () w' ∧ Sim B0 w0 Fr (p.add s.nx (b, bo + off, S - off)) ((s.put id .dead).push (.cells (old ++ new))) w' := by
  obtain ⟨b', bo', S', hp', hB, hF, arr, T, h1, h2, h3, h4⟩ := hs.cells hg
  rw [hp] at hp'
  cases hp'
  have h1' : w.heap[b]? = some (.cells arr.toList.toArray T (0, 0)) := by simpa using h1
  have hlen : arr.toList.length = bo + S := by simpa using h2
  have hso := h4.slcX hold
  have hvl := hv.length
  have hol : old.length = m := by
    have := hso.1.length
    simp only [List.length_take, List.length_drop] at this
    omega
  obtain ⟨w', hw, e1, e2, e3, e4, e5, e6⟩ := run_storeCells (P := P) vs 0 w b (bo + off + m) arr.toList T (hv.ones ho) h1' (by omega)
  refine ⟨w', hw, ?_⟩
  have hlive : Live s id (.cells l) := ⟨hg, by intro e; cases e⟩
  have s1 := hs.put (o' := .cells []) hlive hp e1 e2 e3 e4 e6 ⟨_, T, e5, by simp; omega, by simp, by simp [VRs]⟩
  have s2 := s1.kill (id := id) (hs.lt_nx hp)
  have s3 : Sim B0 w0 Fr p (s.put id .dead) w' := s2.congr (fun i => by
    by_cases e : i = id
    · subst e; simp only [Rk.S.put, Tr.put_same]
    · simp only [Rk.S.put, Tr.put_ne _ _ _ _ e]) rfl
  refine s3.adopt (o := .cells (old ++ new)) (a := b) (b := bo + off) (S := S - off) ⟨_, T, e5, by simp; omega, by simp; omega, ?_⟩ hB hF (fun j oj b2 S2 hj hpj => ?_)
  · have hsplit : ((arr.toList.take (bo + off + m + 0) ++ vs ++ arr.toList.drop (bo + off + m + 0 + vs.length)).drop (bo + off)).take (old ++ new).length = (((arr.toList.drop bo).take l.length).drop off).take m ++ vs := by
      generalize arr.toList = L at *
      have ho2 := hso.2
      rw [List.append_assoc, List.drop_append_of_le_length (by simp; omega), List.take_append]
      have e1 : ((L.take (bo + off + m + 0)).drop (bo + off)) = (((L.drop bo).take l.length).drop off).take m := by
        apply List.ext_getElem?
        intro i
        simp only [List.getElem?_take, List.getElem?_drop, Nat.add_zero]
        by_cases hi : i < m
        · simp [hi, show bo + off + i < bo + off + m from by omega, show off + i < l.length from by omega, Nat.add_assoc]
        · simp [hi, show ¬ bo + off + i < bo + off + m from by omega]
      rw [e1]
      have hl1 : ((((L.drop bo).take l.length).drop off).take m).length = m := by simp; omega
      rw [List.take_of_length_le (by rw [hl1]; simp; omega), hl1]
      congr 1
      rw [show (old ++ new).length - m = vs.length from by simp; omega]
      simp
    simp only [List.size_toArray] at *
    show VRs p (old ++ new) _
    have := hso.1.append hv
    rw [← hsplit] at this
    simpa using this
  · rcases hj.put with ⟨e, e'⟩ | ⟨e, hj'⟩
    · exact hj.2 e'
    · exact e (hs.inj _ _ _ _ _ _ _ _ _ hj' hlive hpj hp)

theorem append_ok {args : Array Operand} {ats : Array TypeId} {T T1 : Nat} {rest : List Nat} (hav : ats.toList = T :: T1 :: rest) (ht : TabOk P tb) (hs : Sim B0 w0 Fr p s w) (hoe : OE p e a.eval) (hargs : opds e args.toList = some [va, vb]) (h : appendO tb s T T1 va vb = some (.val r s')) :
    Done P B0 w0 Fr p a.eval (.call ⟨.builtin .append, args, ats⟩) w r s' := by
  have htb := ht.ty
  obtain ⟨u1, u2, hbc, hu1, hu2⟩ := (hoe.list hargs).two
  have he : args.map a.eval = #[u1, u2] := by apply Array.ext'; rw [Array.toList_map]; exact hbc
  have h0 : ats[0]? = some T := by rw [← Array.getElem?_toList, hav]; rfl
  have h1 : ats[1]? = some T1 := by rw [← Array.getElem?_toList, hav]; rfl
  unfold appendO at h
  obtain ⟨⟨el, te⟩, hel, h2⟩ := ob_some h
  obtain ⟨t1, ht1, h3⟩ := ob_some h2
  obtain ⟨hsl, h4⟩ := bb_some h3
  obtain ⟨k, hk, h5⟩ := ob_some h4
  obtain ⟨n, hn, h6⟩ := ob_some h5
  obtain ⟨hbig, h7⟩ := bb_some h6
  obtain ⟨new, hnew, h8⟩ := ob_some h7
  obtain ⟨hones, h9⟩ := bb_some h8
  clear h h2 h3 h4 h5 h6 h7 h8
  simp only at hnew h9 hbig
  have hbig' := Nat.le_of_ble_eq_true hbig
  obtain ⟨hT, hte⟩ := elemOf_some htb hel
  obtain ⟨d1, hd1, hdk⟩ := (htb _ _ ht1).und
  have hi : ∀ q, d1 ≠ .int q := fun q hq => by
    subst hq
    cases hkk : t1.k <;> rw [hkk] at hsl hdk <;> simp only [TK.isSlc] at hsl <;> first | (cases hsl; done) | (simp only [tkM] at hdk; cases hdk)
  -- the state over a world of the same heap
  have simH : ∀ {s : S} (w' : World), (∀ b : Nat, w'.heap[b]? = w.heap[b]?) → Sim B0 w0 Fr p s w → ∃ (Fr' : Nat → Option Obj) (w0' : World), Sim 0 w0' Fr' p s w' := fun {s} w' hw hs =>
    ⟨fun _ => none, w', ⟨fun id o hi => let ⟨a, b, S, hp, hor, r⟩ := hs.live id o hi; ⟨a, b, S, hp, hor.mono (Pl.le_refl p) (hw a), Nat.zero_le _, rfl⟩, hs.fresh, hs.inj, (fun b o hb => by cases hb), Below.refl _ _, Nat.zero_le _⟩⟩
  -- what is appended
  obtain ⟨vs, hvs, hvl, _, hlk, b2, c2, rfl⟩ := slcCells_ok hs hu2 hk (Nat.le_refl k) hnew
  have hfc : ∀ w', (∀ b : Nat, w'.heap[b]? = w.heap[b]?) → (Builtin.firstCells te.size k (.slice b2 k c2)).run P w' = .ok vs.toArray w' := fun w' hw => by
    obtain ⟨Fr', w0', hs2⟩ := simH w' hw hs
    obtain ⟨vs', hvs', _, hr, _⟩ := slcCells_ok (P := P) hs2 hu2 hk (Nat.le_refl k) hnew
    rw [hr, VRs.det hvs hvs']
  -- a run of append is a run of the operation
  intro dst tt pos after g
  have hx : ∀ {u : Value} {w' : World}, (Builtin.append_ ats tt #[u1, .slice b2 k c2]).run P w = .ok u w' → (execOp a.eval ⟨dst, .call ⟨.builtin .append, args, ats⟩, tt, pos, after, g⟩).run P w = .ok (.value u) w' := fun {u w'} hr => by
    simp only [execOp, resolve, Bind.bind, run_bind, Pure.pure, Sem.run, invoke, Go.builtin, he, hr]
  -- a new row
  have fresh : ∀ {base : Option Addr} {c : Nat} {old : List AV} {us : List Value} {sg : S} (hsg : Sim B0 w0 Fr p sg w) (hu : u1 = .slice base n c) (hold : VRs p old us) (hul : us.length = n * te.size) (hz : 0 < te.size) (hneed : c < n + k)
      (hus : ∀ w', (∀ b : Nat, w'.heap[b]? = w.heap[b]?) → (Builtin.firstCells te.size n (.slice base n c)).run P w' = .ok us.toArray w'), ∃ u w' p', (Builtin.append_ ats tt #[u1, .slice b2 k c2]).run P w = .ok u w' ∧ Pl.le p p' ∧
        Sim B0 w0 Fr p' (sg.push (.cells (old ++ new))) w' ∧ VR p' (.slg sg.nx 0 (n + k) te.size 0) u := fun {base c old us sg} hsg hu hold hul hz hneed hus => by
    obtain ⟨c', more, hc', hm, hr⟩ := (run_append (P := P) (w := w) (ty := tt) hT hte h0 h1 hd1 hi hlk hfc hbig' (fun _ => hus)).2 hneed
    obtain ⟨z, hz1, hza⟩ := hte.zero
    rw [hz1] at hm
    simp only [hte.zsize hz1] at hm
    obtain ⟨p', hle, hs', hv'⟩ := grown_new hsg.drew hold hvs (el := el) hz (by rw [hul, hvl, Nat.add_mul]) hc' more hm
    subst hu
    exact ⟨_, _, p', hr, hle, hs', hv'⟩
  -- in its place
  have place : ∀ {bb bo c : Nat} {sg sg' : S} (hp : ∃ id off S, sg.write id off new = some sg' ∧ p id = some (bb, bo, S)) , True := fun _ => trivial
  unfold appendTo at h9
  split at h9
  · -- nil
    simp only [slcLen, Option.some.injEq] at hn
    subst hn
    simp only [VR] at hu1
    split at h9
    · simp only [Option.some.injEq, Res.val.injEq] at h9
      obtain ⟨rfl, rfl⟩ := h9
      have hr := (run_append (P := P) (w := w) (ty := tt) (base := none) (c := 0) (us := []) hT hte h0 h1 hd1 hi hlk hfc hbig' (fun h => by omega)).1 (Nat.le_refl _)
      subst hu1
      exact ⟨_, _, w, p, hx hr, .inl rfl, Pl.le_refl p, hs, by simp only [VR]⟩
    · rename_i hk0
      obtain ⟨hz, rfl, rfl⟩ := grown_some h9
      have hkp : 0 < k := by rcases Nat.eq_zero_or_pos k with h | h; exact absurd h hk0; exact h
      obtain ⟨u, w', p', hr, hle, hs', hv'⟩ := fresh (base := none) (c := 0) (old := []) (us := []) hs hu1 (by simp [VRs]) (by simp) hz (by omega) (fun w' _ => rfl)
      simp only [Nat.zero_add] at hv'
      exact ⟨_, u, w', p', hx hr, .inl rfl, hle, hs', hv'⟩
  · -- of a known capacity
    rename_i id off n' c
    simp only [slcLen, Option.some.injEq] at hn
    subst hn
    have hu1' := hu1
    simp only [VR] at hu1
    obtain ⟨b, bo, S, hp, hu1⟩ := hu1
    split at h9
    · rename_i hble
      have hroom := Nat.le_of_ble_eq_true hble
      obtain ⟨s2, hw, h10⟩ := ob_some h9
      simp only [Option.some.injEq, Res.val.injEq] at h10
      obtain ⟨rfl, rfl⟩ := h10
      obtain ⟨b', bo', S', hp', hle, w', hst, hs'⟩ := hs.write P hvs hw
      rw [hp] at hp'
      cases hp'
      have hr := (run_append (P := P) (w := w) (ty := tt) (base := some ⟨b, bo + off, none⟩) (n := n') (c := c) (us := []) hT hte h0 h1 hd1 hi hlk hfc hbig' (fun h => by omega)).1 hroom
      simp only [add_mk, Nat.add_assoc] at hr hst
      rw [hst] at hr
      subst hu1
      simp only [Nat.add_assoc] at hr hx
      exact ⟨_, _, w', p, hx hr, .inl rfl, Pl.le_refl p, hs', by simp only [VR]; exact ⟨b, bo, S, hp, rfl⟩⟩
    · rename_i hble
      have hroom : c < n' + k := by
        rcases Nat.lt_or_ge c (n' + k) with h | h
        · exact h
        · rw [Nat.ble_eq_true_of_le h] at hble; cases hble
      obtain ⟨old, hold, h10⟩ := ob_some h9
      obtain ⟨hz, rfl, rfl⟩ := grown_some h10
      have hold' : slcCells s te.size n' (.sl id off n' c) = some old := hold
      obtain ⟨us, hus, hul, _, _⟩ := slcCells_ok (P := P) hs hu1' rfl (Nat.le_refl n') hold'
      obtain ⟨u, w', p', hr, hle, hs', hv'⟩ := fresh (base := some ⟨b, bo + off, none⟩) (c := c) hs hu1 hus hul hz hroom (fun w' hw => by
        obtain ⟨Fr', w0', hs2⟩ := simH w' hw hs
        obtain ⟨us', hus', _, hr, _⟩ := slcCells_ok (P := P) hs2 hu1' rfl (Nat.le_refl n') hold'
        rw [hu1] at hr
        rw [hr, VRs.det hus hus'])
      exact ⟨_, u, w', p', hx hr, .inl rfl, hle, hs', hv'⟩
  · -- of a capacity that none knows
    rename_i id off n' z' po
    simp only [slcLen, Option.some.injEq] at hn
    subst hn
    have hu1' := hu1
    simp only [VR] at hu1
    obtain ⟨b, bo, S, hp, hz0, hS, hu1⟩ := hu1
    cases hzb : Nat.beq te.size z' with
    | false => rw [hzb] at h9; cases h9
    | true =>
      rw [hzb] at h9
      have := Nat.eq_of_beq_eq_true hzb
      subst this
      simp only at h9
      split at h9
      · rename_i l hg
        obtain ⟨b', bo', S', hp', hB, hF, arr, T', g1, g2, g3, g4⟩ := hs.cells hg
        rw [hp] at hp'
        cases hp'
        have capge : ∀ m, off + m * te.size ≤ S → m ≤ (S - off) / te.size := fun m h => by
          rw [Nat.le_div_iff_mul_le hz0]; omega
        cases hble : Nat.ble (off + (n' + k) * te.size) l.length with
        | true =>
          rw [hble] at h9
          obtain ⟨s2, hw, h10⟩ := ob_some h9
          simp only [Option.some.injEq, Res.val.injEq] at h10
          obtain ⟨rfl, rfl⟩ := h10
          have hle1 := Nat.le_of_ble_eq_true hble
          have hroom := capge (n' + k) (by omega)
          obtain ⟨b', bo', S', hp', hle, w', hst, hs'⟩ := hs.write P hvs hw
          rw [hp] at hp'
          cases hp'
          have hr := (run_append (P := P) (w := w) (ty := tt) (base := some ⟨b, bo + (if (S - off) / te.size = 0 then po else off), none⟩) (n := n') (c := (S - off) / te.size) (us := []) hT hte h0 h1 hd1 hi hlk hfc hbig' (fun h => by omega)).1 hroom
          have hr' : (Builtin.append_ ats tt #[u1, .slice b2 k c2]).run P w = .ok (.slice (some ⟨b, bo + (if (S - off) / te.size = 0 then po else off), none⟩) (n' + k) ((S - off) / te.size)) w' := by
            subst hu1
            by_cases hc0 : (S - off) / te.size = 0
            · have hk0 : k = 0 := by omega
              have hn0 : n' = 0 := by omega
              subst hk0; subst hn0
              have hv0 : vs = [] := List.length_eq_zero_iff.1 (by simpa using hvl)
              subst hv0
              have : w' = w := by
                have h1 : Result.ok () w = Result.ok () w' := hst
                cases h1; rfl
              subst this
              exact hr
            · simp only [hc0, if_false] at hr ⊢
              simp only [add_mk, Nat.add_assoc] at hr hst
              rw [hst] at hr
              simpa only [Nat.add_assoc] using hr
          refine ⟨_, _, w', p, hx hr', .inl rfl, Pl.le_refl p, hs', ?_⟩
          simp only [VR]
          exact ⟨b, bo, S, hp, hz0, by omega, rfl⟩
        | false =>
          rw [hble] at h9
          obtain ⟨old, hold, h10⟩ := ob_some h9
          obtain ⟨hz, rfl, rfl⟩ := grown_some h10
          by_cases hroom : n' + k ≤ (S - off) / te.size
          · -- in its place
            have hfit : off + n' * te.size + vs.length ≤ S := by
              rw [hvl, Nat.add_assoc, ← Nat.add_mul]
              have h1 : (n' + k) * te.size ≤ (S - off) / te.size * te.size := Nat.mul_le_mul_right _ hroom
              have h2 := Nat.div_mul_le_self (S - off) te.size
              rcases Nat.eq_zero_or_pos (n' + k) with h | h
              · rw [h]; omega
              · have : 1 * te.size ≤ (n' + k) * te.size := Nat.mul_le_mul_right _ h
                omega
            obtain ⟨w', hst, hs'⟩ := hs.regrow P hg hp hold hvs hones hfit
            have hr := (run_append (P := P) (w := w) (ty := tt) (base := some ⟨b, bo + (if (S - off) / te.size = 0 then po else off), none⟩) (n := n') (c := (S - off) / te.size) (us := []) hT hte h0 h1 hd1 hi hlk hfc hbig' (fun h => by omega)).1 hroom
            have hpos : (S - off) / te.size ≠ 0 := by
              intro h
              have hk0 : n' + k = 0 := by omega
              have : off + (n' + k) * te.size ≤ l.length := by
                have := (g4.slcX hold).2
                rw [hk0]; omega
              rw [Nat.ble_eq_true_of_le this] at hble
              cases hble
            simp only [hpos, if_false] at hr
            simp only [add_mk, Nat.add_assoc] at hr hst
            rw [hst] at hr
            subst hu1
            simp only [hpos, if_false] at hx
            have hle : Pl.le p (p.add s.nx (b, bo + off, S - off)) := Pl.le_add (hs.fresh _ (Nat.le_refl _)).1 _
            refine ⟨_, _, w', _, hx (by simpa only [Nat.add_assoc] using hr), .inl rfl, hle, hs', ?_⟩
            simp only [VR]
            refine ⟨b, bo + off, S - off, Pl.add_same _ _ _, hz0, ?_, ?_⟩
            · rw [hvl] at hfit
              rw [Nat.add_mul]; omega
            · simp [hpos]
          · -- anew
            have hneed : (S - off) / te.size < n' + k := by omega
            obtain ⟨us0, hus, hul⟩ : ∃ us : List Value, VRs p old us ∧ us.length = n' * te.size := by
              have h1 := (g4.slcX hold).1
              have h2 := (g4.slcX hold).2
              refine ⟨_, h1, ?_⟩
              have := g4.length
              simp only [List.length_take, List.length_drop] at this ⊢
              omega
            have hold' : slcCells s te.size n' (.slg id off n' te.size po) = some old := by
              simp only [slcCells, Rk.S.read, hg]; exact hold
            obtain ⟨u, w', p', hr, hle, hs', hv'⟩ := fresh (base := some ⟨b, bo + (if (S - off) / te.size = 0 then po else off), none⟩) (c := (S - off) / te.size) (hs.kill (hs.lt_nx hp)) hu1 hus hul hz hneed (fun w' hw => by
              obtain ⟨Fr', w0', hs2⟩ := simH w' hw hs
              obtain ⟨us', hus', _, hr, _⟩ := slcCells_ok (P := P) hs2 hu1' rfl (Nat.le_refl n') hold'
              rw [hu1] at hr
              rw [hr, VRs.det hus hus'])
            exact ⟨_, u, w', p', hx hr, .inl rfl, hle, hs', hv'⟩
      · cases h9
  · cases h9
end
end Go.Rk
