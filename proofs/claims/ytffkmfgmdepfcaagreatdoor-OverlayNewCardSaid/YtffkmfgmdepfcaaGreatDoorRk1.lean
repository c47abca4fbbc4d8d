/- A reckoner for the program's code on known data: blocks have numbers of the reckoner's own. -/
import Derived.Test.YtffkmfgmdepfcaaGreatDoorSl2c
import Derived.KernelRfl
set_option linter.unusedVariables false
namespace Go.Rk

/-- A value; its blocks are told by the reckoner's numbers. -/
inductive AV where
  | bool (b : Bool)
  | int (k : IntKind) (n : Int)
  | flt (k : FloatKind) (n : Nat)
  | str (s : List Nat)
  | nilp
  | ptr (id off : Nat)
  | snil
  | sl (id off n c : Nat)
  | slg (id off n z po : Nat)
  | mnil
  | map (id : Nat)
  | fn (f : Fn) (first captured : List AV)
  | nilFn
  | iface (t : Nat) (v : AV)
  | nilI
  | agg (l : List AV)
  | tup (l : List AV)
  | sym (j : Nat)
deriving Inhabited

/-- A block: its first cells, a map's entries. -/
inductive AO where
  | cells (l : List AV)
  | map (es : List (AV × AV × Nat)) (clock : Nat)
  | dead
deriving Inhabited

/-- a tree of numbered things -/
inductive Tr (α : Type) where
  | lf
  | nd (o : Option α) (l r : Tr α)
deriving Inhabited

/-- if b then t else e, and if something then -/
noncomputable def bb {α : Type} (b : Bool) (t e : α) : α := Bool.rec e t b
noncomputable def ob {α β : Type} (x : Option α) (f : α → Option β) : Option β := Option.rec none f x

noncomputable def Tr.get {α : Type} (t : Tr α) : Nat → Option α :=
  Tr.rec (fun _ => none) (fun o _ _ gl gr i => Nat.rec o (fun j _ => Bool.rec (gr (Nat.div j 2)) (gl (Nat.div j 2)) (Nat.beq (Nat.mod j 2) 0)) i) t

noncomputable def Tr.set {α : Type} (v : α) (n : Nat) : Tr α → Nat → Tr α :=
  Nat.rec (fun t _ => t) (fun _ f t i => Tr.rec
    (Nat.rec (.nd (some v) .lf .lf) (fun j _ => Bool.rec (.nd none .lf (f .lf (Nat.div j 2))) (.nd none (f .lf (Nat.div j 2)) .lf) (Nat.beq (Nat.mod j 2) 0)) i)
    (fun o l r _ _ => Nat.rec (.nd (some v) l r) (fun j _ => Bool.rec (.nd o l (f r (Nat.div j 2))) (.nd o (f l (Nat.div j 2)) r) (Nat.beq (Nat.mod j 2) 0)) i) t) n

noncomputable def Tr.put {α : Type} (t : Tr α) (i : Nat) (v : α) : Tr α := Tr.set v (Nat.succ (Nat.log2 (Nat.succ i))) t i

/-- what is known of a type -/
inductive TK where
  | bool | int (k : IntKind) | flt (k : FloatKind) | str | ptr (e : Nat) | slice (e : Nat) | arr (n e : Nat) | map (k e : Nat) | struct (fs : List (Nat × Nat)) | func | iface | other
deriving Inhabited
structure TI where
  k : TK
  size : Nat
  bytes : Nat
  zero : AV
deriving Inhabited

abbrev Plan := List (Nat × Bool × List Nat)
structure Tab where
  tys : Tr TI
  funs : Tr Func
  meths : List (Nat × String × Nat)
  /-- types of keys: structs of numbers or strings -/
  keys : List Nat
  /-- by function, by region: the order of a region that draws; quiet or not; those behind each -/
  plan : Tr (List (Nat × Plan))
  /-- what an argument's residue is -/
  res : Int
deriving Inhabited

structure S where
  m : Tr AO
  nx : Nat
deriving Inhabited

abbrev En := Tr AV

mutual
noncomputable def absV : Value → Option AV
  | .bool b => some (.bool b)
  | .int k n => some (.int k n)
  | .float k n => some (.flt k n)
  | .string s => some (.str (s.data.toList.map (·.toNat)))
  | .pointer none => some .nilp
  | .slice none 0 0 => some .snil
  | .map none => some .mnil
  | .nilFunc => some .nilFn
  | .nilIface => some .nilI
  | .agg ⟨l⟩ => ob (absVs l) fun l => some (.agg l)
  | .tuple ⟨l⟩ => ob (absVs l) fun l => some (.tup l)
  | _ => none
noncomputable def absVs : List Value → Option (List AV)
  | [] => some []
  | v :: l => ob (absV v) fun v => ob (absVs l) fun l => some (v :: l)
end

noncomputable def tmpV (e : En) (t : Nat) : AV := Option.rec (.tup []) (fun v => v) (e.get t)

noncomputable def opd (e : En) (x : Operand) : Option AV :=
  Operand.rec (fun t => some (tmpV e t)) absV (fun _ => none) (fun f => some (.fn (.func f) [] [])) x

noncomputable def opds (e : En) : List Operand → Option (List AV)
  | [] => some []
  | x :: l => ob (opd e x) fun v => ob (opds e l) fun l => some (v :: l)

noncomputable def putT (e : En) : Option Nat → AV → En
  | none, _ => e
  | some d, v => e.put d v

/-! ### numbers -/
noncomputable def leI (a b : Int) : Bool := match a, b with
  | .ofNat a, .ofNat b => Nat.ble a b
  | .ofNat _, .negSucc _ => false
  | .negSucc _, .ofNat _ => true
  | .negSucc a, .negSucc b => Nat.ble b a
noncomputable def eqI (a b : Int) : Bool := match a, b with
  | .ofNat a, .ofNat b => Nat.beq a b
  | .negSucc a, .negSucc b => Nat.beq a b
  | _, _ => false
noncomputable def inK : IntKind → Int → Bool
  | .i64, n => leI (-9223372036854775808) n && leI n 9223372036854775807
  | .u64, n => leI 0 n && leI n 18446744073709551615
  | .u8, n => leI 0 n && leI n 255
  | .i32, n => leI (-2147483648) n && leI n 2147483647
  | .u32, n => leI 0 n && leI n 4294967295
  | _, _ => false
noncomputable def wrapK (k : IntKind) (n : Int) : Int := match inK k n with
  | true => n
  | false => k.wrap n
noncomputable def eqK : IntKind → IntKind → Bool
  | .i8, .i8 | .i16, .i16 | .i32, .i32 | .i64, .i64 | .u8, .u8 | .u16, .u16 | .u32, .u32 | .u64, .u64 => true
  | _, _ => false

noncomputable def eqNs : List Nat → List Nat → Bool
  | [], [] => true
  | a :: l, b :: m => match Nat.beq a b with
    | true => eqNs l m
    | false => false
  | _, _ => false
noncomputable def lessNs : List Nat → List Nat → Bool
  | [], [] => false
  | [], _ :: _ => true
  | _ :: _, [] => false
  | a :: l, b :: m => match Nat.blt a b with
    | true => true
    | false => match Nat.beq a b with
      | true => lessNs l m
      | false => false

/-- of pointers and of slices, one of them nil: are they the same? -/
noncomputable def sameN (k : TK) (x y : AV) : Option Bool := match k with
  | .ptr _ => match x, y with
    | .nilp, .nilp => some true
    | .nilp, .ptr _ _ => some false
    | .ptr _ _, .nilp => some false
    | _, _ => none
  | .slice _ => match x, y with
    | .snil, .snil => some true
    | .snil, .sl _ _ _ _ => some false
    | .sl _ _ _ _, .snil => some false
    | .snil, .slg _ _ _ _ _ => some false
    | .slg _ _ _ _ _, .snil => some false
    | _, _ => none
  | _ => none
/-- are two keys the same? -/
noncomputable def sameI : AV → AV → Option Bool
  | .int k a, .int k' b => match eqK k k' with
    | true => some (eqI a b)
    | false => none
  | _, _ => none
noncomputable def sameS : AV → AV → Option Bool
  | .str a, .str b => some (eqNs a b)
  | _, _ => none
noncomputable def sameL : List Bool → List AV → List AV → Option Bool
  | [], l, m => match l, m with
    | [], [] => some true
    | _, _ => none
  | c :: cs, l, m => match l, m with
    | a :: l, b :: m => ob (bb c (sameI a b) (sameS a b)) fun r => ob (sameL cs l m) fun r' => some (bb r r' false)
    | _, _ => none
noncomputable def same2 (ks : List Bool) (x y : AV) : Option Bool := match x, y with
  | .agg l, .agg m => sameL ks l m
  | _, _ => none

noncomputable def binI (op : BinOp) (k : IntKind) (a b : Int) : Option AV := match op with
  | .add => some (.int k (wrapK k (Int.add a b)))
  | .sub => some (.int k (wrapK k (Int.sub a b)))
  | .mul => some (.int k (wrapK k (Int.mul a b)))
  | .eql => some (.bool (eqI a b))
  | .neq => some (.bool (!eqI a b))
  | .leq => some (.bool (leI a b))
  | .geq => some (.bool (leI b a))
  | .lss => some (.bool (!leI b a))
  | .gtr => some (.bool (!leI a b))
  | .quo => match eqI b 0 with
    | true => none
    | false => some (.int k (wrapK k (a.tdiv b)))
  | .rem => match eqI b 0 with
    | true => none
    | false => some (.int k (a.tmod b))
  | .and => some (.int k (k.wrap ((BitVec.ofInt k.bits a &&& BitVec.ofInt k.bits b).toNat)))
  | .or => some (.int k (k.wrap ((BitVec.ofInt k.bits a ||| BitVec.ofInt k.bits b).toNat)))
  | .xor => some (.int k (k.wrap ((BitVec.ofInt k.bits a ^^^ BitVec.ofInt k.bits b).toNat)))
  | .andNot => some (.int k (k.wrap ((BitVec.ofInt k.bits a &&& ~~~ BitVec.ofInt k.bits b).toNat)))
  | _ => none
noncomputable def shiftI (op : BinOp) (k : IntKind) (a b : Int) : Option AV := match leI 0 b with
  | false => none
  | true => match op with
    | .shl => some (.int k (wrapK k (a * 2 ^ (min b.toNat k.bits))))
    | .shr => some (.int k (a.fdiv (2 ^ (min b.toNat k.bits))))
    | _ => none
noncomputable def binS (op : BinOp) (a b : List Nat) : Option AV := match op with
  | .add => bb (Nat.ble (a.length + b.length) 1000000) (some (.str (a ++ b))) none
  | .eql => some (.bool (eqNs a b))
  | .neq => some (.bool (!eqNs a b))
  | .lss => some (.bool (lessNs a b))
  | .geq => some (.bool (!lessNs a b))
  | .gtr => some (.bool (!(lessNs a b || eqNs a b)))
  | .leq => some (.bool (lessNs a b || eqNs a b))
  | _ => none
noncomputable def binO (tb : Tab) (T : Nat) (op : BinOp) (x y : AV) : Option AV := ob (tb.tys.get T) fun t => ob (sameN t.k x y) fun b => match op with
  | .eql => some (.bool b)
  | .neq => some (.bool (!b))
  | _ => none
noncomputable def isShift : BinOp → Bool
  | .shl | .shr => true
  | _ => false
/-- an argument n: n % 6, n % 6 + 6, (n % 6 + 6) % 6 -/
noncomputable def symO (tb : Tab) (op : BinOp) (j : Nat) (y : AV) : Option AV := match y with
  | .int .i64 c => match eqI c 6 with
    | true => match op, j with
      | .rem, 0 => some (.sym 1)
      | .add, 1 => some (.sym 2)
      | .rem, 2 => some (.int .i64 tb.res)
      | _, _ => none
    | false => none
  | _ => none
noncomputable def bin (tb : Tab) (T : Nat) (op : BinOp) (x y : AV) : Option AV := match x, y with
  | .sym j, y => symO tb op j y
  | .int k a, .int k' b => match isShift op with
    | true => shiftI op k a b
    | false => match eqK k k' with
      | true => binI op k a b
      | false => none
  | .str a, .str b => binS op a b
  | x, y => binO tb T op x y

noncomputable def un (op : UnOp) (x : AV) : Option AV := match op, x with
  | .not, .bool b => some (.bool (!b))
  | .neg, .int k n => some (.int k (wrapK k (0 - n)))
  | _, _ => none

/-! ### memory -/
noncomputable def S.put (s : S) (id : Nat) (o : AO) : S := ⟨s.m.put id o, s.nx⟩
noncomputable def S.push (s : S) (o : AO) : S := ⟨s.m.put s.nx o, Nat.succ s.nx⟩
noncomputable def cellsOf : AV → List AV
  | .agg l => l
  | v => [v]
noncomputable def nth {α : Type} : List α → Nat → Option α
  | [], _ => none
  | a :: l, n => match n with
    | 0 => some a
    | n + 1 => nth l n
noncomputable def takeX {α : Type} : Nat → List α → Option (List α)
  | 0, _ => some []
  | n + 1, l => match l with
    | a :: l => ob (takeX n l) fun r => some (a :: r)
    | [] => none
noncomputable def dropX {α : Type} : Nat → List α → Option (List α)
  | 0, l => some l
  | n + 1, l => match l with
    | _ :: l => dropX n l
    | [] => none
noncomputable def slcX {α : Type} (l : List α) (o n : Nat) : Option (List α) := ob (dropX o l) fun l => takeX n l
/-- us written over l from its front -/
noncomputable def overX {α : Type} : List α → List α → Option (List α)
  | us, l => match us with
    | [] => some l
    | u :: us => match l with
      | [] => none
      | _ :: l => ob (overX us l) fun r => some (u :: r)
noncomputable def putX {α : Type} (us : List α) : Nat → List α → Option (List α)
  | 0, l => overX us l
  | o + 1, l => match l with
    | a :: l => ob (putX us o l) fun r => some (a :: r)
    | [] => none
noncomputable def rep (z : List AV) : Nat → List AV
  | 0 => []
  | n + 1 => z ++ rep z n

noncomputable def S.read (s : S) (id off n : Nat) : Option (List AV) := match s.m.get id with
  | some (.cells l) => slcX l off n
  | _ => none
noncomputable def S.read1 (s : S) (id off : Nat) : Option AV := match s.m.get id with
  | some (.cells l) => nth l off
  | _ => none
noncomputable def TK.agg : TK → Bool
  | .struct _ | .arr _ _ => true
  | _ => false
noncomputable def AV.one : AV → Bool
  | .agg _ | .tup _ => false
  | _ => true
noncomputable def ones : List AV → Bool
  | [] => true
  | v :: l => match v.one with
    | true => ones l
    | false => false

noncomputable def S.write (s : S) (id off : Nat) (us : List AV) : Option S := match s.m.get id with
  | some (.cells l) => bb (ones us) (ob (putX us off l) fun l => some (s.put id (.cells l))) none
  | _ => none

section
variable (tb : Tab)

noncomputable def load (s : S) (T : Nat) (a : AV) : Option AV := match a with
  | .ptr id off => ob (tb.tys.get T) fun t => match t.k.agg with
    | true => ob (s.read id off t.size) fun l => some (.agg l)
    | false => s.read1 id off
  | _ => none

noncomputable def store (s : S) (T : Nat) (a v : AV) : Option S := match a with
  | .ptr id off => ob (tb.tys.get T) fun t => match Nat.beq (cellsOf v).length t.size with
    | true => s.write id off (cellsOf v)
    | false => none
  | _ => none

/-- parts put into cells -/
noncomputable def fills (place : Nat → Option (Nat × Nat)) : List (Nat × AV) → List AV → Option (List AV)
  | [], l => some l
  | (i, v) :: ps, l => ob (place i) fun (off, size) => match Nat.beq (cellsOf v).length size with
    | true => ob (putX (cellsOf v) off l) fun l => fills place ps l
    | false => none

noncomputable def evParts (e : En) : List (Nat × Operand) → Option (List (Nat × AV))
  | [] => some []
  | (i, x) :: l => ob (opd e x) fun v => ob (evParts e l) fun r => some ((i, v) :: r)

noncomputable def structPlace (fs : List (Nat × Nat)) (i : Nat) : Option (Nat × Nat) := ob (nth fs i) fun (off, t) => ob (tb.tys.get t) fun t => some (off, t.size)

noncomputable def asN (v : AV) : Option Nat := match v with
  | .int _ (.ofNat n) => some n
  | _ => none

noncomputable def slcLen : AV → Option Nat
  | .snil => some 0
  | .sl _ _ n _ => some n
  | .slg _ _ n _ _ => some n
  | .str s => some s.length
  | _ => none

/-- the first n * z cells of a slice -/
noncomputable def slcCells (s : S) (z n : Nat) : AV → Option (List AV)
  | .snil => match n with
    | 0 => some []
    | _ => none
  | .sl id off _ _ => s.read id off (n * z)
  | .slg id off _ _ _ => s.read id off (n * z)
  | _ => none

inductive Res where
  | val (v : AV) (s : S)
  | call (f : Nat) (args : List AV)

noncomputable def elemOf (T : Nat) : Option (Nat × TI) := ob (tb.tys.get T) fun t => match t.k with
  | .slice el => ob (tb.tys.get el) fun te => some (el, te)
  | _ => none

/-- a slice that has cells alone behind it whose number none knows, made anew -/
noncomputable def grown (s : S) (old new : List AV) (n z : Nat) : Option Res := match z with
  | 0 => none
  | z + 1 => some (.val (.slg s.nx 0 n (Nat.succ z) 0) (s.push (.cells (old ++ new))))

noncomputable def appendTo (s : S) (z k : Nat) (new : List AV) (x : AV) : Option Res := match x with
  | .snil => match k with
    | 0 => some (.val .snil s)
    | _ => grown s [] new k z
  | .sl id off n c => match Nat.ble (n + k) c with
    | true => ob (s.write id (off + n * z) new) fun s => some (.val (.sl id off (n + k) c) s)
    | false => ob (s.read id off (n * z)) fun old => grown s old new (n + k) z
  | .slg id off n z' po => match Nat.beq z z' with
    | false => none
    | true => match s.m.get id with
      | some (.cells l) => match Nat.ble (off + (n + k) * z) l.length with
        | true => ob (s.write id (off + n * z) new) fun s => some (.val (.slg id off (n + k) z po) s)
        | false => ob (slcX l off (n * z)) fun old => grown (s.put id .dead) old new (n + k) z
      | _ => none
  | _ => none
noncomputable def TK.isSlc : TK → Bool
  | .slice _ => true
  | _ => false
noncomputable def appendO (s : S) (T T1 : Nat) (x y : AV) : Option Res :=
  ob (elemOf tb T) fun p => ob (tb.tys.get T1) fun t1 => bb t1.k.isSlc (ob (slcLen y) fun k => ob (slcLen x) fun n => bb (Nat.ble ((n + k) * (p.2.bytes + 1)) 1000000) (ob (slcCells s p.2.size k y) fun new => bb (ones new) (appendTo s p.2.size k new x) none) none) none

abbrev Eq2 := AV → AV → Option Bool
/-- how keys of a type are compared -/
noncomputable def kindsK : List (Nat × Nat) → Option (List Bool)
  | [] => some []
  | f :: fs => ob (tb.tys.get f.2) fun t => ob (match t.k with | .int _ => some true | .str => some false | _ => none) fun c => ob (kindsK fs) fun r => some (c :: r)
noncomputable def keyEq (kt : Nat) : Option Eq2 := ob (tb.tys.get kt) fun t => match t.k with
  | .int _ => some sameI
  | .str => some sameS
  | .struct fs => bb (tb.keys.contains kt) (ob (kindsK tb fs) fun ks => some (same2 ks)) none
  | _ => none
noncomputable def findK (eq : Eq2) (k : AV) : List (AV × AV × Nat) → Option (Option (AV × Nat))
  | [] => some none
  | (k', v, b) :: es => ob (eq k k') fun r => match r with
    | true => some (some (v, b))
    | false => findK eq k es
noncomputable def updK (eq : Eq2) (k v : AV) (clock : Nat) : List (AV × AV × Nat) → Option (List (AV × AV × Nat) × Nat)
  | [] => some ([(k, v, clock)], Nat.succ clock)
  | (k', v', b) :: es => ob (eq k k') fun r => match r with
    | true => some ((k, v, b) :: es, clock)
    | false => ob (updK eq k v clock es) fun (r, c) => some ((k', v', b) :: r, c)
noncomputable def delK (eq : Eq2) (k : AV) : List (AV × AV × Nat) → Option (List (AV × AV × Nat))
  | [] => some []
  | (k', v', b) :: es => ob (eq k k') fun r => match r with
    | true => some es
    | false => ob (delK eq k es) fun r => some ((k', v', b) :: r)
noncomputable def setB (b : Nat) (v : AV) : List (AV × AV × Nat) → Option (List (AV × AV × Nat))
  | [] => none
  | (k', v', b') :: es => match Nat.beq b b' with
    | true => some ((k', v, b') :: es)
    | false => ob (setB b v es) fun r => some ((k', v', b') :: r)

noncomputable def TK.lenS : TK → AV → Bool
  | .str, .str _ => true
  | .slice _, .snil => true
  | .slice _, .sl _ _ _ _ => true
  | .slice _, .slg _ _ _ _ _ => true
  | _, _ => false
noncomputable def TK.isMap : TK → Bool
  | .map _ _ => true
  | _ => false
noncomputable def lenO (s : S) (T : Nat) (x : AV) : Option Res := ob (tb.tys.get T) fun t => match x with
  | .mnil => bb t.k.isMap (some (.val (.int .i64 0) s)) none
  | .map id => match s.m.get id with
    | some (.map es _) => bb t.k.isMap (some (.val (.int .i64 es.length) s)) none
    | _ => none
  | _ => bb (t.k.lenS x) (ob (slcLen x) fun n => some (.val (.int .i64 n) s)) none
noncomputable def copyO (s : S) (T : Nat) (x y : AV) : Option Res :=
  ob (elemOf tb T) fun (_, te) => ob (slcLen y) fun ny => ob (slcLen x) fun nx => ob (slcCells s te.size (Nat.min ny nx) y) fun new => match x with
    | .snil => some (.val (.int .i64 (Nat.min ny nx)) s)
    | .sl id off _ _ => ob (s.write id off new) fun s => some (.val (.int .i64 (Nat.min ny nx)) s)
    | .slg id off _ _ _ => ob (s.write id off new) fun s => some (.val (.int .i64 (Nat.min ny nx)) s)
    | _ => none
noncomputable def deleteO (s : S) (T : Nat) (m k : AV) : Option Res := ob (tb.tys.get T) fun t => match t.k, m with
  | .map kt _, .map id => match s.m.get id with
    | some (.map es c) => ob (keyEq tb kt) fun eq => ob (eq k k) fun _ => ob (delK eq k es) fun es => some (.val (.tup []) (s.put id (.map es c)))
    | _ => none
  | _, _ => none
noncomputable def maxO (x y : AV) (s : S) : Option Res := match x, y with
  | .int k a, .int _ b => some (.val (.int k (match leI b a with | true => a | false => b)) s)
  | _, _ => none
noncomputable def minO (x y : AV) (s : S) : Option Res := match x, y with
  | .int k a, .int _ b => some (.val (.int k (match leI a b with | true => a | false => b)) s)
  | _, _ => none

noncomputable def builtinO (s : S) (b : Builtin) (ts : List Nat) (args : List AV) : Option Res := match b with
  | .len => match ts, args with
    | T :: _, [x] => lenO tb s T x
    | _, _ => none
  | .append => match ts, args with
    | T :: T1 :: _, [x, y] => appendO tb s T T1 x y
    | _, _ => none
  | .max => match args with
    | [x, y] => maxO x y s
    | _ => none
  | .min => match args with
    | [x, y] => minO x y s
    | _ => none
  | .copy => match ts, args with
    | T :: _, [x, y] => copyO tb s T x y
    | _, _ => none
  | .delete => match ts, args with
    | T :: _, [m, k] => deleteO tb s T m k
    | _, _ => none
  | _ => none

noncomputable def findM (t : Nat) (nm : String) : List (Nat × String × Nat) → Option Nat
  | [] => none
  | (t', n', f) :: l => match Nat.beq t t' with
    | true => match decide (n' = nm) with
      | true => some f
      | false => findM t nm l
    | false => findM t nm l

noncomputable def optN (e : En) (d : Nat) : Option Operand → Option Nat
  | none => some d
  | some x => ob (opd e x) asN

/-- the bounds of a slice of something of length n and capacity c -/
noncomputable def bnds (e : En) (n c : Nat) (lo hi : Option Operand) : Option (Nat × Nat) :=
  ob (optN e n hi) fun h => ob (optN e 0 lo) fun l => match Nat.ble h c && Nat.ble l h with
  | true => some (l, h)
  | false => none

noncomputable def oPick (e : En) (c a b : Operand) : Option AV := ob (opd e c) fun c => match c with
  | .bool true => opd e a
  | .bool false => opd e b
  | _ => none
noncomputable def oAlloc (s : S) (T : Nat) : Option Res := ob (tb.tys.get T) fun t => some (.val (.ptr s.nx 0) (s.push (.cells (cellsOf t.zero))))
noncomputable def oBox (e : En) (s : S) (T : Nat) (x : Operand) : Option Res := ob (opd e x) fun v => some (.val (.ptr s.nx 0) (s.push (.cells (cellsOf v))))
noncomputable def oBuild (e : En) (T : Nat) (ps : Array (Nat × Operand)) : Option AV := ob (tb.tys.get T) fun t => ob (evParts e ps.toList) fun ps => match t.k with
  | .struct fs => ob (fills (structPlace tb fs) ps (cellsOf t.zero)) fun l => some (.agg l)
  | .arr _ el => ob (tb.tys.get el) fun te => ob (fills (fun i => some (i * te.size, te.size)) ps (cellsOf t.zero)) fun l => some (.agg l)
  | _ => none
noncomputable def oBuildSlice (e : En) (s : S) (T n : Nat) (ps : Array (Nat × Operand)) : Option Res := ob (elemOf tb T) fun (_, te) => ob (evParts e ps.toList) fun ps =>
  bb (Nat.ble (n * te.size) 1000000 && Nat.beq (cellsOf te.zero).length te.size) (ob (fills (fun i => some (i * te.size, te.size)) ps (rep (cellsOf te.zero) n)) fun l => some (.val (.sl s.nx 0 n n) (s.push (.cells l)))) none
noncomputable def oNilCheck (v : AV) : Option AV := match v with
  | .ptr _ _ => some v
  | .iface _ _ => some v
  | .fn (.func _) _ _ => some v
  | _ => none
noncomputable def oConvert (src dst : Nat) (v : AV) : Option AV := ob (tb.tys.get src) fun _ => ob (tb.tys.get dst) fun t => match t.k, v with
  | .int k, .int _ n => some (.int k (wrapK k n))
  | .str, .str l => some (.str l)
  | _, _ => none
noncomputable def oMakeSlice (e : En) (s : S) (T : Nat) (l c : Operand) : Option Res := ob (elemOf tb T) fun (_, te) => ob (opd e l) fun l => ob (asN l) fun l => ob (opd e c) fun c => ob (asN c) fun c =>
  match Nat.ble l c && Nat.ble (c * (te.bytes + 1)) 1000000 && Nat.beq (cellsOf te.zero).length te.size with
  | true => some (.val (.sl s.nx 0 l c) (s.push (.cells (rep (cellsOf te.zero) c))))
  | false => none
noncomputable def advance (a c off z : Nat) : Nat := match Nat.beq a c with
  | true => off
  | false => off + a * z
noncomputable def poOf (a po off : Nat) : Nat := match a with
  | 0 => po
  | _ => off
noncomputable def oSlice (e : En) (T : Nat) (x : AV) (lo hi : Option Operand) : Option AV := ob (tb.tys.get T) fun t => match t.k, x with
  | .str, .str l => ob (bnds e l.length l.length lo hi) fun (a, b) => ob (slcX l a (b - a)) fun r => some (.str r)
  | .slice el, .sl id off n c => ob (bnds e n c lo hi) fun (a, b) => ob (tb.tys.get el) fun te => some (.sl id (advance a c off te.size) (b - a) (c - a))
  | .slice el, .slg id off n z po => ob (bnds e n n lo hi) fun (a, b) => ob (tb.tys.get el) fun te => match Nat.beq te.size z with
    | true => some (.slg id (off + a * z) (b - a) z (poOf a po off))
    | false => none
  | .slice el, .snil => ob (bnds e 0 0 lo hi) fun _ => ob (tb.tys.get el) fun _ => some .snil
  | .arr n el, .ptr id off => ob (bnds e n n lo hi) fun (a, b) => ob (tb.tys.get el) fun te => some (.sl id (advance a n off te.size) (b - a) (n - a))
  | _, _ => none
noncomputable def oFieldAddr (T : Nat) (x : AV) (f : Nat) : Option AV := ob (tb.tys.get T) fun t => match t.k, x with
  | .struct fs, .ptr id off => ob (nth fs f) fun (o, ft) => ob (tb.tys.get ft) fun tf => match tf.size with
    | 0 => none
    | _ => some (.ptr id (off + o))
  | _, _ => none
noncomputable def partO (T : Nat) (l : List AV) (o : Nat) : Option AV := ob (tb.tys.get T) fun t => match t.k.agg with
  | true => ob (slcX l o t.size) fun r => some (.agg r)
  | false => nth l o
noncomputable def oField (T : Nat) (x : AV) (f : Nat) : Option AV := ob (tb.tys.get T) fun t => match t.k, x with
  | .struct fs, .agg l => ob (nth fs f) fun (o, ft) => partO tb ft l o
  | _, _ => none
noncomputable def oIndexAddr (T : Nat) (x i : AV) : Option AV := ob (asN i) fun k => ob (tb.tys.get T) fun t => match t.k, x with
  | .arr n el, .ptr id off => match Nat.blt k n with
    | true => ob (tb.tys.get el) fun te => some (.ptr id (off + k * te.size))
    | false => none
  | .slice el, .sl id off n _ => match Nat.blt k n with
    | true => ob (tb.tys.get el) fun te => some (.ptr id (off + k * te.size))
    | false => none
  | .slice el, .slg id off n z _ => match Nat.blt k n with
    | true => ob (tb.tys.get el) fun te => match Nat.beq te.size z with
      | true => some (.ptr id (off + k * z))
      | false => none
    | false => none
  | _, _ => none
noncomputable def oIndex (T : Nat) (x i : AV) : Option AV := ob (asN i) fun k => ob (tb.tys.get T) fun t => match t.k, x with
  | .str, .str l => ob (nth l k) fun c => some (.int .u8 (Int.ofNat c))
  | .arr n el, .agg l => match Nat.blt k n with
    | true => ob (tb.tys.get el) fun te => partO tb el l (k * te.size)
    | false => none
  | _, _ => none
noncomputable def oLookup (s : S) (T : Nat) (x k : AV) (ok : Bool) : Option AV := ob (tb.tys.get T) fun t => match t.k with
  | .map kt el => ob (keyEq tb kt) fun eq => ob (eq k k) fun _ =>
    ob ((match x with
      | .mnil => some none
      | .map id => match s.m.get id with
        | some (.map es _) => findK eq k es
        | _ => none
      | _ => none) : Option (Option (AV × Nat))) fun r => match r with
    | some (v, _) => some (match ok with | true => .tup [v, .bool true] | false => v)
    | none => ob (tb.tys.get el) fun te => some (match ok with | true => .tup [te.zero, .bool false] | false => te.zero)
  | _ => none
noncomputable def oMapUpdate (s : S) (T : Nat) (m k x : AV) : Option Res := ob (tb.tys.get T) fun t => match t.k, m with
  | .map kt _, .map id => match s.m.get id with
    | some (.map es c) => ob (keyEq tb kt) fun eq => ob (eq k k) fun _ => ob (updK eq k x c es) fun (r, c) => some (.val (.tup []) (s.put id (.map r c)))
    | _ => none
  | _, _ => none
noncomputable def oMapEntry (s : S) (T : Nat) (m k : AV) : Option Res := ob (tb.tys.get T) fun t => match t.k, m with
  | .map kt el, .map id => match s.m.get id with
    | some (.map es c) => ob (keyEq tb kt) fun eq => ob (eq k k) fun _ => ob (findK eq k es) fun r => match r with
      | some (v, b) => some (.val (.tup [v, .int .i64 (Int.ofNat b)]) s)
      | none => ob (tb.tys.get el) fun te => ob (updK eq k te.zero c es) fun (r, c') => some (.val (.tup [te.zero, .int .i64 (Int.ofNat c)]) (s.put id (.map r c')))
    | _ => none
  | _, _ => none
noncomputable def oEntryStore (s : S) (m b x : AV) : Option Res := match m with
  | .map id => match s.m.get id with
    | some (.map es c) => ob (asN b) fun b => ob (setB b x es) fun r => some (.val (.tup []) (s.put id (.map r c)))
    | _ => none
  | _ => none
noncomputable def oExtract (x : AV) (i : Nat) : Option AV := match x with
  | .tup l => nth l i
  | _ => none
noncomputable def oCall (e : En) (s : S) (c : Call) : Option Res := ob (opds e c.args.toList) fun args => match c.callee with
  | .builtin b => builtinO tb s b c.argTypes.toList args
  | .value f => ob (opd e f) fun f => match f with
    | .fn (.func f) a b => some (.call f (a ++ args ++ b))
    | _ => none
  | .invoke r nm => ob (opd e r) fun r => match r with
    | .iface t v => ob (findM t nm tb.meths) fun f => some (.call f (v :: args))
    | _ => none

noncomputable def pv (s : S) (v : Option AV) : Option Res := match v with
  | some v => some (.val v s)
  | none => none
noncomputable def o1 (e : En) (s : S) (x : Operand) (f : AV → Option AV) : Option Res := pv s (ob (opd e x) f)
noncomputable def o2 (e : En) (s : S) (x y : Operand) (f : AV → AV → Option AV) : Option Res := pv s (ob (opd e x) fun x => ob (opd e y) fun y => f x y)
noncomputable def oStore (e : En) (s : S) (T : Nat) (a x : Operand) : Option Res := ob (opd e a) fun a => ob (opd e x) fun x => ob (store tb s T a x) fun s => some (.val (.tup []) s)
noncomputable def o3 (e : En) (a b c : Operand) (f : AV → AV → AV → Option Res) : Option Res := ob (opd e a) fun a => ob (opd e b) fun b => ob (opd e c) fun c => f a b c

end

abbrev Q := Tab → En → S → Option Res
noncomputable def qMove (x : Operand) : Q := fun _ e s => pv s (opd e x)
noncomputable def qPick (c a b : Operand) : Q := fun _ e s => pv s (oPick e c a b)
noncomputable def qAlloc (T : Nat) : Q := fun tb _ s => oAlloc tb s T
noncomputable def qBox (T : Nat) (x : Operand) : Q := fun _ e s => oBox e s T x
noncomputable def qBuild (T : Nat) (ps : Array (Nat × Operand)) : Q := fun tb e s => pv s (oBuild tb e T ps)
noncomputable def qBuildSlice (T n : Nat) (ps : Array (Nat × Operand)) : Q := fun tb e s => oBuildSlice tb e s T n ps
noncomputable def qLoad (T : Nat) (x : Operand) : Q := fun tb e s => pv s (ob (opd e x) (load tb s T))
noncomputable def qStore (T : Nat) (a x : Operand) : Q := fun tb e s => oStore tb e s T a x
noncomputable def qNilCheck (x : Operand) : Q := fun _ e s => pv s (ob (opd e x) oNilCheck)
noncomputable def qBin (o : BinOp) (T : Nat) (x y : Operand) (_ : Nat) : Q := fun tb e s => o2 e s x y (bin tb T o)
noncomputable def qUn (o : UnOp) (_ : Nat) (x : Operand) : Q := fun _ e s => pv s (ob (opd e x) (un o))
noncomputable def qConvert (src dst : Nat) (x : Operand) : Q := fun tb e s => pv s (ob (opd e x) (oConvert tb src dst))
noncomputable def oIface (tb : Tab) (T : Nat) (v : AV) : Option AV := ob (tb.tys.get T) fun t => match t.k with
  | .iface => none
  | .other => none
  | _ => some (.iface T v)
noncomputable def qMakeInterface (T : Nat) (x : Operand) : Q := fun tb e s => pv s (ob (opd e x) (oIface tb T))
noncomputable def qMakeFunc (f : Fn) (a b : Array Operand) : Q := fun _ e s => pv s (ob (opds e a.toList) fun a => ob (opds e b.toList) fun b => some (.fn f a b))
noncomputable def qMakeMap (_ : Nat) (r : Option Operand) : Q := fun _ _ s => Option.rec (some (.val (.map s.nx) (s.push (.map [] 0)))) (fun _ => none) r
noncomputable def qMakeSlice (T : Nat) (l c : Operand) : Q := fun tb e s => oMakeSlice tb e s T l c
noncomputable def qSlice (T : Nat) (x : Operand) (lo hi mx : Option Operand) : Q := fun tb e s => Option.rec (pv s (ob (opd e x) fun x => oSlice tb e T x lo hi)) (fun _ => none) mx
noncomputable def qFieldAddr (T : Nat) (x : Operand) (f : Nat) : Q := fun tb e s => pv s (ob (opd e x) fun x => oFieldAddr tb T x f)
noncomputable def qField (T : Nat) (x : Operand) (f : Nat) : Q := fun tb e s => pv s (ob (opd e x) fun x => oField tb T x f)
noncomputable def qIndexAddr (T : Nat) (x i : Operand) : Q := fun tb e s => o2 e s x i (oIndexAddr tb T)
noncomputable def qIndex (T : Nat) (x i : Operand) : Q := fun tb e s => o2 e s x i (oIndex tb T)
noncomputable def qLookup (T : Nat) (x i : Operand) (ok : Bool) : Q := fun tb e s => o2 e s x i fun x i => oLookup tb s T x i ok
noncomputable def qMapUpdate (T : Nat) (m k x : Operand) : Q := fun tb e s => o3 e m k x (oMapUpdate tb s T)
noncomputable def qMapEntry (T : Nat) (m k : Operand) : Q := fun tb e s => ob (opd e m) fun m => ob (opd e k) fun k => oMapEntry tb s T m k
noncomputable def qEntryStore (_ : Nat) (m b x : Operand) : Q := fun _ e s => o3 e m b x (oEntryStore s)
noncomputable def qExtract (x : Operand) (i : Nat) : Q := fun _ e s => pv s (ob (opd e x) fun x => oExtract x i)
noncomputable def qCall (c : Call) : Q := fun tb e s => oCall tb e s c
noncomputable def qNone : Q := fun _ _ _ => none

noncomputable def exQ (op : Op) : Q :=
  Op.rec qMove qMove qPick qAlloc qBox qBuild qBuildSlice (fun _ _ _ _ => qNone) qLoad qStore (fun _ => qNone) (fun _ => qNone) qNilCheck qBin qUn qConvert
    (fun _ _ => qNone) qMakeInterface qMakeFunc qMakeMap (fun _ _ => qNone) qMakeSlice qSlice qFieldAddr qField qIndexAddr qIndex qLookup qMapUpdate qMapEntry qEntryStore
    (fun _ _ => qNone) (fun _ _ => qNone) (fun _ => qNone) (fun _ _ _ _ => qNone) qExtract qCall (fun _ => qNone) (fun _ => qNone) (fun _ => qNone) (fun _ _ => qNone) (fun _ _ _ => qNone) (fun _ _ => qNone) op
noncomputable def exOp (tb : Tab) (e : En) (s : S) (op : Op) : Option Res := exQ op tb e s

/-! ### code -/
inductive Ex where
  | nrm | ret | exit (id : Nat)

noncomputable def envOf : Nat → List AV → En → En
  | _, [], e => e
  | i, v :: l, e => envOf (Nat.succ i) l (e.put i v)

noncomputable def resV (tb : Tab) (e : En) (s : S) : ResultVar → Option AV
  | .tmp t => some (tmpV e t)
  | .cell c T => load tb s T (tmpV e c)
noncomputable def resVs (tb : Tab) (e : En) (s : S) : List ResultVar → Option (List AV)
  | [] => some []
  | r :: l => ob (resV tb e s r) fun v => ob (resVs tb e s l) fun l => some (v :: l)

/-- does an operation's guard let it through? -/
noncomputable def wantedO (ops : List Oper) (e : En) (g : Option (Nat × Bool)) : Option Bool := match g with
  | none => some true
  | some (j, w) => ob (nth ops j) fun oj => match oj.dst with
    | none => none
    | some d => match tmpV e d with
      | .bool true => some w
      | .bool false => some (!w)
      | _ => some false

mutual
noncomputable def eqV : AV → AV → Bool
  | .bool a, .bool b => a == b
  | .int j a, .int k b => eqK j k && eqI a b
  | .str a, .str b => eqNs a b
  | .nilp, .nilp => true
  | .ptr a b, .ptr c d => Nat.beq a c && Nat.beq b d
  | .snil, .snil => true
  | .sl a b c d, .sl a' b' c' d' => Nat.beq a a' && Nat.beq b b' && Nat.beq c c' && Nat.beq d d'
  | .slg a b c d f, .slg a' b' c' d' f' => Nat.beq a a' && Nat.beq b b' && Nat.beq c c' && Nat.beq d d' && Nat.beq f f'
  | .mnil, .mnil => true
  | .map a, .map b => Nat.beq a b
  | .nilFn, .nilFn => true
  | .nilI, .nilI => true
  | .agg l, .agg m => eqVs l m
  | .tup l, .tup m => eqVs l m
  | _, _ => false
noncomputable def eqVs : List AV → List AV → Bool
  | [], [] => true
  | a :: l, b :: m => eqV a b && eqVs l m
  | _, _ => false
end

/-- does a quiet operation read memory? -/
noncomputable def readsMem : Op → Option Bool
  | .load _ _ => some true
  | .lookup .. => some true
  | .move _ | .assign _ | .pick .. | .nilCheck _ | .binOp .. | .unOp .. | .convert .. | .fieldAddr .. | .indexAddr .. | .index .. | .build .. | .makeInterface .. | .extract .. | .makeFunc .. | .slice .. | .field .. => some false
  | .call c => match c.callee with
    | .builtin .len => some true
    | .builtin .max => some false
    | .builtin .min => some false
    | _ => none
  | _ => none

structure Kp where
  o : Op
  e : En
  v : AV
  Z : List Nat

/-- those that were taken before they had to be: would they still yield what they yielded? -/
noncomputable def keepsOk (tb : Tab) (s : S) (j : Nat) : List Kp → Bool
  | [] => true
  | k :: l => match k.Z.contains j with
    | true => keepsOk tb s j l
    | false => match exOp tb k.e s k.o with
      | some (.val v' _) => match eqV k.v v' with
        | true => keepsOk tb s j l
        | false => false
      | _ => false

abbrev CallR := Nat → List AV → S → Option (AV × S)
abbrev LoopR := Nat → Code → En → S → Option (Ex × En × S)

structure Cfg where
  tb : Tab
  f : Nat
  call : CallR
  loop : LoopR

noncomputable def exR (call : CallR) (s : S) (r : Option Res) : Option (AV × S) := ob r fun r => Res.rec (fun v s => some (v, s)) (fun f args => call f args s) r

/-- one operation of a region: its guard, itself, what it yields -/
noncomputable def exO1 (c : Cfg) (ops : List Oper) (o : Oper) (e : En) (s : S) : Option (En × S) :=
  ob (wantedO ops e o.guard) fun b => Bool.rec (some (putT e o.dst (.tup []), s)) (ob (exR c.call s (exOp c.tb e s o.op)) fun r => some (putT e o.dst r.1, r.2)) b

noncomputable def exL (c : Cfg) (ops : List Oper) (l : List Oper) : En → S → Option (En × S) :=
  List.rec (fun e s => some (e, s)) (fun o _ k e s => ob (exO1 c ops o e s) fun r => k r.1 r.2) l

/-- could these make their blocks now? -/
noncomputable def mayFloat (tb : Tab) (ops : List Oper) (ks : List Kp) (e : En) (s : S) : List Nat → Bool
  | [] => true
  | j :: l => match keepsOk tb s j ks with
    | false => false
    | true => match nth ops j with
      | none => false
      | some o => match exOp tb e s o.op with
        | some (.val _ _) => mayFloat tb ops ks e s l
        | _ => false
noncomputable def exM (c : Cfg) (ops : List Oper) (p : Plan) : List Kp → En → S → Option (En × S) :=
  List.rec (fun _ e s => some (e, s)) (fun q _ k ks e s => ob (nth ops q.1) fun o => ob (wantedO ops e o.guard) fun b => bb (Bool.rec (mayFloat c.tb ops ks e s q.2.2) true q.2.1) (Bool.rec (k ks (putT e o.dst (.tup [])) s)
    (Bool.rec
      (ob (exR c.call s (exOp c.tb e s o.op)) fun r => bb (keepsOk c.tb r.2 q.1 ks) (k ks (putT e o.dst r.1) r.2) none)
      (ob (readsMem o.op) fun m => ob (exOp c.tb e s o.op) fun r => Res.rec (fun v _ => k (Bool.rec ks (⟨o.op, e, v, q.2.2⟩ :: ks) m) (putT e o.dst v) s) (fun _ _ => none) r)
      q.2.1) b) none) p

noncomputable def lookP (id : Nat) (l : List (Nat × Plan)) : Option Plan := List.rec none (fun p _ k => bb (Nat.beq p.1 id) (some p.2) k) l

abbrev CO := Cfg → En → S → Option (Ex × En × S)
noncomputable def thenE (r : Option (Ex × En × S)) (k : En → S → Option (Ex × En × S)) : Option (Ex × En × S) :=
  ob r fun r => Ex.rec (k r.2.1 r.2.2) (some r) (fun _ => some r) r.1
noncomputable def blockE (id : Nat) (r : Option (Ex × En × S)) : Option (Ex × En × S) :=
  ob r fun r => Ex.rec (some r) (some r) (fun j => bb (Nat.beq j id) (some (.nrm, r.2)) (some r)) r.1
noncomputable def condE (b : Option AV) (t e : Option (Ex × En × S)) : Option (Ex × En × S) := match b with
  | some (.bool b) => bb b t e
  | _ => none
noncomputable def xSeq (_ _ : Code) (a b : CO) : CO := fun c e s => thenE (a c e s) fun e s => b c e s
noncomputable def xCond (o : Operand) (_ _ : Code) (a b : CO) : CO := fun c e s => condE (opd e o) (a c e s) (b c e s)
noncomputable def xBlock (id : Nat) (_ : Code) (a : CO) : CO := fun c e s => blockE id (a c e s)
noncomputable def xLoop (b : Code) (a : CO) : CO := fun c e s => thenE (a c e s) fun e s => c.loop c.f b e s
noncomputable def xRegion (id : Nat) (ops : Array Oper) (d : Bool) : CO := fun c e s =>
  Bool.rec (ob (exL c ops.toList ops.toList e s) fun r => some (.nrm, r))
    (ob (c.tb.plan.get c.f) fun ps => ob (lookP id ps) fun p => ob (exM c ops.toList p [] e s) fun r => some (.nrm, r)) d
noncomputable def xNone : CO := fun _ _ _ => none
noncomputable def exC (c : Code) : CO :=
  Code.rec (fun _ e s => some (.nrm, e, s)) xRegion xSeq xCond xBlock xLoop (fun _ _ _ _ _ _ => xNone) (fun id _ e s => some (.exit id, e, s)) (fun _ _ => xNone) (fun _ => xNone) (fun _ => xNone)
    (fun _ e s => some (.ret, e, s)) (fun _ => xNone) c

noncomputable def ends (tb : Tab) (fn : Func) (r : Option (Ex × En × S)) : Option (AV × S) := ob r fun r =>
  bb (Ex.rec true true (fun _ => false) r.1) (ob (resVs tb r.2.1 r.2.2 fn.results.toList) fun vs => match vs with
      | [v] => some (v, r.2.2)
      | l => some (.tup l, r.2.2)) none
noncomputable def exF (tb : Tab) (call : CallR) (loop : LoopR) (f : Nat) (args : List AV) (s : S) : Option (AV × S) :=
  ob (tb.funs.get f) fun fn => ob fn.body fun c => ends tb fn (exC c ⟨tb, f, call, loop⟩ (envOf 0 args .lf) s)
noncomputable def again (tb : Tab) (call : CallR) (loop : LoopR) (f : Nat) (b : Code) (e : En) (s : S) : Option (Ex × En × S) :=
  thenE (exC b ⟨tb, f, call, loop⟩ e s) fun e s => loop f b e s

structure Rec where
  call : CallR
  loop : LoopR
noncomputable def run (tb : Tab) (n : Nat) : Rec := Nat.rec ⟨fun _ _ _ => none, fun _ _ _ _ => none⟩ (fun _ r => ⟨exF tb r.call r.loop, again tb r.call r.loop⟩) n
end Go.Rk
