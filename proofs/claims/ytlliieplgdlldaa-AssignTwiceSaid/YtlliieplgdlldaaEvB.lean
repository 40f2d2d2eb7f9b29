/- The evaluator's own form of the model's code (types resolved), and the evaluator over abstract values.
   Conditions: none; definitions alone. -/
import Derived.Test.YtlliieplgdlldaaEvA
namespace Go.Ev

/-! ### what is written into memory bears no token of a growing row -/
def V.strip1 : V → V
  | .sl cs len _ => .sl cs len .none
  | v => v
def V.strip2 : V → V
  | .agg cs => .agg (cs.map V.strip1)
  | v => v.strip1
def V.strip : V → V
  | .tup vs => .tup (vs.map V.strip2)
  | v => v.strip2

/-! ### no reference to an abstract block from n on -/
mutual
def V.closed (n : Nat) : V → Bool
  | .lit _ => true
  | .fn _ fs cs => V.closedL n fs && V.closedL n cs
  | .imm cs => V.closedL n cs
  | .ref b _ => decide (b < n)
  | .sl cs _ own => (match own with | .tok t _ => decide (t < n) | _ => true) && V.closedL n cs
  | .msl b _ _ _ _ => decide (b < n)
  | .map b => decide (b < n)
  | .iface _ v => V.closed n v
  | .agg cs => V.closedL n cs
  | .tup vs => V.closedL n vs
def V.closedL (n : Nat) : List V → Bool
  | [] => true
  | v :: vs => V.closed n v && V.closedL n vs
end
def closedEs (n : Nat) : List (V × V) → Bool
  | [] => true
  | e :: es => e.1.closed n && e.2.closed n && closedEs n es
def ABlk.closed (n : Nat) : ABlk → Bool
  | .dead => true
  | .cells cs => V.closedL n cs
  | .row _ => true
  | .map es => closedEs n es

/-! ### the frame -/
abbrev Tm := List (Nat × V)
def Tm.get : Tm → Nat → Option V
  | [], _ => none
  | p :: r, t => if p.1 = t then some p.2 else Tm.get r t
def Tm.set : Tm → Nat → V → Tm
  | [], t, v => [(t, v)]
  | p :: r, t, v => if p.1 = t then (t, v) :: r else p :: Tm.set r t v
def Tm.keep : List Nat → Tm → Tm
  | [], _ => []
  | t :: l, T => match T.get t with
    | some v => (t, v) :: Tm.keep l T
    | none => Tm.keep l T
def Tm.init : Nat → List V → Tm
  | _, [] => []
  | i, v :: vs => (i, v) :: Tm.init (i + 1) vs

inductive Opd where
  | t (n : Nat)
  | c (v : V)
  | f (n : FuncId)
deriving Inhabited
def Opd.ev (T : Tm) : Opd → Option V
  | .t n => T.get n
  | .c v => some v
  | .f n => some (.fn n [] [])
def evs (T : Tm) : List Opd → Option (List V)
  | [] => some []
  | o :: os => match o.ev T with
    | some v => match evs T os with
      | some vs => some (v :: vs)
      | none => none
    | none => none

inductive LitC where
  | int | str | bool
deriving DecidableEq, Inhabited

inductive LenC where
  | str | slice | map
deriving DecidableEq, Inhabited

inductive EqC where
  | bool | slice | ptr | func | map | iface
deriving DecidableEq, Inhabited

inductive O where
  | mov (x : Opd)
  | pick (c a b : Opd)
  | alloc (z : List V)
  | box (imm : Bool) (x : Opd)
  | build (z : List V) (ps : List (Nat × Nat × Opd))
  | buildSl (mut_ : Bool) (len size : Nat) (z : List V) (ps : List (Nat × Nat × Opd))
  | load (n : Option Nat) (x : Opd)
  | store (n : Nat) (a x : Opd)
  | nilChk (x : Opd)
  | bin (op : BinOp) (x y : Opd)
  | eq (neg : Bool) (c : EqC) (x y : Opd)
  | not (x : Opd)
  | neg (x : Opd)
  | conv (k : IntKind) (x : Opd)
  | mkFn (f : FuncId) (first caps : List Opd)
  | mkMap
  | mkSl (size bytes : Nat) (z : List V) (l c : Opd)
  | fAddr (off : Nat) (x : Opd)
  | fld (off : Nat) (n : Option Nat) (x : Opd)
  | iAddr (size : Nat) (x i : Opd)
  | iAddrA (len size : Nat) (x i : Opd)
  | idxA (len size : Nat) (n : Option Nat) (x i : Opd)
  | idxS (x i : Opd)
  | sl (size : Nat) (x : Opd) (lo hi mx : Option Opd)
  | slS (x : Opd) (lo hi : Option Opd)
  | look (kc : LitC) (z : V) (x i : Opd) (ok : Bool)
  | mapUpd (kc : LitC) (m k v : Opd)
  | ext (x : Opd) (i : Nat)
  | call (f : FuncId) (args : List Opd)
  | callv (x : Opd) (args : List Opd)
  | app (mut_ : Bool) (size bytes : Nat) (x y : Opd)
  | len (c : LenC) (x : Opd)
  | mm (max : Bool) (xs : List Opd)
  | clr (size : Nat) (z : List V) (x : Opd)
deriving Inhabited

structure Ins where
  dst : Option Nat
  op : O
  guard : Option (Nat × Bool)
deriving Inhabited

inductive I where
  | skip
  | reg (ops : List Ins) (keep : List Nat)
  | draw (ops : List Ins) (head : Nat) (imp : List Nat) (keep : List Nat)
  | drawA (ops : List Ins) (head : Nat) (al : List Nat) (keep : List Nat)
  | drawC (ops : List Ins) (ch : List Nat) (keep : List Nat)
  | seq (a b : I)
  | cond (c : Opd) (a b : I)
  | block (id : Nat) (a : I)
  | loop (a : I)
  | scope (a : I)
  | exit (id : Nat)
  | ret
  | frz (t : Nat) (a : I)
  | frzA (a : I) (t : Nat)
deriving Inhabited

inductive ResV where
  | tmp (t : Nat)
  | cell (t : Nat) (n : Option Nat)
deriving Inhabited

structure FI where
  params : Nat
  ntmps : Nat
  body : I
  res : List ResV
  keepTok : Bool

inductive Ex where
  | normal
  | exit (id : Nat)
  | ret
deriving DecidableEq, Inhabited

/-! ### operations that ask nothing of memory that may be written -/
def shiftI (op : BinOp) (k : IntKind) (a b : Int) : Option Value :=
  if b < 0 then none else
  let n := min b.toNat k.bits
  match op with
  | .shl => some (.int k (k.wrap (a * 2 ^ n)))
  | .shr => some (.int k (a.fdiv (2 ^ n)))
  | _ => none

def bitsI (op : BinOp) (k : IntKind) (x y : Int) : Option Value :=
  let a := BitVec.ofInt k.bits x
  let b := BitVec.ofInt k.bits y
  match op with
  | .and => some (.int k (k.wrap (a &&& b).toNat))
  | .or => some (.int k (k.wrap (a ||| b).toNat))
  | .xor => some (.int k (k.wrap (a ^^^ b).toNat))
  | .andNot => some (.int k (k.wrap (a &&& ~~~b).toNat))
  | _ => none

def binI (op : BinOp) (k : IntKind) (a b : Int) : Option Value :=
  match op with
  | .add => some (.int k (k.wrap (a + b)))
  | .sub => some (.int k (k.wrap (a - b)))
  | .mul => some (.int k (k.wrap (a * b)))
  | .quo => if b = 0 then none else some (.int k (k.wrap (a.tdiv b)))
  | .rem => if b = 0 then none else some (.int k (a.tmod b))
  | .eql => some (.bool (a == b))
  | .neq => some (.bool (a != b))
  | .lss => some (.bool (decide (a < b)))
  | .leq => some (.bool (decide (a ≤ b)))
  | .gtr => some (.bool (decide (a > b)))
  | .geq => some (.bool (decide (a ≥ b)))
  | .and | .or | .xor | .andNot => bitsI op k a b
  | .shl | .shr => none

def lessB : List UInt8 → List UInt8 → Bool
  | _, [] => false
  | [], _ :: _ => true
  | a :: x, b :: y => decide (a < b) || (a == b && lessB x y)

def binS (op : BinOp) (x y : ByteArray) : Option Value :=
  match op with
  | .add => if x.size + y.size ≤ 9223372036854775807 then some (.string (x ++ y)) else none
  | .eql => some (.bool (x.data.toList == y.data.toList))
  | .neq => some (.bool (!(x.data.toList == y.data.toList)))
  | .lss => some (.bool (lessB x.data.toList y.data.toList))
  | .leq => some (.bool (lessB x.data.toList y.data.toList || x.data.toList == y.data.toList))
  | .gtr => some (.bool (!(lessB x.data.toList y.data.toList || x.data.toList == y.data.toList)))
  | .geq => some (.bool (!lessB x.data.toList y.data.toList))
  | _ => none

def binV (op : BinOp) : V → V → Option V
  | .lit (.int k a), .lit (.int k' b) =>
    if op = .shl ∨ op = .shr then (shiftI op k a b).map V.lit
    else if k = k' then (binI op k a b).map V.lit else none
  | .lit (.string a), .lit (.string b) => (binS op a b).map V.lit
  | _, _ => none

def nilOf : EqC → Value
  | .slice => .slice .none 0 0
  | .ptr => .pointer .none
  | .func => .nilFunc
  | .map => .map .none
  | .iface => .nilIface
  | .bool => .bool false
def nilLit : EqC → Value → Bool
  | .slice, .slice .none 0 0 => true
  | .ptr, .pointer .none => true
  | .func, .nilFunc => true
  | .map, .map .none => true
  | .iface, .nilIface => true
  | _, _ => false
def isNil (c : EqC) : V → Option Bool
  | .lit v => if nilLit c v then some true else none
  | .sl _ _ _ => if c = .slice then some false else none
  | .msl _ _ _ _ _ => if c = .slice then some false else none
  | .imm _ => if c = .ptr then some false else none
  | .ref _ _ => if c = .ptr then some false else none
  | .fn _ _ _ => if c = .func then some false else none
  | .map _ => if c = .map then some false else none
  | .iface _ _ => if c = .iface then some false else none
  | _ => none

/-- y is nil (but for bools) -/
def eqV (c : EqC) : V → V → Option Bool
  | .lit (.bool a), .lit (.bool b) => if c = .bool then some (a == b) else none
  | x, y => match isNil c y with
    | some true => isNil c x
    | _ => none

def fillV : List V → List (Nat × Nat × V) → Option (List V)
  | cs, [] => some cs
  | cs, (off, size, v) :: r => if v.cells.length = size ∧ off + size ≤ cs.length ∧ v.cells.all V.isCell = true then fillV (cs.take off ++ v.cells ++ cs.drop (off + size)) r else none

def evps (T : Tm) : List (Nat × Nat × Opd) → Option (List (Nat × Nat × V))
  | [] => some []
  | (a, b, o) :: os => match o.ev T with
    | some v => match evps T os with
      | some vs => some ((a, b, v) :: vs)
      | none => none
    | none => none

def rept : Nat → List V → List V
  | 0, _ => []
  | n + 1, z => z ++ rept n z

def partV (cs : List V) (off : Nat) : Option Nat → Option V
  | none => cs[off]?
  | some n => if off + n ≤ cs.length then some (.agg ((cs.drop off).take n)) else none

def asNat : V → Option Nat
  | .lit (.int _ i) => if 0 ≤ i then some i.toNat else none
  | _ => none

/-- bounds of a slice expression within what is known: low ≤ high ≤ len, or the third index as well -/
def bnd (T : Tm) (len : Nat) (lo hi mx : Option Opd) : Option (Nat × Nat × Option Nat) :=
  match (match mx with | none => some none | some o => match o.ev T with | some v => (asNat v).map some | none => none) with
  | none => none
  | some m =>
    match (match hi with | none => if m = none then some len else none | some o => match o.ev T with | some v => asNat v | none => none) with
    | none => none
    | some h =>
      match (match lo with | none => some 0 | some o => match o.ev T with | some v => asNat v | none => none) with
      | none => none
      | some l => if l ≤ h ∧ h ≤ len ∧ (match m with | none => true | some m => decide (h ≤ m ∧ m ≤ len)) = true then some (l, h, m) else none

def mmI (mx : Bool) : V → List V → Option V
  | v, [] => some v
  | .lit (.int k x), .lit (.int k' y) :: r => if k = k' then mmI mx (.lit (.int k (if mx then (if y > x then y else x) else (if y < x then y else x)))) r else none
  | _, _ => none

def boxable (v : V) : Bool := match v with | .tup _ => false | _ => true

def evP (T : Tm) : O → Option V
  | .mov x => x.ev T
  | .pick c a b => match c.ev T with
    | some (.lit (.bool true)) => a.ev T
    | some (.lit (.bool false)) => b.ev T
    | _ => none
  | .box true x => match x.ev T with
    | some v => if boxable v then some (.imm (v.strip2.cells)) else none
    | none => none
  | .build z ps => match evps T ps with
    | some ps => match fillV z ps with
      | some cs => some (.agg cs)
      | none => none
    | none => none
  | .buildSl false len size z ps => match evps T ps with
    | some ps => match fillV (rept len z) ps with
      | some cs => if cs.length = len * size then some (.sl (cs.map V.strip1) len (.cap len)) else none
      | none => none
    | none => none
  | .load n x => match x.ev T with
    | some (.imm cs) => partV cs 0 n
    | _ => none
  | .nilChk x => match x.ev T with
    | some (.imm cs) => some (.imm cs)
    | some (.ref b o) => some (.ref b o)
    | some (.fn f a b) => some (.fn f a b)
    | _ => none
  | .bin op x y => match x.ev T, y.ev T with
    | some a, some b => binV op a b
    | _, _ => none
  | .eq ng c x y => match x.ev T, y.ev T with
    | some a, some b => match eqV c a b with
      | some r => some (.lit (.bool (if ng then !r else r)))
      | none => none
    | _, _ => none
  | .not x => match x.ev T with
    | some (.lit (.bool b)) => some (.lit (.bool (!b)))
    | _ => none
  | .neg x => match x.ev T with
    | some (.lit (.int k n)) => some (.lit (.int k (k.wrap (0 - n))))
    | _ => none
  | .conv k x => match x.ev T with
    | some (.lit (.int _ n)) => some (.lit (.int k (k.wrap n)))
    | _ => none
  | .mkFn f a b => match evs T a, evs T b with
    | some a, some b => some (.fn f a b)
    | _, _ => none
  | .fAddr off x => match x.ev T with
    | some (.imm cs) => if off ≤ cs.length then some (.imm (cs.drop off)) else none
    | some (.ref b o) => some (.ref b (o + off))
    | _ => none
  | .fld off n x => match x.ev T with
    | some (.agg cs) => partV cs off n
    | _ => none
  | .iAddr size x i => match x.ev T, i.ev T with
    | some (.sl cs len _), some (.lit (.int _ i)) => if 0 ≤ i ∧ i < (len : Int) then some (.imm (cs.drop (i.toNat * size))) else none
    | some (.msl b off len _ _), some (.lit (.int _ i)) => if 0 ≤ i ∧ i < (len : Int) then some (.ref b (off + i.toNat * size)) else none
    | _, _ => none
  | .iAddrA len size x i => match x.ev T, i.ev T with
    | some (.imm cs), some (.lit (.int _ i)) => if 0 ≤ i ∧ i < (len : Int) then some (.imm (cs.drop (i.toNat * size))) else none
    | some (.ref b off), some (.lit (.int _ i)) => if 0 ≤ i ∧ i < (len : Int) then some (.ref b (off + i.toNat * size)) else none
    | _, _ => none
  | .idxA len size n x i => match x.ev T, i.ev T with
    | some (.agg cs), some (.lit (.int _ i)) => if 0 ≤ i ∧ i < (len : Int) then partV cs (i.toNat * size) n else none
    | _, _ => none
  | .idxS x i => match x.ev T, i.ev T with
    | some (.lit (.string s)), some (.lit (.int _ i)) => if 0 ≤ i then (match s.data.toList[i.toNat]? with | some b => some (.lit (.int .u8 b.toNat)) | none => none) else none
    | _, _ => none
  | .sl size x lo hi mx => match x.ev T with
    | some (.sl cs len _) => match bnd T len lo hi mx with
      | some (l, h, m) => some (.sl ((cs.drop (l * size)).take ((h - l) * size)) (h - l) (match m with | none => .none | some m => .cap (m - l)))
      | none => none
    | some (.msl b off len esz cap) => match bnd T len lo hi mx with
      | some (l, h, m) => if l < h ∧ esz = size then some (.msl b (off + l * size) (h - l) esz (match m with | none => cap.map (· - l) | some m => some (m - l))) else none
      | none => none
    | some (.lit (.slice .none 0 0)) => match bnd T 0 lo hi mx with
      | some (0, 0, _) => some (.lit (.slice .none 0 0))
      | _ => none
    | _ => none
  | .slS x lo hi => match x.ev T with
    | some (.lit (.string s)) => match bnd T s.size lo hi none with
      | some (l, h, _) => some (.lit (.string (s.extract l h)))
      | none => none
    | _ => none
  | .ext x i => match x.ev T with
    | some (.tup vs) => vs[i]?
    | _ => none
  | .len .str x => match x.ev T with
    | some (.lit (.string s)) => some (.lit (.int .i64 s.size))
    | _ => none
  | .len .slice x => match x.ev T with
    | some (.sl _ n _) => some (.lit (.int .i64 n))
    | some (.msl _ _ n _ _) => some (.lit (.int .i64 n))
    | some (.lit (.slice .none 0 0)) => some (.lit (.int .i64 0))
    | _ => none
  | .mm mx xs => match evs T xs with
    | some (v :: vs) => mmI mx v vs
    | _ => none
  | _ => none

/-! ### operations on the abstract heap -/
def insN (b : Nat) (l : List Nat) : List Nat := if l.contains b then l else b :: l
def Heap.write (H : Heap) (b : Nat) (x : ABlk) : Heap := ⟨H.blks.set b x, insN b H.wr⟩
def Heap.push (H : Heap) (x : ABlk) : Heap := ⟨H.blks ++ [x], H.wr⟩

def splice (cs : List V) (off : Nat) (vs : List V) : List V := cs.take off ++ vs ++ cs.drop (off + vs.length)

def litEq (kc : LitC) : V → V → Option Bool
  | .lit (.int k a), .lit (.int k' b) => if kc = .int ∧ k = k' then some (a == b) else none
  | .lit (.string a), .lit (.string b) => if kc = .str then some (a.data.toList == b.data.toList) else none
  | .lit (.bool a), .lit (.bool b) => if kc = .bool then some (a == b) else none
  | _, _ => none

def isLit : V → Bool
  | .lit _ => true
  | _ => false

def findE (kc : LitC) (k : V) : List (V × V) → Option (Option V)
  | [] => some none
  | e :: es => match litEq kc k e.1 with
    | some true => some (some e.2)
    | some false => findE kc k es
    | none => none
def updE (kc : LitC) (k v : V) : List (V × V) → Option (List (V × V))
  | [] => some [(k, v)]
  | e :: es => match litEq kc k e.1 with
    | some true => some ((k, v) :: es)
    | some false => match updE kc k v es with
      | some es' => some (e :: es')
      | none => none
    | none => none

/-- the cells that append takes from its second argument, and their number -/
def srcCells (bs : List ABlk) (size : Nat) : V → Option (List V × Nat)
  | .lit (.slice .none 0 0) => some ([], 0)
  | .sl cs len _ => if len * size ≤ cs.length then some (cs.take (len * size), len) else none
  | .msl b off len _ _ => match bs[b]? with
    | some (.cells cs) => if off + len * size ≤ cs.length then some ((cs.drop off).take (len * size), len) else none
    | _ => none
  | _ => none

def appV (H : Heap) (mut_ : Bool) (size bytes : Nat) (x y : V) : Option (V × Option Heap) :=
  match srcCells H.blks size y with
  | none => none
  | some (new, n) =>
    if n = 0 then (match x with | .lit (.slice .none 0 0) | .sl _ _ _ | .msl _ _ _ _ _ => some (x, none) | _ => none)
    else
      let mk (cs : List V) (len : Nat) (H : Heap) : Option (V × Option Heap) :=
        if (len + n) * bytes ≤ 140737488355328 ∧ len + n ≤ 140737488355328 ∧ cs.length = len * size then
          if mut_ then some (.msl H.blks.length 0 (len + n) size none, some (H.push (.cells (cs ++ new))))
          else some (.sl (cs ++ new.map V.strip1) (len + n) (.tok H.blks.length size), some (H.push (.row ((len + n) * size))))
        else none
      match x with
      | .lit (.slice .none 0 0) => mk [] 0 H
      | .sl cs len (.cap c) => if c < len + n then mk cs len H else none
      | .sl cs len (.tok t esz) =>
        if mut_ = false ∧ esz = size ∧ (match H.blks[t]? with | some (.row m) => decide (m = len * size) | _ => false) = true then mk cs len (H.write t .dead) else none
      | .msl b off len esz _ =>
        if mut_ = true ∧ esz = size ∧ off = 0 then (match H.blks[b]? with
          | some (.cells cs) => mk cs len (H.write b .dead)
          | _ => none) else none
      | _ => none

/-- operations that make a new block: what stands for it, by its number, and what it holds -/
def allocB (T : Tm) : O → Option ((Nat → V) × ABlk)
  | .alloc z => some (fun n => .ref n 0, .cells z)
  | .box false x => match x.ev T with
    | some v => if boxable v then some (fun n => .ref n 0, .cells v.cells) else none
    | none => none
  | .buildSl true len size z ps => match evps T ps with
    | some ps => match fillV (rept len z) ps with
      | some cs => if cs.length = len * size then some (fun n => .msl n 0 len size (some len), .cells cs) else none
      | none => none
    | none => none
  | .mkMap => some (fun n => .map n, .map [])
  | .mkSl size bytes z l c => match l.ev T, c.ev T with
    | some (.lit (.int .i64 l)), some (.lit (.int .i64 c)) =>
      if 0 ≤ l ∧ l ≤ c ∧ c * bytes ≤ 140737488355328 ∧ c ≤ 140737488355328 ∧ z.length = size then some (fun n => .msl n 0 l.toNat size (some c.toNat), .cells (rept c.toNat z)) else none
    | _, _ => none
  | _ => none

def evH (T : Tm) (H : Heap) : O → Option (V × Option Heap)
  | .load n x => match x.ev T with
    | some (.ref b off) => match H.blks[b]? with
      | some (.cells cs) => match partV cs off n with
        | some v => some (v, none)
        | none => none
      | _ => none
    | _ => none
  | .store n a x => match a.ev T, x.ev T with
    | some (.ref b off), some v => match H.blks[b]? with
      | some (.cells cs) => if v.cells.length = n ∧ off + n ≤ cs.length ∧ boxable v = true then some (.tup [], some (H.write b (.cells (splice cs off v.cells)))) else none
      | _ => none
    | _, _ => none
  | .look kc z x i ok => match x.ev T, i.ev T with
    | some (.lit (.map .none)), some (.lit _) => some (if ok then .tup [z, .lit (.bool false)] else z, none)
    | some (.map b), some k => match H.blks[b]? with
      | some (.map es) => match (if isLit k then findE kc k es else none) with
        | some (some v) => some (if ok then .tup [v, .lit (.bool true)] else v, none)
        | some none => some (if ok then .tup [z, .lit (.bool false)] else z, none)
        | none => none
      | _ => none
    | _, _ => none
  | .mapUpd kc m k v => match m.ev T, k.ev T, v.ev T with
    | some (.map b), some k, some v => match H.blks[b]? with
      | some (.map es) => match (if isLit k then updE kc k v.strip2 es else none) with
        | some es' => some (.tup [], some (H.write b (.map es')))
        | none => none
      | _ => none
    | _, _, _ => none
  | .app mut_ size bytes x y => match x.ev T, y.ev T with
    | some a, some b => appV H mut_ size bytes a b
    | _, _ => none
  | .clr size z x => match x.ev T with
    | some (.msl b off len _ _) => match H.blks[b]? with
      | some (.cells cs) => if off + len * size ≤ cs.length ∧ z.length = size then some (.tup [], some (H.write b (.cells (splice cs off (rept len z))))) else none
      | _ => none
    | some (.sl [] 0 _) => some (.tup [], none)
    | some (.lit (.slice .none 0 0)) => some (.tup [], none)
    | _ => none
  | .len .map x => match x.ev T with
    | some (.map b) => match H.blks[b]? with
      | some (.map es) => some (.lit (.int .i64 es.length), none)
      | _ => none
    | _ => none
  | op => match allocB T op with
    | some (f, b) => some (f H.blks.length, some (H.push b))
    | none => none

/-- what a frozen slice or pointer reads as -/
def frzV (H : Heap) : V → Option (V × Heap)
  | .msl b off len esz _ => match H.blks[b]? with
    | some (.cells cs) => some (.sl (((cs.drop off).take (len * esz)).map V.strip1) len .none, H.write b .dead)
    | _ => none
  | .ref b off => match H.blks[b]? with
    | some (.cells cs) => some (.imm ((cs.drop off).map V.strip1), H.write b .dead)
    | _ => none
  | v => some (v, H)

def resV (T : Tm) (H : Heap) : ResV → Option V
  | .tmp t => T.get t
  | .cell t n => match T.get t with
    | some (.ref b off) => match H.blks[b]? with
      | some (.cells cs) => partV cs off n
      | _ => none
    | some (.imm cs) => partV cs 0 n
    | _ => none
def resVs (T : Tm) (H : Heap) : List ResV → Option (List V)
  | [] => some []
  | r :: rs => match resV T H r with
    | some v => match resVs T H rs with
      | some vs => some (v :: vs)
      | none => none
    | none => none
def one (vs : List V) : V := match vs with | [v] => v | vs => .tup vs

def addN : List Nat → List Nat → List Nat
  | [], l => l
  | b :: r, l => insN b (addN r l)

/-- the end of a call that began with H0: what it made is dropped where nothing that stays leads to it -/
def finish (keepTok : Bool) (H0 : Heap) (v : V) (H : Heap) : V × Option Heap :=
  let n := H0.blks.length
  let r := if keepTok then v else v.strip
  let old := H.wr.filter (fun b => decide (b < n))
  if r.closed n && old.all (fun b => match H.blks[b]? with | some x => x.closed n | none => true) then
    (r, if old.isEmpty then none else some ⟨H.blks.take n, addN old H0.wr⟩)
  else (r, some ⟨H.blks, addN old H0.wr⟩)

def wanted (T : Tm) : Option (Nat × Bool) → Option Bool
  | none => some true
  | some (t, b) => match T.get t with
    | some (.lit (.bool c)) => some (c == b)
    | some (.tup []) => some false
    | _ => none

structure Env where
  fn : FuncId → Option FI
  intr : FuncId → Option (List V → Heap → Option (V × Option Heap))

def put (T : Tm) (d : Option Nat) (v : V) : Tm := match d with | some d => T.set d v | none => T

def plainMov (x : Ins) : Bool := match x.op, x.guard with
  | .mov (.t _), none => true
  | _, _ => false

/-- operations that the model carries out in an order that it draws: they make new blocks, or ask nothing of memory -/
def evHeadsA (base : Nat) : Nat → List Nat → List Ins → Tm → List ABlk → Option (Tm × List ABlk)
  | _, _, [], T, bs => some (T, bs)
  | j, al, i :: is, T, bs => if al.contains j then (match allocB T i.op with
      | some (f, b) => if b.closed base then evHeadsA base (j + 1) al is (put T i.dst (f (base + bs.length))) (bs ++ [b]) else none
      | none => none)
    else match wanted T i.guard with
    | none => none
    | some false => evHeadsA base (j + 1) al is (put T i.dst (.tup [])) bs
    | some true => match evP T i.op with
        | some v => if v.closed base || plainMov i then evHeadsA base (j + 1) al is (put T i.dst v) bs else none
        | none => none

mutual
def evIns (E : Env) : Nat → Ins → Tm → Heap → Option (V × Option Heap)
  | 0, _, _, _ => none
  | n + 1, i, T, H => match evP T i.op with
    | some v => some (v, none)
    | none => match i.op with
      | .call f args => match evs T args with
        | some vs => evCall E n f vs H
        | none => none
      | .callv x args => match x.ev T, evs T args with
        | some (.fn f a b), some vs => evCall E n f (a ++ vs ++ b) H
        | _, _ => none
      | _ => evH T H i.op
def evReg (E : Env) : Nat → List Ins → Tm → Heap → Option (Tm × Heap)
  | 0, _, _, _ => none
  | _ + 1, [], T, H => some (T, H)
  | n + 1, i :: is, T, H => match wanted T i.guard with
    | none => none
    | some false => evReg E n is (put T i.dst (.tup [])) H
    | some true => match evIns E n i T H with
      | none => none
      | some (v, none) => evReg E n is (put T i.dst v) H
      | some (v, some H') => evReg E n is (put T i.dst v) H'
def evHeads (E : Env) : Nat → Nat → List Nat → List Ins → Tm → Heap → Option Tm
  | 0, _, _, _, _, _ => none
  | _ + 1, _, _, [], T, _ => some T
  | n + 1, j, imp, i :: is, T, H => match wanted T i.guard with
    | none => none
    | some false => evHeads E n (j + 1) imp is (put T i.dst (.tup [])) H
    | some true => if imp.contains j then (match evIns E n i T H with
        | some (v, none) => evHeads E n (j + 1) imp is (put T i.dst v) H
        | _ => none)
      else match evP T i.op with
        | some v => evHeads E n (j + 1) imp is (put T i.dst v) H
        | none => none
def evC (E : Env) : Nat → Nat → List Nat → List Ins → Tm → Heap → Option (Tm × Heap)
  | 0, _, _, _, _, _ => none
  | _ + 1, _, _, [], T, H => some (T, H)
  | n + 1, j, ch, i :: is, T, H => match wanted T i.guard with
    | none => none
    | some false => evC E n (j + 1) ch is (put T i.dst (.tup [])) H
    | some true => if ch.contains j then (match evIns E n i T H with
        | none => none
        | some (v, none) => evC E n (j + 1) ch is (put T i.dst v) H
        | some (v, some H') => evC E n (j + 1) ch is (put T i.dst v) H')
      else match evP T i.op with
        | some v => evC E n (j + 1) ch is (put T i.dst v) H
        | none => none
def evCode (E : Env) : Nat → I → Tm → Heap → Option (Ex × Tm × Heap)
  | 0, _, _, _ => none
  | _ + 1, .skip, T, H => some (.normal, T, H)
  | n + 1, .reg ops keep, T, H => match evReg E n ops T H with
    | some (T', H') => some (.normal, T'.keep keep, H')
    | none => none
  | n + 1, .drawA ops head al keep, T, H => match evHeadsA H.blks.length 0 al (ops.take head) T [] with
    | some (T1, bs) => match evReg E n (ops.drop head) T1 ⟨H.blks ++ bs, H.wr⟩ with
      | some (T', H') => some (.normal, T'.keep keep, H')
      | none => none
    | none => none
  | n + 1, .drawC ops ch keep, T, H => match evC E n 0 ch ops T H with
    | some (T', H') => some (.normal, T'.keep keep, H')
    | none => none
  | n + 1, .draw ops head imp keep, T, H => match evHeads E n 0 imp (ops.take head) T H with
    | some T1 => match evReg E n (ops.drop head) T1 H with
      | some (T', H') => some (.normal, T'.keep keep, H')
      | none => none
    | none => none
  | n + 1, .seq a b, T, H => match evCode E n a T H with
    | some (.normal, T', H') => evCode E n b T' H'
    | r => r
  | n + 1, .cond c a b, T, H => match c.ev T with
    | some (.lit (.bool true)) => evCode E n a T H
    | some (.lit (.bool false)) => evCode E n b T H
    | _ => none
  | n + 1, .block id a, T, H => match evCode E n a T H with
    | some (.exit j, T', H') => if j = id then some (.normal, T', H') else some (.exit j, T', H')
    | r => r
  | n + 1, .loop a, T, H => match evCode E n a T H with
    | some (.normal, T', H') => evCode E n (.loop a) T' H'
    | r => r
  | n + 1, .scope a, T, H => evCode E n a T H
  | _ + 1, .exit id, T, H => some (.exit id, T, H)
  | _ + 1, .ret, T, H => some (.ret, T, H)
  | n + 1, .frzA a t, T, H => match evCode E n a T H with
    | some (.normal, T', H') => (match T'.get t with
      | some v => match frzV H' v with
        | some (v', H2) => some (.normal, T'.set t v', H2)
        | none => none
      | none => none)
    | r => r
  | n + 1, .frz t a, T, H => match T.get t with
    | some v => match frzV H v with
      | some (v', H') => evCode E n a (T.set t v') H'
      | none => none
    | none => none
def evCall (E : Env) : Nat → FuncId → List V → Heap → Option (V × Option Heap)
  | 0, _, _, _ => none
  | n + 1, f, args, H => match E.intr f with
    | some g => g args H
    | none => match E.fn f with
      | none => none
      | some fi =>
        if args.length = fi.params then
          match evCode E n fi.body (Tm.init 0 args) ⟨H.blks, []⟩ with
          | some (x, T', H') => match x with
            | .exit _ => none
            | _ => match resVs T' H' fi.res with
              | some vs => some (finish fi.keepTok H (one vs) H')
              | none => none
          | none => none
        else none
end
end Go.Ev
