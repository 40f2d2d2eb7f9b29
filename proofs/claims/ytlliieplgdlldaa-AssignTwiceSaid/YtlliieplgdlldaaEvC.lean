/- When the evaluator's form of a program's code fits that code.
   Conditions: none; definitions and plain lemmas. -/
import Derived.Test.YtlliieplgdlldaaEvB
import Derived.Laws.AppendOwn
import Derived.Laws.CopyRow
import Derived.Laws.Cells
import Derived.Laws.Strings
import Derived.Lib.FrozenHead
namespace Go.Ev

def sameLit : Value → Value → Bool
  | .bool a, .bool b => a == b
  | .int k a, .int k' b => decide (k = k') && decide (a = b)
  | .string a, .string b => a.data.toList == b.data.toList
  | .nilFunc, .nilFunc => true
  | .nilIface, .nilIface => true
  | .pointer .none, .pointer .none => true
  | .map .none, .map .none => true
  | .slice .none 0 0, .slice .none 0 0 => true
  | _, _ => false

theorem sameLit_spec {a b : Value} (h : sameLit a b = true) : b = a ∧ inert a = true := by
  unfold sameLit at h
  split at h <;> simp_all [inert]
  · rename_i x y
    obtain ⟨x⟩ := x
    obtain ⟨y⟩ := y
    simp only at h
    congr 1
    exact h.symm

mutual
def fitV : V → Value → Bool
  | .lit a, b => sameLit a b
  | .agg cs, .agg us => fitVs cs us.toList && cs.all V.isCell
  | .tup cs, .tuple us => fitVs cs us.toList
  | _, _ => false
def fitVs : List V → List Value → Bool
  | [], [] => true
  | v :: vs, u :: us => fitV v u && fitVs vs us
  | _, _ => false
end

mutual
theorem fitV_spec (C : Ctx) : ∀ (v : V) (u : Value), fitV v u = true → Rep C v u
  | .lit a, b, h => by
    simp only [fitV] at h
    obtain ⟨h1, h2⟩ := sameLit_spec h
    simp only [Rep]
    exact ⟨h2, h1⟩
  | .agg cs, .agg us, h => by
    simp only [fitV, Bool.and_eq_true] at h
    simp only [Rep]
    exact ⟨us, rfl, fitVs_spec C cs _ h.1, h.2⟩
  | .tup cs, .tuple us, h => by
    simp only [fitV] at h
    simp only [Rep]
    exact ⟨us, rfl, fitVs_spec C cs _ h⟩
  | .agg _, .bool _, h | .agg _, .int .., h | .agg _, .float .., h | .agg _, .complex .., h | .agg _, .string _, h | .agg _, .pointer _, h | .agg _, .slice .., h
  | .agg _, .map _, h | .agg _, .chan _, h | .agg _, .func .., h | .agg _, .nilFunc, h | .agg _, .iface .., h | .agg _, .nilIface, h | .agg _, .tuple _, h => by simp [fitV] at h
  | .tup _, .bool _, h | .tup _, .int .., h | .tup _, .float .., h | .tup _, .complex .., h | .tup _, .string _, h | .tup _, .pointer _, h | .tup _, .slice .., h
  | .tup _, .map _, h | .tup _, .chan _, h | .tup _, .func .., h | .tup _, .nilFunc, h | .tup _, .iface .., h | .tup _, .nilIface, h | .tup _, .agg _, h => by simp [fitV] at h
  | .fn .., u, h | .imm _, u, h | .ref .., u, h | .sl .., u, h | .msl .., u, h | .map _, u, h | .iface .., u, h => by simp [fitV] at h
theorem fitVs_spec (C : Ctx) : ∀ (vs : List V) (us : List Value), fitVs vs us = true → Reps C vs us
  | [], [], _ => by simp only [Reps]
  | v :: vs, u :: us, h => by
    simp only [fitVs, Bool.and_eq_true] at h
    simp only [Reps]
    exact ⟨u, us, rfl, fitV_spec C v u h.1, fitVs_spec C vs us h.2⟩
  | [], _ :: _, h => by simp [fitVs] at h
  | _ :: _, [], h => by simp [fitVs] at h
end

def fitX : Opd → Operand → Bool
  | .t n, .tmp m => decide (n = m)
  | .c v, .const u => fitV v u
  | .f n, .func m => decide (n = m)
  | _, _ => false
def fitXs : List Opd → List Operand → Bool
  | [], [] => true
  | x :: xs, y :: ys => fitX x y && fitXs xs ys
  | _, _ => false
def fitXo : Option Opd → Option Operand → Bool
  | none, none => true
  | some x, some y => fitX x y
  | _, _ => false

def szOf (P : Program) (t : TypeId) : Option Nat := (P.info? t).map (·.size)
def aggOf (P : Program) (t : TypeId) : Option (Option Nat) :=
  match P.underlying t with
  | some (.struct _) | some (.array _ _) => (szOf P t).map some
  | some _ => some none
  | none => none
/-- the zero value of a type, as cells -/
def zeroIs (P : Program) (t : TypeId) (z : List V) : Bool :=
  match P.info? t with
  | some i => (match i.zero with | some v => decide (v.cells.size = i.size) && fitVs z v.cells.toList && z.all V.isCell | none => false)
  | none => false
def zeroVIs (P : Program) (t : TypeId) (z : V) : Bool :=
  match P.info? t with
  | some i => (match i.zero with | some v => fitV z v | none => false)
  | none => false
def elemIs (P : Program) (t : TypeId) (size : Nat) : Bool :=
  match P.underlying t with
  | some (.slice e) => szOf P e == some size
  | _ => false
def keyIs (P : Program) (t : TypeId) : LitC → Bool
  | .int => (match P.underlying t with | some (.int _) => true | _ => false)
  | .str => (match P.underlying t with | some .string => true | _ => false)
  | .bool => (match P.underlying t with | some .bool => true | _ => false)
def fieldIs (P : Program) (t : TypeId) (f : Nat) : Option Field :=
  match P.underlying t with
  | some (.struct fs) => fs[f]?
  | _ => none
/-- the places of a literal's parts -/
def placeOf (P : Program) (t : TypeId) (i : Nat) : Option (Nat × Nat) :=
  match P.underlying t with
  | some (.struct fs) => match fs[i]? with
    | some f => (szOf P f.type).map fun s => (f.offset, s)
    | none => none
  | some (.array _ e) => (szOf P e).map fun s => (i * s, s)
  | _ => none
def fieldsKnown (P : Program) (t : TypeId) : Bool :=
  match P.underlying t with
  | some (.struct fs) => fs.toList.all fun f => (szOf P f.type).isSome
  | some (.array _ e) => (szOf P e).isSome
  | _ => false
def fitPs (P : Program) (place : Nat → Option (Nat × Nat)) : List (Nat × Nat × Opd) → List (Nat × Operand) → Bool
  | [], [] => true
  | (off, size, x) :: ps, (i, y) :: qs => decide (place i = some (off, size)) && fitX x y && fitPs P place ps qs
  | _, _ => false
def goodFn (P : Program) (f : FuncId) : Bool :=
  match P.funcs[f]? with
  | some fn => fn.body.isSome && !(fn.name == "runtime.NumGoroutine")
  | none => false
def isConstO : Operand → Bool
  | .const _ => true
  | _ => false
def eqClass (P : Program) (t : TypeId) : EqC → Bool
  | .bool => (match P.underlying t with | some .bool => true | _ => false)
  | .slice => (match P.underlying t with | some (.slice _) => true | _ => false)
  | .ptr => (match P.underlying t with | some (.pointer _) => true | _ => false)
  | .func => (match P.underlying t with | some (.func _ _ _) => true | _ => false)
  | .map => (match P.underlying t with | some (.map _ _) => true | _ => false)
  | .iface => (match P.underlying t with | some (.interface _) => true | _ => false)
def lenClass (P : Program) (t : TypeId) : LenC → Bool
  | .str => (match P.underlying t with | some .string => true | _ => false)
  | .slice => (match P.underlying t with | some (.slice _) => true | _ => false)
  | .map => (match P.underlying t with | some (.map _ _) => true | _ => false)

def fitO (P : Program) : O → Op → Bool
  | .mov x, .move y => fitX x y
  | .mov x, .assign y => fitX x y
  | .pick c a b, .pick c' a' b' => fitX c c' && fitX a a' && fitX b b'
  | .alloc z, .alloc e => zeroIs P e z
  | .box _ x, .box _ y => fitX x y
  | .build z ps, .build t qs => zeroIs P t z && fieldsKnown P t && fitPs P (placeOf P t) ps qs.toList
  | .buildSl _ len size z ps, .buildSlice t n qs => decide (len = n) && decide (len * size ≤ 16777216) && (match P.underlying t with
      | some (.slice e) => szOf P e == some size && decide (z.length = size) && (zeroIs P e z) && fitPs P (fun i => some (i * size, size)) ps qs.toList
      | _ => false)
  | .load n x, .load t y => aggOf P t == some n && fitX x y
  | .store n a x, .store t b y => szOf P t == some n && fitX a b && fitX x y
  | .nilChk x, .nilCheck y => fitX x y
  | .bin op x y, .binOp op' _ x' y' _ => decide (op = op') && fitX x x' && fitX y y'
  | .eq ng c x y, .binOp op t x' y' _ => decide (op = if ng then .neq else .eql) && eqClass P t c && fitX x x' && fitX y y' && isConstO y'
  | .not x, .unOp .not _ y => fitX x y
  | .neg x, .unOp .neg _ y => fitX x y
  | .conv k x, .convert s d y => (P.underlying s).isSome && (match P.underlying d with | some (.int k') => decide (k = k') | _ => false) && fitX x y
  | .mkFn f a b, .makeFunc (.func g) c d => decide (f = g) && fitXs a c.toList && fitXs b d.toList
  | .mkMap, .makeMap _ none => true
  | .mkSl size bytes z l c, .makeSlice t l' c' => (match P.underlying t with
      | some (.slice e) => (match P.info? e with | some i => decide (i.size = size) && decide (i.bytes = bytes) | none => false) && zeroIs P e z
      | _ => false) && fitX l l' && fitX c c'
  | .fAddr off x, .fieldAddr s y f => (match fieldIs P s f with | some fd => decide (fd.offset = off) && (match szOf P fd.type with | some n => decide (n ≠ 0) | none => false) | none => false) && fitX x y
  | .fld off n x, .field t y f => (match fieldIs P t f with | some fd => decide (fd.offset = off) && aggOf P fd.type == some n | none => false) && fitX x y
  | .iAddr size x i, .indexAddr t y j => elemIs P t size && fitX x y && fitX i j
  | .iAddrA len size x i, .indexAddr t y j => (match P.underlying t with | some (.array n e) => decide (n = len) && szOf P e == some size | _ => false) && fitX x y && fitX i j
  | .idxA len size n x i, .index t y j => (match P.underlying t with | some (.array m e) => decide (m = len) && szOf P e == some size && aggOf P e == some n | _ => false) && fitX x y && fitX i j
  | .idxS x i, .index t y j => ((match P.underlying t with | some .string => true | _ => false)) && fitX x y && fitX i j
  | .sl size x lo hi mx, .slice t y l h m => elemIs P t size && fitX x y && fitXo lo l && fitXo hi h && fitXo mx m
  | .slS x lo hi, .slice t y l h none => ((match P.underlying t with | some .string => true | _ => false)) && fitX x y && fitXo lo l && fitXo hi h
  | .look kc z x i ok, .lookup t y j ok' => (match P.underlying t with | some (.map k e) => keyIs P k kc && zeroVIs P e z | _ => false) && fitX x y && fitX i j && decide (ok = ok')
  | .mapUpd kc m k v, .mapUpdate t m' k' v' => (match P.underlying t with | some (.map kt _) => keyIs P kt kc | _ => false) && fitX m m' && fitX k k' && fitX v v'
  | .mapUpd kc m k v, .insert t m' k' v' => (match P.underlying t with | some (.map kt _) => keyIs P kt kc | _ => false) && fitX m m' && fitX k k' && fitX v v'
  | .ext x i, .extract y j => decide (i = j) && fitX x y
  | .call f args, .call { callee := .value (.func g), args := args', .. } => decide (f = g) && goodFn P f && fitXs args args'.toList
  | .callv x args, .call { callee := .value y, args := args', .. } => fitX x y && fitXs args args'.toList
  | .app _ size bytes x y, .call { callee := .builtin .append, args, argTypes } => (match args.toList, argTypes.toList with
      | [x', y'], [t, u] => (match P.underlying t with
          | some (.slice e) => (match P.info? e with | some i => decide (i.size = size) && decide (i.bytes = bytes) && (match i.zero with | some z => decide (z.cells.size = size) | none => false) | none => false)
          | _ => false) && decide (0 < size) && decide (t = u) && fitX x x' && fitX y y'
      | _, _ => false)
  | .len c x, .call { callee := .builtin .len, args, argTypes } => (match args.toList, argTypes.toList with
      | [y], [t] => lenClass P t c && fitX x y
      | _, _ => false)
  | .clr size z x, .call { callee := .builtin .clear, args, argTypes } => (match args.toList, argTypes.toList with
      | [y], [t] => elemIs P t size && (match P.underlying t with | some (.slice e) => zeroIs P e z | _ => false) && fitX x y
      | _, _ => false)
  | .mm mx xs, .call { callee := .builtin b, args, .. } => (match b with | .max => mx | .min => !mx | _ => false) && fitXs xs args.toList
  | _, _ => false

def fitG (ops : Array Oper) : Option (Nat × Bool) → Option (Nat × Bool) → Bool
  | none, none => true
  | some (t, b), some (j, b') => (b == b') && ((ops[j]?).bind (·.dst)) == some t
  | _, _ => false

def fitIns (P : Program) (n : Nat) (ops : Array Oper) (i : Ins) (o : Oper) : Bool :=
  (i.dst == o.dst) && (match i.dst with | some d => decide (d < n) | none => true) && fitG ops i.guard o.guard && fitO P i.op o.op
def fitInss (P : Program) (n : Nat) (ops : Array Oper) : List Ins → List Oper → Bool
  | [], [] => true
  | i :: is, o :: os => fitIns P n ops i o && fitInss P n ops is os
  | _, _ => false

end Go.Ev
