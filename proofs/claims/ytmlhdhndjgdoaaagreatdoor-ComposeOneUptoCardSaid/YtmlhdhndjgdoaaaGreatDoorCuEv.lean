/- The evaluator: abstract values, own objects, operations, code. Nothing is proved here. -/
import GoSem.Core.Program
import GoSem.Core.View
import GoSem.Core.Utf8
import GoSem.Op.String
namespace Go.Ev

/-- A value by its contents: nothing of it is written any more. -/
inductive V where
  | bool (b : Bool)
  | int (k : IntKind) (n : Int)
  | str (s : List UInt8)
  | pt (o : Option (List V))
  | sl (o : Option (List V))
  | mp (o : Option (List V))
  | fn (f : FuncId) (first caps : List V)
  | nilf
  | iface (t : TypeId) (v : V)
  | nili
  | agg (cs : List V)
  | tup (vs : List V)
@[match_pattern] abbrev V.nilp : V := .pt none
@[match_pattern] abbrev V.ptr (cells : List V) : V := .pt (some cells)
@[match_pattern] abbrev V.nils : V := .sl none
@[match_pattern] abbrev V.list (xs : List V) : V := .sl (some xs)
@[match_pattern] abbrev V.nilm : V := .mp none
@[match_pattern] abbrev V.map (es : List V) : V := .mp (some es)
instance : Inhabited V := ⟨.nilp⟩
theorem V.cs {motive : V → Prop} (bool : ∀ b, motive (.bool b)) (int : ∀ k n, motive (.int k n)) (str : ∀ s, motive (.str s)) (nilp : motive .nilp) (ptr : ∀ cs, motive (.ptr cs)) (nils : motive .nils) (list : ∀ xs, motive (.list xs)) (nilm : motive .nilm) (map : ∀ es, motive (.map es))
    (fn : ∀ f a b, motive (.fn f a b)) (nilf : motive .nilf) (iface : ∀ t v, motive (.iface t v)) (nili : motive .nili) (agg : ∀ cs, motive (.agg cs)) (tup : ∀ vs, motive (.tup vs)) (v : V) : motive v := by
  cases v with
  | bool b => exact bool b
  | int k n => exact int k n
  | str s => exact str s
  | pt o => cases o with | none => exact nilp | some cs => exact ptr cs
  | sl o => cases o with | none => exact nils | some xs => exact list xs
  | mp o => cases o with | none => exact nilm | some es => exact map es
  | fn f a b => exact fn f a b
  | nilf => exact nilf
  | iface t v => exact iface t v
  | nili => exact nili
  | agg cs => exact agg cs
  | tup vs => exact tup vs

/-- One cell's value: a value, or a way to an own object. -/
inductive At where
  | v (x : V)
  | loc (i off : Nat)
  | el (i sz k off : Nat)
  | fadr (cells : List V) (off : Nat)
  | own (i : Nat)
  | win (i sz lo n : Nat)    -- a part of an own row that is written
  | mapr (i : Nat)
  | itr (i : Nat)

inductive T2 where
  | a (x : At)
  | agg (cs : List At)

/-- What a slot holds; 'undef': nothing is known of it. -/
inductive SV where
  | undef
  | a (x : At)
  | agg (cs : List At)
  | tup (vs : List T2)
  | clo (f : FuncId) (first caps : List At)
instance : Inhabited SV := ⟨.undef⟩

/-- An own object: 'box': a variable's cells; 'ext': a slice's row that only grows; 'mut': one that is written; 'map'; 'iter': a string's iterator. -/
inductive LObj where
  | box (ty : TypeId) (cells : List At)
  | ext (e : TypeId) (sz : Nat) (xs : List V)
  | arr (e : TypeId) (sz : Nat) (xs : List V)
  | map (z : Bool) (es : List (V × T2))    -- z: all that it holds is frozen
  | iter (s : List UInt8) (pos : Nat)
  | bld (bs : List UInt8)
  | clos (e : TypeId) (cs : List (FuncId × List At × List At))

/-- Is it frozen? -/
def T2.frz : T2 → Bool
  | .a (.v _) => true
  | _ => false

abbrev Objs := List (Option LObj)

abbrev V.void : V := .tup []
abbrev SV.void : SV := .a (.v .void)

def V.cells : V → List V
  | .agg cs => cs
  | x => [x]

/-- Is it the value of one cell? -/
def V.one : V → Bool
  | .agg _ | .tup _ => false
  | _ => true

def At.one : At → Bool
  | .v x => x.one
  | _ => true

def allV : List At → Option (List V)
  | [] => some []
  | .v x :: r => match allV r with | some vs => some (x :: vs) | none => none
  | _ :: _ => none

def mkAgg (cs : List At) : SV :=
  match allV cs with
  | some vs => .a (.v (.agg vs))
  | none => .agg cs

def toT2 : SV → Option T2
  | .a x => some (.a x)
  | .agg cs => some (.agg cs)
  | _ => none

def T2.sv : T2 → SV
  | .a x => .a x
  | .agg cs => .agg cs

def allT2V : List T2 → Option (List V)
  | [] => some []
  | .a (.v x) :: r => match allT2V r with | some vs => some (x :: vs) | none => none
  | _ :: _ => none

def mkTup (vs : List T2) : SV :=
  match allT2V vs with
  | some xs => .a (.v (.tup xs))
  | none => .tup vs

def SV.cells : SV → Option (List At)
  | .a (.v (.agg cs)) => some (cs.map At.v)
  | .a x => some [x]
  | .agg cs => some cs
  | _ => none

def SV.agg? : SV → Option (List At)
  | .a (.v (.agg cs)) => some (cs.map At.v)
  | .agg cs => some cs
  | _ => none

def obj (os : Objs) (i : Nat) : Option LObj :=
  match os[i]? with
  | some (some o) => some o
  | _ => none

/-! ### Operands, operations -/
inductive SOpd where
  | t (n : Nat)
  | c (v : V)
  | f (f : FuncId)

/-- What one cell is that is compared. -/
inductive FK where
  | b | i | s

/-- A type whose cells are all such: an aggregate or one cell. -/
structure KT where
  ag : Bool
  ks : List FK

/-- What '==' compares. -/
inductive EqK where
  | ptr | slc | mp | fn | ifc
  | flat (kt : KT)

inductive SOp where
  | mv (x : SOpd)
  | pick (c a b : SOpd)
  | alloc (ty : TypeId) (z : List V)
  | box (ty : TypeId) (n : Nat) (x : SOpd)
  | build (z : List V) (parts : List (Nat × Nat × SOpd))
  | lit (e : TypeId) (sz : Nat) (zero : V) (n : Nat) (parts : List (Nat × SOpd))
  | litF (e : TypeId) (xs : List SOpd)
  | ld (n : Nat) (ag : Bool) (x : SOpd)
  | st (n : Nat) (x v : SOpd)
  | nchk (x : SOpd)
  | ari (op : BinOp) (x y : SOpd)
  | eq (neg : Bool) (k : EqK) (x y : SOpd)
  | un (op : UnOp) (x : SOpd)
  | cvI (k : IntKind) (x : SOpd)
  | cvS (x : SOpd)
  | cvSB (e : TypeId) (x : SOpd)
  | cvBS (x : SOpd)
  | cvIS (x : SOpd)
  | fadr (off : Nat) (x : SOpd)
  | fld (off n : Nat) (ag : Bool) (x : SOpd)
  | iadr (sz : Nat) (x i : SOpd)
  | iadrA (len sz : Nat) (x i : SOpd)
  | idxS (x i : SOpd)
  | idxA (len sz : Nat) (ag : Bool) (x i : SOpd)
  | slcS (x : SOpd) (lo hi : Option SOpd)
  | slcL (sz : Nat) (x : SOpd) (lo hi : Option SOpd)
  | slcA (len sz : Nat) (ag : Bool) (x : SOpd) (lo hi : Option SOpd)
  | look (kt : KT) (zero : V) (ok : Bool) (x i : SOpd)
  | mupd (kt : KT) (x k v : SOpd)
  | ment (kt : KT) (zero : V) (x k : SOpd)
  | esto (x i v : SOpd)
  | s2a (n : Nat) (x : SOpd)
  | mkmap
  | mksl (e : TypeId) (sz : Nat) (zero : V) (len cap : SOpd)
  | rng (x : SOpd)
  | nxt (x : SOpd)
  | ext (x : SOpd) (i : Nat)
  | call (f : FuncId) (args : List SOpd)
  | callv (f : SOpd) (args : List SOpd)
  | len (k : Nat) (x : SOpd)
  | lenc (n : Nat)
  | app (e : TypeId) (sz : Nat) (s x : SOpd)
  | minmax (mx : Bool) (x y : SOpd)
  | mkif (t : TypeId) (x : SOpd)
  | clo (f : FuncId) (first caps : List SOpd)
  | bad

structure SOper where
  dst : Option Nat
  op : SOp
  guard : Option (Nat × Bool)
  preds : List Nat

inductive SC where
  | skip
  | region (ops : List SOper) (draw : Bool)
  | seq (a b : SC)
  | cond (c : SOpd) (a b : SC)
  | block (id : Nat) (b : SC)
  | loop (live : List Nat) (b : SC)
  | exit (id : Nat) (live : Option (List Nat))
  | ret (live : Option (List Nat))
  | bad

/-- 'mm': its slices are written in place. -/
structure SFn where
  ntmps : Nat
  results : List (Nat × Option (Nat × Bool))    -- a slot; or a variable's address, its size, whether it is an aggregate
  body : SC
  mm : Bool := false
  keep : Bool := false

structure St where
  fr : List SV
  objs : Objs

structure R where
  sv : SV
  objs : Objs

abbrev CallT := FuncId → List SV → Objs → Option R

/-! ### Values' helpers -/
def nth : List SV → Nat → SV
  | [], _ => .undef
  | x :: _, 0 => x
  | _ :: r, n + 1 => nth r n

def opd (fr : List SV) : SOpd → SV
  | .t n => nth fr n
  | .c v => .a (.v v)
  | .f f => .clo f [] []

/-- Makes a value of an atom, frozen from now on. -/
def freezeL (f : Objs → At → Option (V × Objs)) : Objs → List At → Option (List V × Objs)
  | os, [] => some ([], os)
  | os, x :: r => match f os x with
    | some (v, os) => match freezeL f os r with
      | some (vs, os) => some (v :: vs, os)
      | none => none
    | none => none

def freezeT (f : Objs → At → Option (V × Objs)) (os : Objs) : T2 → Option (V × Objs)
  | .a x => f os x
  | .agg cs => match freezeL f os cs with
    | some (vs, os) => some (.agg vs, os)
    | none => none

def freezeM (f : Objs → At → Option (V × Objs)) : Objs → List (V × T2) → Option (List V × Objs)
  | os, [] => some ([], os)
  | os, (k, x) :: r => match freezeT f os x with
    | some (v, os) => match freezeM f os r with
      | some (vs, os) => some (.tup [k, v] :: vs, os)
      | none => none
    | none => none

def freezeA : Nat → Objs → At → Option (V × Objs)
  | _, os, .v x => some (x, os)
  | _, os, .own i => match obj os i with
    | some (.ext _ _ xs) => some (.list xs, os)
    | some (.arr _ _ xs) => some (.list xs, os.set i none)
    | _ => none
  | d + 1, os, .loc i 0 => match obj os i with
    | some (.box _ cs) => match freezeL (freezeA d) (os.set i none) cs with
      | some (vs, os) => some (.ptr vs, os)
      | none => none
    | _ => none
  | d + 1, os, .mapr i => match obj os i with
    | some (.map _ es) => match freezeM (freezeA d) (os.set i none) es with
      | some (vs, os) => some (.map vs, os)
      | none => none
    | _ => none
  | _, _, _ => none

def depth : Nat := 12

def freezeTs (os : Objs) : List T2 → Option (List V × Objs)
  | [] => some ([], os)
  | x :: r => match freezeT (freezeA depth) os x with
    | some (v, os) => match freezeTs os r with
      | some (vs, os) => some (v :: vs, os)
      | none => none
    | none => none

def freezeS (os : Objs) : SV → Option (V × Objs)
  | .a x => freezeA depth os x
  | .agg cs => match freezeL (freezeA depth) os cs with
    | some (vs, os) => some (.agg vs, os)
    | none => none
  | .tup vs => match freezeTs os vs with
    | some (vs, os) => some (.tup vs, os)
    | none => none
  | .clo f a b => match freezeL (freezeA depth) os a with
    | some (a, os) => match freezeL (freezeA depth) os b with
      | some (b, os) => some (.fn f a b, os)
      | none => none
    | none => none
  | .undef => none

/-- A slice's elements, if it can be seen whole. -/
def elems (os : Objs) : SV → Option (List V)
  | .a (.v .nils) => some []
  | .a (.v (.list xs)) => some xs
  | .a (.own i) => match obj os i with
    | some (.ext _ _ xs) => some xs
    | some (.arr _ _ xs) => some xs
    | _ => none
  | _ => none

def asInt : SV → Option Int
  | .a (.v (.int _ n)) => some n
  | _ => none

/-! ### Arithmetic, comparisons -/
def ariI (op : BinOp) (k : IntKind) (a b : Int) : Option V :=
  match op with
  | .add => some (.int k (k.wrap (a + b)))
  | .sub => some (.int k (k.wrap (a - b)))
  | .mul => some (.int k (k.wrap (a * b)))
  | .quo => if b = 0 then none else some (.int k (k.wrap (a.tdiv b)))
  | .rem => if b = 0 then none else some (.int k (a.tmod b))
  | .and => some (.int k (k.wrap ((BitVec.ofInt k.bits a &&& BitVec.ofInt k.bits b).toNat)))
  | .or => some (.int k (k.wrap ((BitVec.ofInt k.bits a ||| BitVec.ofInt k.bits b).toNat)))
  | .xor => some (.int k (k.wrap ((BitVec.ofInt k.bits a ^^^ BitVec.ofInt k.bits b).toNat)))
  | .andNot => some (.int k (k.wrap ((BitVec.ofInt k.bits a &&& ~~~ BitVec.ofInt k.bits b).toNat)))
  | .eql => some (.bool (a == b))
  | .neq => some (.bool (a != b))
  | .lss => some (.bool (decide (a < b)))
  | .leq => some (.bool (decide (a ≤ b)))
  | .gtr => some (.bool (decide (a > b)))
  | .geq => some (.bool (decide (a ≥ b)))
  | _ => none

def shiftI (op : BinOp) (k : IntKind) (a b : Int) : Option V :=
  if b < 0 then none else
  match op with
  | .shl => some (.int k (k.wrap (a * 2 ^ (min b.toNat k.bits))))
  | .shr => some (.int k (a.fdiv (2 ^ (min b.toNat k.bits))))
  | _ => none

def maxStr : Nat := 9223372036854775807

def ariS (op : BinOp) (s t : List UInt8) : Option V :=
  match op with
  | .add => if s.length + t.length ≤ maxStr then some (.str (s ++ t)) else none
  | .eql => some (.bool (s == t))
  | .neq => some (.bool !(s == t))
  | .lss => some (.bool (Op.bytesLess s t))
  | .leq => some (.bool (Op.bytesLess s t || s == t))
  | .gtr => some (.bool !(Op.bytesLess s t || s == t))
  | .geq => some (.bool !(Op.bytesLess s t))
  | _ => none

def ariV (op : BinOp) (x y : V) : Option V :=
  match x, y with
  | .int k a, .int k' b => match op with
    | .shl | .shr => shiftI op k a b
    | _ => if k = k' then ariI op k a b else none
  | .str s, .str t => ariS op s t
  | _, _ => none

def eqF : FK → V → V → Option Bool
  | .b, .bool a, .bool b => some (a == b)
  | .i, .int k a, .int k' b => if k = k' then some (a == b) else none
  | .s, .str s, .str t => some (s == t)
  | _, _, _ => none

def eqL : List FK → List V → List V → Option Bool
  | [], [], [] => some true
  | k :: ks, a :: r, b :: s => match eqF k a b with
    | some true => eqL ks r s
    | some false => some false
    | none => none
  | _, _, _ => none

/-- The cells of a value of such a type. -/
def keyCells (kt : KT) : V → Option (List V)
  | .agg cs => if kt.ag = true ∧ cs.length = kt.ks.length then some cs else none
  | .tup _ => none
  | x => if kt.ag = false ∧ kt.ks.length = 1 then some [x] else none

def keyEq (kt : KT) (x y : V) : Option Bool :=
  match keyCells kt x, keyCells kt y with
  | some a, some b => eqL kt.ks a b
  | _, _ => none

def eqV (k : EqK) (x y : SV) : Option Bool :=
  match k, x, y with
  | .flat kt, .a (.v a), .a (.v b) => keyEq kt a b
  | .ptr, .a (.v .nilp), .a (.v .nilp) => some true
  | .ptr, .a (.v (.ptr _)), .a (.v .nilp) | .ptr, .a (.loc _ _), .a (.v .nilp) => some false
  | .ptr, .a (.v .nilp), .a (.v (.ptr _)) | .ptr, .a (.v .nilp), .a (.loc _ _) => some false
  | .slc, .a (.v .nils), .a (.v .nils) => some true
  | .slc, .a (.v (.list (_ :: _))), .a (.v .nils) | .slc, .a (.own _), .a (.v .nils) => some false
  | .mp, .a (.v .nilm), .a (.v .nilm) => some true
  | .mp, .a (.v (.map _)), .a (.v .nilm) | .mp, .a (.mapr _), .a (.v .nilm) => some false
  | .fn, .a (.v .nilf), .a (.v .nilf) => some true
  | .fn, .clo _ _ _, .a (.v .nilf) => some false
  | .ifc, .a (.v .nili), .a (.v .nili) => some true
  | .ifc, .a (.v (.iface _ _)), .a (.v .nili) => some false
  | _, _, _ => none

def unV (op : UnOp) (x : SV) : Option V :=
  match op, x with
  | .neg, .a (.v (.int k n)) => some (.int k (k.wrap (0 - n)))
  | .xor, .a (.v (.int k n)) => ariI .xor k (if k.signed then -1 else k.max) n
  | .not, .a (.v (.bool b)) => some (.bool !b)
  | _, _ => none

def bytesOf : List V → Option (List UInt8)
  | [] => some []
  | .int .u8 n :: r => match bytesOf r with | some s => some (UInt8.ofNat n.toNat :: s) | none => none
  | _ :: _ => none

def splice {α : Type} (cs : List α) (off : Nat) (xs : List α) : List α := cs.take off ++ xs ++ cs.drop (off + xs.length)

/-- A slice expression's bounds. -/
def bounds (fr : List SV) (lo hi : Option SOpd) (len : Nat) : Option (Nat × Nat) :=
  match (match hi with | none => some (len : Int) | some h => asInt (opd fr h)), (match lo with | none => some 0 | some l => asInt (opd fr l)) with
  | some h, some l => if 0 ≤ h ∧ h ≤ len then (if 0 ≤ l ∧ l ≤ h then some (l.toNat, h.toNat) else none) else none
  | _, _ => none

def findE (kt : KT) (k : V) : List (V × T2) → Option (Option T2)
  | [] => some none
  | (k', x) :: r => match keyEq kt k k' with
    | some true => some (some x)
    | some false => findE kt k r
    | none => none

def findV (kt : KT) (k : V) : List V → Option (Option V)
  | [] => some none
  | .tup [k', x] :: r => match keyEq kt k k' with
    | some true => some (some x)
    | some false => findV kt k r
    | none => none
  | _ => none

def putE (kt : KT) (k : V) (x : T2) : List (V × T2) → Option (List (V × T2))
  | [] => some [(k, x)]
  | (k', y) :: r => match keyEq kt k k' with
    | some true => some ((k, x) :: r)
    | some false => match putE kt k x r with
      | some r => some ((k', y) :: r)
      | none => none
    | none => none

def keyAt (kt : KT) (k : V) : List (V × T2) → Nat → Option (Option (Nat × T2))
  | [], _ => some none
  | (k', x) :: r, n => match keyEq kt k k' with
    | some true => some (some (n, x))
    | some false => keyAt kt k r (n + 1)
    | none => none

def lim : Nat := 2147483648

def fits (n : Nat) : Bool := decide (n ≤ lim)

def optTup (ok : Bool) (x : T2) (b : Bool) : SV := if ok then mkTup [x, .a (.v (.bool b))] else x.sv

/-! ### One operation -/
def opds (fr : List SV) : List SOpd → List SV
  | [] => []
  | x :: r => opd fr x :: opds fr r

def flatA : List SV → Option (List At)
  | [] => some []
  | .a x :: r => match flatA r with | some l => some (x :: l) | none => none
  | _ :: _ => none

def closL : List SV → Option (List (FuncId × List At × List At))
  | [] => some []
  | .clo f a b :: r => match closL r with | some l => some ((f, a, b) :: l) | none => none
  | _ :: _ => none

def buildP (fr : List SV) : List At → List (Nat × Nat × SOpd) → Option (List At)
  | cs, [] => some cs
  | cs, (off, sz, x) :: r => match (opd fr x).cells with
    | some ys => if ys.length = sz ∧ off + sz ≤ cs.length then buildP fr (splice cs off ys) r else none
    | none => none

/-- The elements of a slice literal. -/
def litP (fr : List SV) (sz : Nat) : Objs → List V → List (Nat × SOpd) → Option (List V × Objs)
  | os, xs, [] => some (xs, os)
  | os, xs, (i, x) :: r => match freezeS os (opd fr x) with
    | some (y, os) => if y.cells.length = sz ∧ i < xs.length then litP fr sz os (xs.set i y) r else none
    | none => none

/-- Some cells, or one, from a place on. -/
def cutA (ag : Bool) (n : Nat) (cs : List At) (o : Nat) : Option SV :=
  if ag = true then (if o + n ≤ cs.length then some (mkAgg ((cs.drop o).take n)) else none) else match cs[o]? with | some x => some (.a x) | none => none

def cutV (ag : Bool) (n : Nat) (cs : List V) (o : Nat) : Option SV :=
  if ag = true then (if o + n ≤ cs.length then some (.a (.v (.agg ((cs.drop o).take n)))) else none) else match cs[o]? with | some x => some (.a (.v x)) | none => none

def loadA (os : Objs) (n : Nat) (ag : Bool) : SV → Option SV
  | .a (.loc i o) => match obj os i with
    | some (.box _ cs) => cutA ag n cs o
    | _ => none
  | .a (.el i sz k o) => match obj os i with
    | some (.arr _ sz' xs) => if sz' = sz then match xs[k]? with
      | some x => cutV ag n x.cells o
      | none => none else none
    | some (.clos _ cs) => if sz = 1 ∧ o = 0 ∧ ag = false then match cs[k]? with
      | some (f, c1, c2) => some (.clo f c1 c2)
      | none => none else none
    | _ => none
  | .a (.fadr cs o) => cutV ag n cs o
  | .a (.v (.ptr cs)) => cutV ag n cs 0
  | _ => none

def storeA (os : Objs) (n : Nat) (p v : SV) : Option Objs :=
  match v.cells with
  | none => none
  | some ys =>
    if ys.length = n ∧ ys.all At.one then
      match p with
      | .a (.loc i o) => match obj os i with
        | some (.box ty cs) => if o + n ≤ cs.length then some (os.set i (some (.box ty (splice cs o ys)))) else none
        | _ => none
      | .a (.el i sz k o) => match freezeL (freezeA depth) os ys with
        | some (vs, os) => if !vs.all V.one then none else match obj os i with
          | some (.arr e sz' xs) => if sz' = sz then match xs[k]? with
            | some x => if x.one then (if o = 0 then (match vs with | [y] => some (os.set i (some (.arr e sz (xs.set k y)))) | _ => none) else none)
              else (if o + n ≤ x.cells.length then some (os.set i (some (.arr e sz (xs.set k (.agg (splice x.cells o vs)))))) else none)
            | none => none else none
          | _ => none
        | none => none
      | _ => none
    else none

def lenS : SV → Option Nat
  | .a (.v (.str s)) => some s.length
  | _ => none

def lenL (os : Objs) : SV → Option Nat
  | .a (.v .nils) => some 0
  | .a (.v (.list xs)) => some xs.length
  | .a (.own i) => match obj os i with
    | some (.ext _ _ xs) => some xs.length
    | some (.arr _ _ xs) => some xs.length
    | some (.clos _ cs) => some cs.length
    | _ => none
  | .a (.win _ _ _ n) => some n
  | _ => none

def lenM (os : Objs) : SV → Option Nat
  | .a (.v .nilm) => some 0
  | .a (.v (.map es)) => some es.length
  | .a (.mapr i) => match obj os i with
    | some (.map _ es) => some es.length
    | _ => none
  | _ => none

/-- A slice that can be written through a part: which row, from where, how many. -/
def winOf (os : Objs) (sz : Nat) : SV → Option (Nat × Nat × Nat)
  | .a (.own i) => match obj os i with
    | some (.arr _ s xs) => if s = sz then some (i, 0, xs.length) else none
    | _ => none
  | .a (.win i s o n) => if s = sz then some (i, o, n) else none
  | _ => none

/-- k: 0: a string's length; 1: a slice's; else a map's. -/
def lenV (os : Objs) (k : Nat) (x : SV) : Option Nat :=
  match k with
  | 0 => lenS x
  | 1 => lenL os x
  | _ => lenM os x

/-- append: s's row grows by ys. -/
def appendA (mm : Bool) (e : TypeId) (sz : Nat) (os : Objs) (s : SV) (ys : List V) : Option R :=
  match s with
  | .a (.v .nils) => match ys with
    | [] => some ⟨.a (.v .nils), os⟩
    | _ :: _ => if fits ys.length ∧ ys.all (fun y => y.cells.length == sz && y.cells.all V.one) then some ⟨.a (.own os.length), os ++ [some (if mm then .arr e sz ys else .ext e sz ys)]⟩ else none
  | .a (.own i) => match obj os i with
    | some (.ext e' sz' xs) => if e' = e ∧ sz' = sz ∧ fits (xs.length + ys.length) ∧ ys.all (fun y => y.cells.length == sz && y.cells.all V.one) then some ⟨.a (.own os.length), os.set i none ++ [some (.ext e sz (xs ++ ys))]⟩ else none
    | some (.arr e' sz' xs) => if e' = e ∧ sz' = sz ∧ fits (xs.length + ys.length) ∧ ys.all (fun y => y.cells.length == sz && y.cells.all V.one) then some ⟨.a (.own os.length), os.set i none ++ [some (.arr e sz (xs ++ ys))]⟩ else none
    | _ => none
  | _ => none

def evOp (mm : Bool) (call : CallT) (fr : List SV) (os : Objs) : SOp → Option R
  | .mv x => match opd fr x with | .undef => none | s => some ⟨s, os⟩
  | .pick c a b => match opd fr c with
    | .a (.v (.bool true)) => some ⟨opd fr a, os⟩
    | .a (.v (.bool false)) => some ⟨opd fr b, os⟩
    | _ => none
  | .alloc ty z => some ⟨.a (.loc os.length 0), os ++ [some (.box ty (z.map At.v))]⟩
  | .box ty n x => match (opd fr x).cells with
    | some cs => if cs.length = n ∧ cs.all At.one then some ⟨.a (.loc os.length 0), os ++ [some (.box ty cs)]⟩ else none
    | none => none
  | .build z parts => match buildP fr (z.map At.v) parts with
    | some cs => some ⟨mkAgg cs, os⟩
    | none => none
  | .lit e sz zero n parts => match litP fr sz os (List.replicate n zero) parts with
    | some (xs, os) => some ⟨.a (.own os.length), os ++ [some (if mm then .arr e sz xs else .ext e sz xs)]⟩
    | none => none
  | .litF e xs => match closL (opds fr xs) with
    | some cs => if cs.length ≤ lim then some ⟨.a (.own os.length), os ++ [some (.clos e cs)]⟩ else none
    | none => none
  | .ld n ag x => match loadA os n ag (opd fr x) with | some s => some ⟨s, os⟩ | none => none
  | .st n x v => match storeA os n (opd fr x) (opd fr v) with | some os => some ⟨.void, os⟩ | none => none
  | .nchk x => match opd fr x with
    | .undef | .a (.v .nilp) | .a (.v .nili) | .a (.v .nilf) => none
    | .a (.v (.ptr c)) => some ⟨.a (.v (.ptr c)), os⟩
    | .a (.loc i o) => some ⟨.a (.loc i o), os⟩
    | .a (.el i s k o) => some ⟨.a (.el i s k o), os⟩
    | .a (.fadr c o) => some ⟨.a (.fadr c o), os⟩
    | .clo f a b => some ⟨.clo f a b, os⟩
    | _ => none
  | .ari op x y => match opd fr x, opd fr y with
    | .a (.v a), .a (.v b) => match ariV op a b with | some v => some ⟨.a (.v v), os⟩ | none => none
    | _, _ => none
  | .eq neg k x y => match eqV k (opd fr x) (opd fr y) with
    | some b => some ⟨.a (.v (.bool (if neg then !b else b))), os⟩
    | none => none
  | .un op x => match unV op (opd fr x) with | some v => some ⟨.a (.v v), os⟩ | none => none
  | .cvI k x => match opd fr x with
    | .a (.v (.int _ n)) => some ⟨.a (.v (.int k (k.wrap n))), os⟩
    | _ => none
  | .cvS x => match opd fr x with
    | .a (.v (.str s)) => some ⟨.a (.v (.str s)), os⟩
    | _ => none
  | .cvSB _ x => match opd fr x with
    | .a (.v (.str s)) => if fits s.length then some ⟨.a (.v (.list (s.map fun b => .int .u8 b.toNat))), os⟩ else none
    | _ => none
  | .cvBS x => match elems os (opd fr x) with
    | some xs => match bytesOf xs with | some s => some ⟨.a (.v (.str s)), os⟩ | none => none
    | none => none
  | .cvIS x => match opd fr x with
    | .a (.v (.int _ n)) => some ⟨.a (.v (.str (Utf8.encode n).data.toList)), os⟩
    | _ => none
  | .fadr off x => match opd fr x with
    | .a (.loc i o) => some ⟨.a (.loc i (o + off)), os⟩
    | .a (.el i sz k o) => some ⟨.a (.el i sz k (o + off)), os⟩
    | .a (.fadr cs o) => some ⟨.a (.fadr cs (o + off)), os⟩
    | .a (.v (.ptr cs)) => some ⟨.a (.fadr cs off), os⟩
    | _ => none
  | .fld off n ag x => match (opd fr x).agg? with
    | some cs => match cutA ag n cs off with | some s => some ⟨s, os⟩ | none => none
    | none => none
  | .iadr sz x i => match asInt (opd fr i) with
    | none => none
    | some n => if n < 0 then none else match opd fr x with
      | .a (.v (.list xs)) => match xs[n.toNat]? with
        | some y => if y.cells.length = sz then some ⟨.a (.fadr y.cells 0), os⟩ else none
        | none => none
      | .a (.win j s o m) => if s = sz ∧ n.toNat < m then some ⟨.a (.el j sz (o + n.toNat) 0), os⟩ else none
      | .a (.own j) => match obj os j with
        | some (.ext _ _ xs) => match xs[n.toNat]? with
          | some y => if y.cells.length = sz then some ⟨.a (.fadr y.cells 0), os⟩ else none
          | none => none
        | some (.arr _ sz' xs) => if sz' = sz ∧ n.toNat < xs.length then some ⟨.a (.el j sz n.toNat 0), os⟩ else none
        | some (.clos _ cs) => if sz = 1 ∧ n.toNat < cs.length then some ⟨.a (.el j 1 n.toNat 0), os⟩ else none
        | _ => none
      | _ => none
  | .iadrA len sz x i => match asInt (opd fr i) with
    | none => none
    | some n => if 0 ≤ n ∧ n < len then match opd fr x with
      | .a (.loc j o) => some ⟨.a (.loc j (o + n.toNat * sz)), os⟩
      | .a (.el j s k o) => some ⟨.a (.el j s k (o + n.toNat * sz)), os⟩
      | .a (.fadr cs o) => some ⟨.a (.fadr cs (o + n.toNat * sz)), os⟩
      | .a (.v (.ptr cs)) => some ⟨.a (.fadr cs (n.toNat * sz)), os⟩
      | _ => none
      else none
  | .idxS x i => match opd fr x, asInt (opd fr i) with
    | .a (.v (.str s)), some n => if n < 0 then none else match s[n.toNat]? with
      | some b => some ⟨.a (.v (.int .u8 b.toNat)), os⟩
      | none => none
    | _, _ => none
  | .idxA len sz ag x i => match (opd fr x).agg?, asInt (opd fr i) with
    | some cs, some n => if 0 ≤ n ∧ n < len then
        (match cutA ag sz cs (n.toNat * sz) with | some s => some ⟨s, os⟩ | none => none)
      else none
    | _, _ => none
  | .slcS x lo hi => match opd fr x with
    | .a (.v (.str s)) => match bounds fr lo hi s.length with
      | some (l, h) => some ⟨.a (.v (.str ((s.drop l).take (h - l)))), os⟩
      | none => none
    | _ => none
  | .slcL sz x lo hi => match (if mm = true then winOf os sz (opd fr x) else none) with
    | some (i, o, n) => match bounds fr lo hi n with
      | some (l, h) => some ⟨.a (.win i sz (o + l) (h - l)), os⟩
      | none => none
    | none => match opd fr x with
    | .a (.v .nils) => match bounds fr lo hi 0 with
      | some _ => some ⟨.a (.v .nils), os⟩
      | none => none
    | s => match elems os s with
      | some xs => match bounds fr lo hi xs.length with
        | some (l, h) => match freezeS os s with
          | some (_, os) => if (xs.head?.all fun y => y.cells.length == sz) then some ⟨.a (.v (.list ((xs.drop l).take (h - l)))), os⟩ else none
          | none => none
        | none => none
      | none => none
  | .slcA len sz _ x lo hi => match opd fr x with
    | .a (.loc i 0) => match freezeA depth os (.loc i 0) with
      | some (.ptr cs, os) => if cs.length = len * sz then match bounds fr lo hi len with
        | some (l, h) => if sz = 1 ∧ cs.all V.one then some ⟨.a (.v (.list ((cs.drop l).take (h - l)))), os⟩ else none
        | none => none else none
      | _ => none
    | .a (.v (.ptr cs)) => if cs.length = len * sz then match bounds fr lo hi len with
        | some (l, h) => if sz = 1 ∧ cs.all V.one then some ⟨.a (.v (.list ((cs.drop l).take (h - l)))), os⟩ else none
        | none => none else none
    | _ => none
  | .look kt zero ok x i => match freezeS os (opd fr i) with
    | none => none
    | some (k, os) => if (keyCells kt k).isNone then none else match opd fr x with
      | .a (.v .nilm) => some ⟨optTup ok (.a (.v zero)) false, os⟩
      | .a (.v (.map es)) => match findV kt k es with
        | some (some y) => some ⟨optTup ok (.a (.v y)) true, os⟩
        | some none => some ⟨optTup ok (.a (.v zero)) false, os⟩
        | none => none
      | .a (.mapr j) => match obj os j with
        | some (.map _ es) => match findE kt k es with
          | some (some y) => some ⟨optTup ok y true, os⟩
          | some none => some ⟨optTup ok (.a (.v zero)) false, os⟩
          | none => none
        | _ => none
      | _ => none
  | .mupd kt x k v => match freezeS os (opd fr k) with
    | none => none
    | some (k, os) => if (keyCells kt k).isNone then none else match opd fr x, toT2 (opd fr v) with
      | .a (.mapr j), some y => match obj os j with
        | some (.map z es) => if fits (es.length + 1) then match putE kt k y es with
          | some es => some ⟨.void, os.set j (some (.map (z && y.frz) es))⟩
          | none => none else none
        | _ => none
      | _, _ => none
  | .ment kt zero x k => match freezeS os (opd fr k) with
    | none => none
    | some (k, os) => if (keyCells kt k).isNone then none else match opd fr x with
      | .a (.mapr j) => match obj os j with
        | some (.map z es) => match keyAt kt k es 0 with
          | some (some (i, y)) => some ⟨mkTup [y, .a (.v (.int .i64 i))], os⟩
          | some none => if fits (es.length + 1) then some ⟨mkTup [.a (.v zero), .a (.v (.int .i64 es.length))], os.set j (some (.map z (es ++ [(k, .a (.v zero))])))⟩ else none
          | none => none
        | _ => none
      | _ => none
  | .esto x i v => match opd fr x, asInt (opd fr i), toT2 (opd fr v) with
    | .a (.mapr j), some n, some y => if n < 0 then none else match obj os j with
      | some (.map z es) => match es[n.toNat]? with
        | some (k, _) => some ⟨.void, os.set j (some (.map (z && y.frz) (es.set n.toNat (k, y))))⟩
        | none => none
      | _ => none
    | _, _, _ => none
  | .s2a n x => match elems os (opd fr x) with
    | some xs => if n ≤ xs.length ∧ 0 < n ∧ xs.all V.one then match freezeS os (opd fr x) with
      | some (_, os) => some ⟨.a (.fadr xs 0), os⟩
      | none => none else none
    | none => none
  | .mkmap => some ⟨.a (.mapr os.length), os ++ [some (.map true [])]⟩
  | .mksl e sz zero len cap => match asInt (opd fr len), asInt (opd fr cap) with
    | some l, some c => if 0 ≤ l ∧ l ≤ c ∧ c ≤ lim then some ⟨.a (.own os.length), os ++ [some (.arr e sz (List.replicate l.toNat zero))]⟩ else none
    | _, _ => none
  | .rng x => match opd fr x with
    | .a (.v (.str s)) => some ⟨.a (.itr os.length), os ++ [some (.iter s 0)]⟩
    | _ => none
  | .nxt x => match opd fr x with
    | .a (.itr i) => match obj os i with
      | some (.iter s pos) => if pos < s.length then
          some ⟨.a (.v (.tup [.bool true, .int .i64 pos, .int .i32 (Utf8.decode ⟨s.toArray⟩ pos).1])), os.set i (some (.iter s (pos + (Utf8.decode ⟨s.toArray⟩ pos).2)))⟩
        else some ⟨.a (.v (.tup [.bool false])), os⟩
      | _ => none
    | _ => none
  | .ext x i => match opd fr x with
    | .a (.v (.tup vs)) => match vs[i]? with | some y => some ⟨.a (.v y), os⟩ | none => none
    | .tup vs => match vs[i]? with | some y => some ⟨y.sv, os⟩ | none => none
    | _ => none
  | .call f args => call f (opds fr args) os
  | .callv f args => match opd fr f with
    | .clo g a b => call g (a.map SV.a ++ opds fr args ++ b.map SV.a) os
    | .a (.v (.fn g a b)) => call g (a.map (fun x => SV.a (.v x)) ++ opds fr args ++ b.map (fun x => SV.a (.v x))) os
    | _ => none
  | .len k x => match lenV os k (opd fr x) with
    | some n => some ⟨.a (.v (.int .i64 n)), os⟩
    | none => none
  | .lenc n => some ⟨.a (.v (.int .i64 n)), os⟩
  | .app e sz s x => match opd fr x with
    | .a (.v (.str t)) => appendA mm e sz os (opd fr s) (t.map fun b => .int .u8 b.toNat)
    | y => match elems os y with
      | some ys => match freezeS os y with
        | some (_, os) => appendA mm e sz os (opd fr s) ys
        | none => none
      | none => none
  | .minmax mx x y => match opd fr x, opd fr y with
    | .a (.v (.int k a)), .a (.v (.int _ b)) => some ⟨.a (.v (.int k (if mx then (if b > a then b else a) else (if b < a then b else a)))), os⟩
    | _, _ => none
  | .mkif t x => match freezeS os (opd fr x) with
    | some (v, os) => some ⟨.a (.v (.iface t v)), os⟩
    | none => none
  | .clo f a b => match flatA (opds fr a), flatA (opds fr b) with
    | some a, some b => some ⟨.clo f a b, os⟩
    | _, _ => none
  | .bad => none

/-! ### Regions -/
def put (fr : List SV) : Option Nat → SV → List SV
  | none, _ => fr
  | some d, v => fr.set d v

def wants (fr : List SV) : Option (Nat × Bool) → Option Bool
  | none => some true
  | some (t, want) => match nth fr t with
    | .a (.v (.bool b)) => some (b == want)
    | .a (.v (.tup [])) => some false
    | _ => none

def evOps (mm : Bool) (call : CallT) : List SOper → St → Option St
  | [], st => some st
  | o :: r, st => match wants st.fr o.guard with
    | some true => match evOp mm call st.fr st.objs o.op with
      | some y => evOps mm call r ⟨put st.fr o.dst y.sv, y.objs⟩
      | none => none
    | some false => evOps mm call r ⟨put st.fr o.dst .void, st.objs⟩
    | none => none

/-! ### What can be reached -/
def At.ids : At → List Nat
  | .loc i _ | .el i _ _ _ | .own i | .win i _ _ _ | .mapr i | .itr i => [i]
  | _ => []

def T2.ids : T2 → List Nat
  | .a x => x.ids
  | .agg cs => cs.flatMap At.ids

def SV.ids : SV → List Nat
  | .undef => []
  | .a x => x.ids
  | .agg cs => cs.flatMap At.ids
  | .tup vs => vs.flatMap T2.ids
  | .clo _ c1 c2 => (c1 ++ c2).flatMap At.ids

def LObj.ids : LObj → List Nat
  | .box _ cs => cs.flatMap At.ids
  | .map z es => if z then [] else es.flatMap fun e => e.2.ids
  | .clos _ cs => cs.flatMap fun c => (c.2.1 ++ c.2.2).flatMap At.ids
  | _ => []

/-- Adds what is reached from some, in the order of the first meeting; 'acc' in reverse. -/
def reach (os : Objs) : Nat → List Nat → List Nat → List Nat
  | 0, _, acc => acc
  | _, [], acc => acc
  | d + 1, i :: r, acc => if acc.contains i then reach os d r acc else match obj os i with
    | some o => reach os d (o.ids ++ r) (i :: acc)
    | none => reach os d r acc

def idxOf (i : Nat) : List Nat → Nat → Option Nat
  | [], _ => none
  | j :: r, n => if i = j then some n else idxOf i r (n + 1)

def At.ren (f : Nat → Option Nat) : At → Option At
  | .v x => some (.v x)
  | .loc i o => match f i with | some j => some (.loc j o) | none => none
  | .el i s k o => match f i with | some j => some (.el j s k o) | none => none
  | .fadr c o => some (.fadr c o)
  | .own i => match f i with | some j => some (.own j) | none => none
  | .win i s l n => match f i with | some j => some (.win j s l n) | none => none
  | .mapr i => match f i with | some j => some (.mapr j) | none => none
  | .itr i => match f i with | some j => some (.itr j) | none => none

def renL (f : Nat → Option Nat) : List At → Option (List At)
  | [] => some []
  | x :: r => match x.ren f, renL f r with | some x, some r => some (x :: r) | _, _ => none

def T2.ren (f : Nat → Option Nat) : T2 → Option T2
  | .a x => match x.ren f with | some x => some (.a x) | none => none
  | .agg cs => match renL f cs with | some cs => some (.agg cs) | none => none

def renT (f : Nat → Option Nat) : List T2 → Option (List T2)
  | [] => some []
  | x :: r => match x.ren f, renT f r with | some x, some r => some (x :: r) | _, _ => none

/-- A slot whose object is gone is unknown. -/
def SV.ren (f : Nat → Option Nat) : SV → SV
  | .undef => .undef
  | .a x => match x.ren f with | some x => .a x | none => .undef
  | .agg cs => match renL f cs with | some cs => .agg cs | none => .undef
  | .tup vs => match renT f vs with | some vs => .tup vs | none => .undef
  | .clo g c1 c2 => match renL f c1, renL f c2 with | some d1, some d2 => .clo g d1 d2 | _, _ => .undef

def renM (f : Nat → Option Nat) : List (V × T2) → Option (List (V × T2))
  | [] => some []
  | (k, x) :: r => match x.ren f, renM f r with | some x, some r => some ((k, x) :: r) | _, _ => none

def renC (f : Nat → Option Nat) : List (FuncId × List At × List At) → Option (List (FuncId × List At × List At))
  | [] => some []
  | (g, c1, c2) :: r => match renL f c1, renL f c2, renC f r with | some c1, some c2, some r => some ((g, c1, c2) :: r) | _, _, _ => none

/-- An object that leads to one that is gone is gone. -/
def LObj.ren (f : Nat → Option Nat) : LObj → Option LObj
  | .box ty cs => match renL f cs with | some cs => some (.box ty cs) | none => none
  | .map z es => if z then some (.map true es) else match renM f es with | some es => some (.map false es) | none => none
  | .clos e cs => match renC f cs with | some cs => some (.clos e cs) | none => none
  | o => some o

def scrub (live : List Nat) : Nat → List SV → List SV
  | _, [] => []
  | n, x :: r => (if live.contains n then x else .undef) :: scrub live (n + 1) r

def renO (f : Nat → Option Nat) (os : Objs) (i : Nat) : Option LObj :=
  match obj os i with
  | some o => o.ren f
  | none => none

def objIds : Option LObj → List Nat
  | some o => o.ids
  | none => []

/-- The objects that live on: those of the caller (below n0) aside. -/
def canonIds (n0 : Nat) (fr : List SV) (os : Objs) : List Nat :=
  ((reach os 1000 ((os.take n0).flatMap objIds ++ fr.flatMap SV.ids) []).reverse).filter (fun i => decide (n0 ≤ i))

def canonF (n0 : Nat) (ids : List Nat) (i : Nat) : Option Nat := if i < n0 then some i else idxOf i ids n0

def canonOf (n0 : Nat) (fr : List SV) (os : Objs) (ids : List Nat) : St :=
  ⟨fr.map (SV.ren (canonF n0 ids)), (List.range n0).map (renO (canonF n0 ids) os) ++ ids.map (renO (canonF n0 ids) os)⟩

/-- What lives on at a loop's head: the live slots, the objects of the caller (below n0), those that they reach, in one order. -/
def canon (n0 : Nat) (live : List Nat) (st : St) : St :=
  canonOf n0 (scrub live 0 st.fr) st.objs (canonIds n0 (scrub live 0 st.fr) st.objs)

/-! ### A region whose order is open -/
def mask (q : List Nat) : Nat → Objs → Objs
  | _, [] => []
  | n, o :: r => (if q.contains n then o else none) :: mask q (n + 1) r

def merge (q : List Nat) : Nat → Objs → Objs → Objs
  | _, [], news => news
  | n, o :: r, x :: news => (if q.contains n then x else o) :: merge q (n + 1) r news
  | _, os, [] => os

def SOp.opds : SOp → List SOpd
  | .mv x | .box _ _ x | .ld _ _ x | .nchk x | .un _ x | .cvI _ x | .cvS x | .cvSB _ x | .cvBS x | .cvIS x | .fadr _ x | .fld _ _ _ x | .rng x | .nxt x | .ext x _ | .len _ x | .mkif _ x => [x]
  | .pick a b c | .mupd _ a b c | .esto a b c => [a, b, c]
  | .alloc .. | .mkmap | .lenc _ | .bad => []
  | .build _ ps => ps.map (·.2.2)
  | .lit _ _ _ _ ps => ps.map (·.2)
  | .s2a _ a => [a]
  | .ment _ _ a b | .st _ a b | .ari _ a b | .eq _ _ a b | .iadr _ a b | .iadrA _ _ a b | .idxS a b | .idxA _ _ _ a b | .look _ _ _ a b | .mksl _ _ _ a b | .app _ _ a b | .minmax _ a b => [a, b]
  | .slcS x l h | .slcL _ x l h | .slcA _ _ _ x l h => x :: (l.toList ++ h.toList)
  | .call _ as | .litF _ as => as
  | .callv f as => f :: as
  | .clo _ a b => a ++ b

/-- What one operation of an open order has to do with: the objects that it may read, those that it may write. -/
structure Foot where
  rd : List Nat
  wr : List Nat

def disjoint (a b : List Nat) : Bool := a.all fun x => !b.contains x

def Foot.apart (a b : Foot) : Bool := disjoint a.wr b.rd && disjoint a.wr b.wr && disjoint a.rd b.wr

/-- All that an operation hangs on, through others too. -/
def allPreds (ps : List (List Nat)) (l : List Nat) : List Nat := l ++ l.flatMap fun i => ps.getD i []

def closure : List SOper → List (List Nat) → List (List Nat)
  | [], acc => acc
  | o :: r, acc => closure r (acc ++ [(allPreds acc o.preds).eraseDups])

/-- What an operation may look into: the objects at hand, those that it may freeze or hand on; and whether it may change them. -/
def foot (fr : List SV) (os : Objs) (op : SOp) : List Nat × Bool :=
  let d (x : SOpd) : List Nat := match opd fr x with | .a y => y.ids | _ => []
  let all (xs : List SOpd) : List Nat := reach os 1000 ((xs.map (opd fr)).flatMap SV.ids) []
  match op with
  | .ld _ _ x | .iadr _ x _ | .len _ x | .cvBS x => (d x, false)
  | .st _ x v => (match opd fr x with | .a (.el i _ _ _) => i :: all [v] | _ => d x, true)
  | .nxt x => (d x, true)
  | .lit _ _ _ _ ps => (all (ps.map (·.2)), true)
  | .slcL _ x _ _ | .slcA _ _ _ x _ _ | .mkif _ x | .s2a _ x => (all [x], true)
  | .look _ _ _ x i => (d x ++ all [i], true)
  | .mupd _ x k _ | .ment _ _ x k => (d x ++ all [k], true)
  | .esto x _ _ => (d x, true)
  | .app _ _ s x => (d s ++ all [x], true)
  | .call _ as => (all as, true)
  | .callv f as => (all (f :: as), true)
  | _ => ([], false)

def SOper.uses (o : SOper) : List Nat := (o.op.opds.filterMap fun | .t n => some n | _ => none) ++ (match o.guard with | some (g, _) => [g] | none => [])

/-- What one operation of an open order has done: its result, the objects that it saw, those that it wrote or made, all objects behind it. -/
structure DStep where
  dst : Option Nat
  sv : SV
  rd : List Nat
  wr : List Nat
  n : Nat
  objs : Objs

def evDraw (mm : Bool) (call : CallT) : List SOper → St → Option (St × List DStep)
  | [], st => some (st, [])
  | o :: r, st => match wants st.fr o.guard with
    | some true =>
      let fr := scrub o.uses 0 st.fr
      let q := foot fr st.objs o.op
      let os := mask q.1 0 st.objs
      if (fr.flatMap SV.ids ++ os.flatMap objIds).all (fun i => decide (i < st.objs.length)) then
        match evOp mm call fr os o.op with
        | some y => if st.objs.length ≤ y.objs.length then
            let d : DStep := ⟨o.dst, y.sv, q.1, (if q.2 then q.1.filter (fun i => decide (i < st.objs.length)) else []) ++ List.range' st.objs.length (y.objs.length - st.objs.length), st.objs.length, y.objs⟩
            match evDraw mm call r ⟨put st.fr o.dst y.sv, merge d.wr 0 st.objs y.objs⟩ with
            | some (st', l) => some (st', d :: l)
            | none => none
          else none
        | none => none
      else none
    | some false => match evDraw mm call r ⟨put st.fr o.dst .void, st.objs⟩ with
      | some (st', l) => some (st', ⟨o.dst, .void, [], [], st.objs.length, []⟩ :: l)
      | none => none
    | none => none

/-- Is the list's order one of the orders? -/
def ordered : List SOper → Nat → Bool
  | [], _ => true
  | o :: r, i => o.preds.all (fun p => decide (p < i)) && ordered r (i + 1)

def usesOk (ops : List SOper) (ps : List (List Nat)) : Bool :=
  (List.range ops.length).all fun j => (List.range j).all fun i =>
    match ops[i]?, ops[j]? with
    | some a, some b =>
      (ps.getD j []).contains i ||
      (match a.dst with | some d => !b.uses.contains d && b.dst != some d | none => true) && (match b.dst with | some d => !a.uses.contains d | none => true)
    | _, _ => true

def DStep.foot (d : DStep) : Foot := ⟨d.rd, d.wr⟩

def footOk (ps : List (List Nat)) (ds : List DStep) : Bool :=
  (List.range ds.length).all fun j => (List.range j).all fun i =>
    match ds[i]?, ds[j]? with
    | some a, some b => (ps.getD j []).contains i || a.foot.apart b.foot
    | _, _ => true

def evRegion (mm : Bool) (call : CallT) (ops : List SOper) (draw : Bool) (st : St) : Option St :=
  if draw then
    let ps := closure ops []
    if ordered ops 0 && usesOk ops ps then
      match evDraw mm call ops st with
      | some (st', ds) => if footOk ps ds then some st' else none
      | none => none
    else none
  else evOps mm call ops st

/-! ### Code -/
inductive X where
  | n
  | ret
  | ex (id : Nat)

def evLoop (step : St → Option (X × St)) : Nat → St → Option (X × St)
  | 0, _ => none
  | k + 1, st => match step st with
    | some (.n, st') => evLoop step k st'
    | r => r

/-- Where a loop is left: what lives on, as at a loop's head. -/
def tidy (n0 : Nat) (l : Option (List Nat)) (st : St) : St :=
  match l with
  | some live => canon n0 live st
  | none => st

def evCode (mm : Bool) (call : CallT) (F n0 : Nat) : SC → St → Option (X × St)
  | .skip, st => some (.n, st)
  | .region ops draw, st => match evRegion mm call ops draw st with
    | some st' => some (.n, st')
    | none => none
  | .seq a b, st => match evCode mm call F n0 a st with
    | some (.n, st') => evCode mm call F n0 b st'
    | r => r
  | .cond c a b, st => match opd st.fr c with
    | .a (.v (.bool true)) => evCode mm call F n0 a st
    | .a (.v (.bool false)) => evCode mm call F n0 b st
    | _ => none
  | .block id b, st => match evCode mm call F n0 b st with
    | some (.ex j, st') => some (if j = id then .n else .ex j, st')
    | r => r
  | .loop live b, st => evLoop (fun st => evCode mm call F n0 b (canon n0 live st)) F st
  | .exit id l, st => some (.ex id, tidy n0 l st)
  | .ret l, st => some (.ret, tidy n0 l st)
  | .bad, _ => none

def results (st : St) : List (Nat × Option (Nat × Bool)) → Option (List T2)
  | [] => some []
  | (t, none) :: r => match toT2 (nth st.fr t), results st r with
    | some x, some l => some (x :: l)
    | _, _ => none
  | (t, some (n, ag)) :: r => match loadA st.objs n ag (nth st.fr t) with
    | some s => match toT2 s, results st r with
      | some x, some l => some (x :: l)
      | _, _ => none
    | none => none

def resSV : List T2 → SV
  | [x] => x.sv
  | l => mkTup l

/-- Lets go what nobody can reach: what was made, if neither the result nor an elder object leads to it. -/
def letGo (n0 : Nat) (r : R) : R :=
  if (r.sv.ids ++ (r.objs.take n0).flatMap objIds).all (fun i => decide (i < n0)) then ⟨r.sv, r.objs.take n0⟩ else r

/-- An answer is frozen, unless it leads to the caller's own objects, or is to be written on ('keep'). -/
def finish (mm : Bool) (n0 : Nat) (sv : SV) (os : Objs) : Option R :=
  if mm then some (letGo n0 ⟨sv, os⟩) else
  match freezeS os sv with
  | some (v, os) => some (letGo n0 ⟨.a (.v v), os⟩)
  | none => some (letGo n0 ⟨sv, os⟩)

def evFn (call : CallT) (F : Nat) (fn : SFn) (args : List SV) (os : Objs) : Option R :=
  match evCode fn.mm call F os.length fn.body ⟨args ++ List.replicate (fn.ntmps - args.length) .undef, os⟩ with
  | some (.n, st) | some (.ret, st) => match results st fn.results with
    | some l => finish fn.keep os.length (resSV l) st.objs
    | none => none
  | _ => none

/-- A callee that is told by a function of values. -/
def freezeArgs : Objs → List SV → Option (List V × Objs)
  | os, [] => some ([], os)
  | os, x :: r => match freezeS os x with
    | some (v, os) => match freezeArgs os r with
      | some (vs, os) => some (v :: vs, os)
      | none => none
    | none => none

def pureCall (sp : List V → Option V) (args : List SV) (os : Objs) : Option R :=
  match freezeArgs os args with
  | some (vs, os) => match sp vs with
    | some r => some ⟨.a (.v r), os⟩
    | none => none
  | none => none

abbrev Told := FuncId → Option (List SV → Objs → Option R)

def callN (tab : Told) (code : FuncId → Option SFn) (F : Nat) : Nat → CallT
  | 0 => fun f args os => match tab f with
    | some sp => sp args os
    | none => none
  | d + 1 => fun f args os => match tab f with
    | some sp => sp args os
    | none => match code f with
      | some fn => evFn (callN tab code F d) F fn args os
      | none => none

/-- Told answers first, else the code's. -/
def callM (tab : CallT) (code : FuncId → Option SFn) (F : Nat) : Nat → CallT
  | 0 => tab
  | d + 1 => fun f args os => match tab f args os with
    | some r => some r
    | none => match code f with
      | some fn => evFn (callM tab code F d) F fn args os
      | none => none

end Go.Ev
