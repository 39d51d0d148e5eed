/- From the loaded code to the evaluator's. -/
import Derived.Test.YtmlhdhndjgdoaaaGreatDoorCuEv
import GoSem.Core.Code
import GoSem.Core.Region
import GoSem.Core.Layout
namespace Go.Ev

def ofCell : Value → Option V
  | .bool b => some (.bool b)
  | .int k n => some (.int k n)
  | .string s => some (.str s.data.toList)
  | .pointer none => some .nilp
  | .slice none 0 0 => some .nils
  | .map none => some .nilm
  | .nilFunc => some .nilf
  | .nilIface => some .nili
  | _ => none

def ofCells : List Value → Option (List V)
  | [] => some []
  | x :: r => match ofCell x, ofCells r with
    | some y, some l => some (y :: l)
    | _, _ => none

def ofValue : Value → Option V
  | .agg cs => match ofCells cs.toList with | some l => some (.agg l) | none => none
  | .tuple vs => if vs.size = 0 then some .void else none
  | x => ofCell x

def cOpd : Operand → Option SOpd
  | .tmp t => some (.t t)
  | .const v => match ofValue v with | some x => some (.c x) | none => none
  | .func f => some (.f f)
  | .global _ => none

def cOpds : List Operand → Option (List SOpd)
  | [] => some []
  | x :: r => match cOpd x, cOpds r with
    | some y, some l => some (y :: l)
    | _, _ => none

def cOpt : Option Operand → Option (Option SOpd)
  | none => some none
  | some x => match cOpd x with | some y => some (some y) | none => none

section
variable (P : Program)

def zeroOf (t : TypeId) : Option V :=
  match P.info? t with
  | some i => match i.zero with | some v => ofValue v | none => none
  | none => none

def sizeT (t : TypeId) : Option Nat := (P.info? t).map (·.size)
def bytesT (t : TypeId) : Option Nat := (P.info? t).map (·.bytes)

def aggT (t : TypeId) : Option Bool :=
  match P.underlying t with
  | some (.struct _) | some (.array _ _) => some true
  | some _ => some false
  | none => none

/-- Do a struct's fields lie one behind the other? -/
def tiles : List Field → Nat → Option Nat
  | [], o => some o
  | f :: r, o => match sizeT P f.type with
    | some n => if f.offset = o then tiles r (o + n) else none
    | none => none

/-- All of a type's cells are numbers, bools, strings: which. -/
def fieldsK (f : TypeId → Option (List FK)) : List Field → Option (List FK)
  | [] => some []
  | fd :: r => if fd.name = "_" then none else match f fd.type, fieldsK f r with
    | some a, some b => some (a ++ b)
    | _, _ => none

def flatK : Nat → TypeId → Option (List FK)
  | 0, _ => none
  | d + 1, t => match P.underlying t, sizeT P t with
    | some .bool, some n => if n = 1 then some [.b] else none
    | some (.int _), some n => if n = 1 then some [.i] else none
    | some .string, some n => if n = 1 then some [.s] else none
    | some (.struct fs), some n => if P.stoodInHeld t = false ∧ tiles P fs.toList 0 = some n then match fieldsK (flatK d) fs.toList with
      | some ks => if ks.length = n then some ks else none
      | none => none else none
    | some (.array k e), some n => match flatK d e, sizeT P e with
      | some ks, some m => if ks.length = m ∧ n = k * m then some (List.replicate k ks).flatten else none
      | _, _ => none
    | _, _ => none

def flatKT (t : TypeId) : Option KT :=
  match aggT P t, flatK P 8 t with
  | some g, some ks => some ⟨g, ks⟩
  | _, _ => none

def cParts (f : Nat → Option (Nat × Nat)) : List (Nat × Operand) → Option (List (Nat × Nat × SOpd))
  | [] => some []
  | (i, x) :: r => match f i, cOpd x, cParts f r with
    | some (o, s), some y, some l => some ((o, s, y) :: l)
    | _, _, _ => none

def cLit : List (Nat × Operand) → Option (List (Nat × SOpd))
  | [] => some []
  | (i, x) :: r => match cOpd x, cLit r with
    | some y, some l => some ((i, y) :: l)
    | _, _ => none

def isNilConst : Operand → Bool
  | .const .nilIface => true
  | _ => false

def cEq (neg : Bool) (t : TypeId) (x y : Operand) : Option SOp :=
  match cOpd x, cOpd y, P.underlying t with
  | some a, some b, some d => match d with
    | .int _ | .string => some (.ari (if neg then .neq else .eql) a b)
    | .bool => match flatKT P t with | some kt => some (.eq neg (.flat kt) a b) | none => none
    | .pointer _ => some (.eq neg .ptr a b)
    | .slice _ => some (.eq neg .slc a b)
    | .map _ _ => some (.eq neg .mp a b)
    | .func _ _ _ => some (.eq neg .fn a b)
    | .interface _ => if isNilConst x || isNilConst y then some (.eq neg .ifc a b) else none
    | .struct _ | .array _ _ => if 8 ≤ P.depth then (match flatKT P t with | some kt => some (.eq neg (.flat kt) a b) | none => none) else none
    | _ => none
  | _, _, _ => none

def cConv (s d : TypeId) (x : SOpd) : Option SOp :=
  match P.underlying s, P.underlying d with
  | some (.int _), some (.int k) => some (.cvI k x)
  | some .string, some .string => some (.cvS x)
  | some .string, some (.slice e) => match P.underlying e with | some (.int .u8) => some (.cvSB e x) | _ => none
  | some (.slice e), some .string => match P.underlying e with | some (.int .u8) => some (.cvBS x) | _ => none
  | some (.int _), some .string => some (.cvIS x)
  | _, _ => none

def cSlice (t : TypeId) (x : SOpd) (lo hi : Option SOpd) : Option SOp :=
  match P.underlying t with
  | some .string => some (.slcS x lo hi)
  | some (.slice e) => match sizeT P e with | some n => some (.slcL n x lo hi) | none => none
  | some (.array n e) => match sizeT P e, aggT P e with | some s, some g => some (.slcA n s g x lo hi) | _, _ => none
  | _ => none

def cFieldAddr (s : TypeId) (x : SOpd) (f : Nat) : Option SOp :=
  match P.underlying s with
  | some (.struct fs) => match fs[f]? with
    | some fd => match sizeT P fd.type with
      | some n => if n = 0 then none else some (.fadr fd.offset x)
      | none => none
    | none => none
  | _ => none

def cField (s : TypeId) (x : SOpd) (f : Nat) : Option SOp :=
  match P.underlying s with
  | some (.struct fs) => match fs[f]? with
    | some fd => match sizeT P fd.type, aggT P fd.type with
      | some n, some g => some (.fld fd.offset n g x)
      | _, _ => none
    | none => none
  | _ => none

def cIndexAddr (t : TypeId) (x i : SOpd) : Option SOp :=
  match P.underlying t with
  | some (.slice e) => match sizeT P e with | some s => if s = 0 then none else some (.iadr s x i) | none => none
  | some (.array n e) => match sizeT P e with | some s => if s = 0 then none else some (.iadrA n s x i) | none => none
  | _ => none

def cIndex (t : TypeId) (x i : SOpd) : Option SOp :=
  match P.underlying t with
  | some .string => some (.idxS x i)
  | some (.array n e) => match sizeT P e, aggT P e with | some s, some g => some (.idxA n s g x i) | _, _ => none
  | _ => none

def placeT (fs : Array Field) (i : Nat) : Option (Nat × Nat) :=
  match fs[i]? with | some f => (sizeT P f.type).map (f.offset, ·) | none => none

def cBuild (t : TypeId) (parts : Array (Nat × Operand)) : Option SOp :=
  match zeroOf P t with
  | some (.agg z) => match P.underlying t with
    | some (.struct fs) => if (fs.toList.all fun f => (sizeT P f.type).isSome) = false then none else match cParts (placeT P fs) parts.toList with
      | some ps => some (.build z ps)
      | none => none
    | some (.array _ e) => match sizeT P e with
      | some s => match cParts (fun i => some (i * s, s)) parts.toList with
        | some ps => some (.build z ps)
        | none => none
      | none => none
    | _ => none
  | _ => none

def cBuiltin (b : Builtin) (args : List SOpd) (ts : List TypeId) : Option SOp :=
  match b, args, ts with
  | .len, [x], [t] => match P.underlying t with
    | some (.array n _) => some (.lenc n)
    | some (.pointer a) => match P.underlying a with | some (.array n _) => some (.lenc n) | _ => none
    | some .string => some (.len 0 x)
    | some (.slice _) => some (.len 1 x)
    | some (.map _ _) => some (.len 2 x)
    | _ => none
  | .append, [s, x], [t, u] => match P.underlying t, P.underlying u with
    | some (.slice e), some (.slice _) | some (.slice e), some .string => match sizeT P e, bytesT P e, zeroOf P e with
      | some n, some m, some z => if n = 0 ∨ m = 0 ∨ m > 65536 ∨ z.cells.length ≠ n then none else some (.app e n s x)
      | _, _, _ => none
    | _, _ => none
  | .min, [x, y], _ => some (.minmax false x y)
  | .max, [x, y], _ => some (.minmax true x y)
  | _, _, _ => none

def cCall (c : Call) : Option SOp :=
  match cOpds c.args.toList with
  | some as => match c.callee with
    | .value (.func f) => match P.funcs[f]? with
      | some fn => if fn.body.isSome && fn.name != "runtime.NumGoroutine" then some (.call f as) else none
      | none => none
    | .value x => match cOpd x with | some y => some (.callv y as) | none => none
    | .builtin b => cBuiltin P b as c.argTypes.toList
    | .invoke _ _ => none
  | none => none

def un1 (x : Operand) (f : SOpd → Option SOp) : Option SOp := match cOpd x with | some y => f y | none => none
def un2 (x y : Operand) (f : SOpd → SOpd → Option SOp) : Option SOp := match cOpd x, cOpd y with | some a, some b => f a b | _, _ => none

def cOp : Op → Option SOp
  | .move x | .assign x => un1 x fun x => some (.mv x)
  | .pick c a b => match cOpd c, cOpd a, cOpd b with | some c, some a, some b => some (.pick c a b) | _, _, _ => none
  | .alloc e => match zeroOf P e with | some z => some (.alloc e z.cells) | none => none
  | .box e x => match sizeT P e with | some n => un1 x fun x => some (.box e n x) | none => none
  | .build t ps => cBuild P t ps
  | .buildSlice t n ps => match P.underlying t with
    | some (.slice e) => match P.underlying e with
      | some (.func _ _ _) => if ps.toList.map (·.1) = List.range n ∧ 0 < n ∧ n ≤ 16777216 ∧ sizeT P e = some 1 ∧ (zeroOf P e).map (·.cells.length) = some 1 then match cOpds (ps.toList.map (·.2)) with | some xs => some (.litF e xs) | none => none else none
      | _ => match sizeT P e, zeroOf P e, cLit ps.toList with
        | some s, some z, some l => if s = 0 ∨ n * s > 16777216 ∨ z.cells.length ≠ s then none else some (.lit e s z n l)
        | _, _, _ => none
    | _ => none
  | .load t a => match aggT P t, sizeT P t with
    | some g, some n => un1 a fun a => some (.ld n g a)
    | _, _ => none
  | .store t a v => match sizeT P t with | some n => un2 a v fun a v => some (.st n a v) | none => none
  | .nilCheck x => un1 x fun x => some (.nchk x)
  | .binOp .eql t x y _ => cEq P false t x y
  | .binOp .neq t x y _ => cEq P true t x y
  | .binOp op _ x y _ => un2 x y fun x y => some (.ari op x y)
  | .unOp op _ x => un1 x fun x => some (.un op x)
  | .convert s d x => un1 x fun x => cConv P s d x
  | .makeInterface t x => match P.underlying t with
    | some (.interface _) => none
    | some _ => un1 x fun x => some (.mkif t x)
    | none => none
  | .makeFunc (.func f) a b => match cOpds a.toList, cOpds b.toList with | some a, some b => some (.clo f a b) | _, _ => none
  | .makeMap _ none => some .mkmap
  | .makeSlice t l c => match P.underlying t with
    | some (.slice e) => match sizeT P e, bytesT P e, zeroOf P e with
      | some s, some m, some z => if s = 0 ∨ m > 65536 ∨ z.cells.length ≠ s then none else un2 l c fun l c => some (.mksl e s z l c)
      | _, _, _ => none
    | _ => none
  | .slice t x lo hi none => match cOpd x, cOpt lo, cOpt hi with
    | some x, some lo, some hi => cSlice P t x lo hi
    | _, _, _ => none
  | .fieldAddr t x f => un1 x fun x => cFieldAddr P t x f
  | .field t x f => un1 x fun x => cField P t x f
  | .indexAddr t x i => un2 x i fun x i => cIndexAddr P t x i
  | .index t x i => un2 x i fun x i => cIndex P t x i
  | .lookup t x i ok => match P.underlying t with
    | some (.map k e) => match flatKT P k, zeroOf P e with | some kt, some z => un2 x i fun x i => some (.look kt z ok x i) | _, _ => none
    | _ => none
  | .mapUpdate t m k v | .insert t m k v => match P.underlying t with
    | some (.map kt _) => match flatKT P kt with | some kt => (match cOpd m, cOpd k, cOpd v with | some m, some k, some v => some (.mupd kt m k v) | _, _, _ => none) | none => none
    | _ => none
  | .mapEntry t m k => match P.underlying t with
    | some (.map kt e) => match flatKT P kt, zeroOf P e with | some kt, some z => un2 m k fun m k => some (.ment kt z m k) | _, _ => none
    | _ => none
  | .entryStore _ m i v => match cOpd m, cOpd i, cOpd v with | some m, some i, some v => some (.esto m i v) | _, _, _ => none
  | .sliceToArrayPointer t x => match P.underlying t with
    | some (.array n _) => un1 x fun x => some (.s2a n x)
    | _ => none
  | .range t x => match P.underlying t with
    | some .string => un1 x fun x => some (.rng x)
    | _ => none
  | .next x true => un1 x fun x => some (.nxt x)
  | .extract x i => un1 x fun x => some (.ext x i)
  | .call c => cCall P c
  | _ => none

/-- What isn't known is bad: a run that comes to it has no answer. -/
def cOpB (o : Op) : SOp := (cOp P o).getD .bad

def cOps (all : Array Oper) : List Oper → Option (List SOper)
  | [] => some []
  | o :: r => match cOps all r with
    | some l =>
      let s := cOpB P o.op
      let ps := (o.after.toList.filter (Region.binds .any)).map (·.on)
      match o.guard with
      | none => some (⟨o.dst, s, none, ps⟩ :: l)
      | some (j, want) => match (all[j]?).bind (·.dst) with
        | some t => some (⟨o.dst, s, some (t, want), ps⟩ :: l)
        | none => none
    | none => none

def cCode : Code → SC
  | .skip => .skip
  | .region _ ops draw => match cOps P ops ops.toList with
    | some l => .region l draw
    | none => .bad
  | .seq a b => .seq (cCode a) (cCode b)
  | .cond c a b => match cOpd c with | some c => .cond c (cCode a) (cCode b) | none => .bad
  | .block id b => .block id (cCode b)
  | .loop b => .loop [] (cCode b)
  | .exit id => .exit id none
  | .ret => .ret none
  | _ => .bad
end

/-! ### What lives at a loop's head (a hint: nothing hangs on it) -/
def ins (a : List Nat) : List Nat → List Nat
  | [] => a
  | x :: r => if a.contains x then ins a r else ins (x :: a) r

def liveOps : List SOper → List Nat → List Nat
  | [], out => out
  | o :: r, out => ins ((liveOps r out).filter fun t => some t != o.dst) o.uses

def liveAt (id : Nat) (env : List (Nat × List Nat)) : List Nat := match env.find? (·.1 == id) with | some (_, l) => l | none => []

def liveSC (retL : List Nat) : SC → List Nat → List (Nat × List Nat) → List Nat
  | .skip, out, _ => out
  | .region ops _, out, _ => liveOps ops out
  | .seq a b, out, env => liveSC retL a (liveSC retL b out env) env
  | .cond c a b, out, env => ins (ins (liveSC retL a out env) (liveSC retL b out env)) (match c with | .t n => [n] | _ => [])
  | .block id b, out, env => liveSC retL b out ((id, out) :: env)
  | .loop _ b, _, env => liveSC retL b (liveSC retL b [] env) env
  | .exit id _, _, env => liveAt id env
  | .ret _, _, _ => retL
  | .bad, _, _ => []

/-- 'inl': the blocks within the innermost loop. -/
def annot (retL : List Nat) : Option (List Nat) → SC → List Nat → List (Nat × List Nat) → SC
  | inl, .seq a b, out, env => .seq (annot retL inl a (liveSC retL b out env) env) (annot retL inl b out env)
  | inl, .cond c a b, out, env => .cond c (annot retL inl a out env) (annot retL inl b out env)
  | inl, .block id b, out, env => .block id (annot retL (inl.map fun l => id :: l) b out ((id, out) :: env))
  | _, .loop l b, out, env =>
    let h := liveSC retL (.loop l b) out env
    .loop h (annot retL (some []) b h env)
  | inl, .exit id _, _, env => .exit id (match inl with | some l => if l.contains id then none else some (liveAt id env) | none => none)
  | inl, .ret _, _, _ => .ret (inl.map fun _ => retL)
  | _, c, _, _ => c

def cResults (P : Program) : List ResultVar → Option (List (Nat × Option (Nat × Bool)))
  | [] => some []
  | .tmp t :: r => match cResults P r with | some l => some ((t, none) :: l) | none => none
  | .cell a t :: r => match sizeT P t, aggT P t, cResults P r with
    | some n, some g, some l => some ((a, some (n, g)) :: l)
    | _, _, _ => none

/-- Does a function write into a slice's elements? (a hint too) -/
def elemTmps : SC → List Nat
  | .region ops _ => ops.foldl (fun acc o => match o.op, o.dst with
    | .iadr _ _ _, some d => d :: acc
    | .fadr _ (.t n), some d => if acc.contains n then d :: acc else acc
    | .iadrA _ _ (.t n) _, some d => if acc.contains n then d :: acc else acc
    | .nchk (.t n), some d => if acc.contains n then d :: acc else acc
    | _, _ => acc) []
  | .seq a b | .cond _ a b => elemTmps a ++ elemTmps b
  | .block _ b | .loop _ b => elemTmps b
  | _ => []

def storesTo (l : List Nat) : SC → Bool
  | .region ops _ => ops.any fun o => match o.op with | .st _ (.t n) _ => l.contains n | _ => false
  | .seq a b | .cond _ a b => storesTo l a || storesTo l b
  | .block _ b | .loop _ b => storesTo l b
  | _ => false

/-- A function's code; 'mm': its rows are written in place (by itself, or by one that it calls). -/
def cFn (P : Program) (keep mm : Bool) (fn : Func) : Option SFn :=
  match fn.body, cResults P fn.results.toList with
  | some c, some rs => let retL := rs.map (·.1); let sc := cCode P c; some ⟨fn.ntmps, rs, annot retL none sc retL [], storesTo (elemTmps sc) sc || mm, keep⟩
  | _, _ => none

end Go.Ev
