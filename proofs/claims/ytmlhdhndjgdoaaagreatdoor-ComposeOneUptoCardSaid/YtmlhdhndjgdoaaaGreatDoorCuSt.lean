/- The staged evaluator: it goes on with what an operation tells; what hangs on a value's content stands as 'Option.bind' or 'cond'. Nothing is proved here. -/
import Derived.Test.YtmlhdhndjgdoaaaGreatDoorCuEv
namespace Go.Ev

/-- Kinds of one cell's value. -/
inductive Tk where
  | any | bool | str | sl | mp | pt
  | int (k : IntKind)

inductive T1 where
  | k (t : Tk)
  | agg (l : List Tk)

/-- What is known of an operation's result. -/
inductive Ty where
  | any
  | t1 (t : T1)
  | ptr (l : List Tk)
  | tup (l : List T1)

def asInt? (k : IntKind) : V → Option Int
  | .int k' n => if k' = k then some n else none
  | _ => none
def asBool? : V → Option Bool
  | .bool b => some b
  | _ => none
def asStr? : V → Option (List UInt8)
  | .str s => some s
  | _ => none
def asSl? : V → Option (Option (List V))
  | .sl o => some o
  | _ => none
def asMp? : V → Option (Option (List V))
  | .mp o => some o
  | _ => none
def asPt? : V → Option (Option (List V))
  | .pt o => some o
  | _ => none
def asAgg? (n : Nat) : V → Option (List V)
  | .agg cs => if cs.length = n then some cs else none
  | _ => none
def asPtr? (n : Nat) : V → Option (List V)
  | .pt (some cs) => if cs.length = n then some cs else none
  | _ => none
def asTup? (n : Nat) : V → Option (List V)
  | .tup cs => if cs.length = n then some cs else none
  | _ => none

section
variable {β : Type}

/-- Goes on where it holds. -/
def chk (c : Bool) (k : Option β) : Option β := cond c k none

def dK (t : Tk) (v : V) (K : V → Option β) : Option β :=
  match t with
  | .any => K v
  | .bool => (asBool? v).bind fun b => K (.bool b)
  | .str => (asStr? v).bind fun s => K (.str s)
  | .sl => (asSl? v).bind fun o => K (.sl o)
  | .mp => (asMp? v).bind fun o => K (.mp o)
  | .pt => (asPt? v).bind fun o => K (.pt o)
  | .int k => (asInt? k v).bind fun n => K (.int k n)

def dL : List Tk → Nat → List V → (List V → Option β) → Option β
  | [], _, _, K => K []
  | t :: r, i, vs, K => dK t (vs.getD i .nilp) fun v => dL r (i + 1) vs fun l => K (v :: l)

def d1 (t : T1) (v : V) (K : V → Option β) : Option β :=
  match t with
  | .k t => dK t v K
  | .agg l => (asAgg? l.length v).bind fun cs => dL l 0 cs fun cs => K (.agg cs)

def dL1 : List T1 → Nat → List V → (List V → Option β) → Option β
  | [], _, _, K => K []
  | t :: r, i, vs, K => d1 t (vs.getD i .nilp) fun v => dL1 r (i + 1) vs fun l => K (v :: l)

def dTy (t : Ty) (v : V) (K : V → Option β) : Option β :=
  match t with
  | .any => K v
  | .t1 t => d1 t v K
  | .ptr l => (asPtr? l.length v).bind fun cs => dL l 0 cs fun cs => K (.ptr cs)
  | .tup l => (asTup? l.length v).bind fun cs => dL1 l 0 cs fun cs => K (.tup cs)

/-- An element's cells. -/
def dEl (t : T1) (v : V) (K : List V → Option β) : Option β :=
  match t with
  | .k .any => chk v.one (K [v])
  | .k t => dK t v fun v => K [v]
  | .agg l => (asAgg? l.length v).bind fun cs => dL l 0 cs K

def dSV (t : Ty) (sv : SV) (K : SV → Option β) : Option β :=
  match t with
  | .any => K sv
  | t => match sv with
    | .a (.v v) => dTy t v fun v => K (.a (.v v))
    | sv => K sv

def Ty.el : Ty → T1
  | .t1 t => t
  | _ => .k .any

def T1.kinds : T1 → List Tk
  | .k t => [t]
  | .agg l => l

def Ty.ptrs : Ty → List Tk
  | .ptr l => l
  | _ => []

/-! ### What operations come to -/
def idxL {α : Type} (xs : List α) (n : Int) : Option α := if n < 0 then none else xs[n.toNat]?

def bI (lo hi : Option Int) (len : Nat) : Option (Nat × Nat) :=
  let h : Int := hi.getD len
  let l : Int := lo.getD 0
  if 0 ≤ h ∧ h ≤ len then (if 0 ≤ l ∧ l ≤ h then some (l.toNat, h.toNat) else none) else none

def cutL {α : Type} (lo hi : Option Int) (xs : List α) : Option (List α) :=
  match bI lo hi xs.length with
  | some (l, h) => some ((xs.drop l).take (h - l))
  | none => none

def slLen (o : Option (List V)) : Nat := (o.getD []).length

def cutSl (sz : Nat) (lo hi : Option Int) : Option (List V) → Option (Option (List V))
  | none => (cutL lo hi ([] : List V)).map fun _ => none
  | some xs => if xs.head?.all (fun y => y.cells.length == sz) then (cutL lo hi xs).map some else none

def nilS : Option (List V) → Option Bool
  | none => some true
  | some (_ :: _) => some false
  | some [] => none

def nilI : V → Option Bool
  | .nili => some true
  | .iface _ _ => some false
  | _ => none

def okEl (sz : Nat) (y : V) : Bool := y.cells.length == sz && y.cells.all V.one

def lookM (kt : KT) (k : V) : Option (List V) → Option (Option V)
  | none => some none
  | some es => findV kt k es

def lookE (kt : KT) (k : V) (es : List (V × T2)) : Option (Option V) :=
  match findE kt k es with
  | some (some (.a (.v y))) => some (some y)
  | some none => some none
  | _ => none

def eqB : List FK → List V → List V → Option Bool
  | [], [], [] => some true
  | [k], [a], [b] => eqF k a b
  | k :: ks, a :: r, b :: s => match eqF k a b, eqB ks r s with
    | some x, some y => some (x && y)
    | _, _ => none
  | _, _, _ => none

def strV (t : List UInt8) : List V := t.map fun b => .int .u8 b.toNat

def elV : V → Option (List V)
  | .str t => some (strV t)
  | .sl o => some (o.getD [])
  | _ => none

def slV : V → Option (List V)
  | .sl o => some (o.getD [])
  | _ => none

/-- One of so many, by its number. -/
def idxK {β : Type} : Nat → Nat → Int → (Nat → Option β) → Option β
  | 0, _, _, _ => none
  | k + 1, j, n, K => cond (n == (j : Int)) (K j) (idxK k (j + 1) n K)

def optI (fr : List SV) : Option SOpd → Option (Option Int)
  | none => some none
  | some l => match opd fr l with
    | .a (.v (.int _ n)) => some (some n)
    | _ => none

/-! ### Operations -/
def ariK (op : BinOp) (a b : V) (K : V → Option β) : Option β :=
  match a, b with
  | .int k a, .int k' b => match op with
    | .shl => chk (decide (0 ≤ b)) (K (.int k (k.wrap (a * 2 ^ (min b.toNat k.bits)))))
    | .shr => chk (decide (0 ≤ b)) (K (.int k (a.fdiv (2 ^ (min b.toNat k.bits)))))
    | .quo => if k = k' then chk (decide (b ≠ 0)) (K (.int k (k.wrap (a.tdiv b)))) else none
    | .rem => if k = k' then chk (decide (b ≠ 0)) (K (.int k (a.tmod b))) else none
    | op => if k = k' then (match ariI op k a b with | some v => K v | none => none) else none
  | .str s, .str t => match op with
    | .add => chk (decide (s.length + t.length ≤ maxStr)) (K (.str (s ++ t)))
    | op => match ariS op s t with | some v => K v | none => none
  | _, _ => none

def eqK (k : EqK) (x y : SV) (K : Bool → Option β) : Option β :=
  match k with
  | .flat kt => match x, y with
    | .a (.v a), .a (.v b) => match keyCells kt a, keyCells kt b with
      | some p, some q => match eqB kt.ks p q with
        | some b => K b
        | none => none
      | _, _ => none
    | _, _ => none
  | .slc => match y with
    | .a (.v (.sl none)) => match x with
      | .a (.v (.sl o)) => (nilS o).bind K
      | .a (.own _) => K false
      | _ => none
    | _ => none
  | .mp => match y with
    | .a (.v (.mp none)) => match x with
      | .a (.v (.mp o)) => K o.isNone
      | .a (.mapr _) => K false
      | _ => none
    | _ => none
  | .ptr => match y with
    | .a (.v (.pt none)) => match x with
      | .a (.v (.pt o)) => K o.isNone
      | .a (.loc _ _) => K false
      | _ => none
    | _ => none
  | .ifc => match y with
    | .a (.v .nili) => match x with
      | .a (.v v) => (nilI v).bind K
      | _ => none
    | _ => none
  | k => match eqV k x y with
    | some b => K b
    | none => none

def elemsK (os : Objs) (sv : SV) (K : List V → Option β) : Option β :=
  match sv with
  | .a (.v v) => (slV v).bind K
  | .a (.own i) => match obj os i with
    | some (.ext _ _ xs) => K xs
    | some (.arr _ _ xs) => K xs
    | _ => none
  | _ => none

def appK (mm : Bool) (e : TypeId) (sz : Nat) (os : Objs) (s : SV) (ys : List V) (K : SV → Objs → Option β) : Option β :=
  match s with
  | .a (.v (.sl none)) => cond ys.isEmpty (K (.a (.v .nils)) os) (chk (fits ys.length && ys.all (okEl sz)) (K (.a (.own os.length)) (os ++ [some (if mm then .arr e sz ys else .ext e sz ys)])))
  | .a (.own i) => match obj os i with
    | some (.ext e' sz' xs) => if e' = e ∧ sz' = sz then chk (fits (xs.length + ys.length) && ys.all (okEl sz)) (K (.a (.own os.length)) (os.set i none ++ [some (.ext e sz (xs ++ ys))])) else none
    | some (.arr e' sz' xs) => if e' = e ∧ sz' = sz then chk (fits (xs.length + ys.length) && ys.all (okEl sz)) (K (.a (.own os.length)) (os.set i none ++ [some (.arr e sz (xs ++ ys))])) else none
    | _ => none
  | _ => none

/-- The cells to be stored. -/
def boxK (n : Nat) (sv : SV) (K : List At → Option β) : Option β :=
  match sv.cells with
  | some cs => if cs.length = n then chk (cs.all At.one) (K cs) else none
  | none => none

/-- A pointer's cells. -/
def ptK (l : List Tk) (o : Option (List V)) (K : List V → Option β) : Option β :=
  (asPtr? l.length (.pt o)).bind fun cs => dL l 0 cs K

/-- A call, told or evaluated. -/
abbrev CallK := ∀ {β : Type}, FuncId → List SV → Objs → (SV → Objs → Option β) → Option β

def goOp (y : Option R) (K : SV → Objs → Option β) : Option β :=
  match y with
  | some y => K y.sv y.objs
  | none => none

def noCall : CallT := fun _ _ _ => none

/-- A great variable's cells, all frozen: one of them is read. -/
def ldC (os : Objs) (n : Nat) (ag : Bool) : SV → Option (List V × Nat)
  | .a (.loc i o) => match obj os i with
    | some (.box _ cs) => if 16 < cs.length ∧ n = 1 ∧ ag = false then (match allV cs with | some vs => some (vs, o) | none => none) else none
    | _ => none
  | _ => none

def stOp (mm : Bool) (call : CallK) (ty : Ty) (fr : List SV) (os : Objs) (op : SOp) (K : SV → Objs → Option β) : Option β :=
  match op with
  | .pick c a b => match opd fr c with
    | .a (.v (.bool t)) => cond t (K (opd fr a) os) (K (opd fr b) os)
    | _ => none
  | .box ty n x => boxK n (opd fr x) fun cs => K (.a (.loc os.length 0)) (os ++ [some (.box ty cs)])
  | .ari op x y => match opd fr x, opd fr y with
    | .a (.v a), .a (.v b) => ariK op a b fun v => K (.a (.v v)) os
    | _, _ => none
  | .eq neg k x y => eqK k (opd fr x) (opd fr y) fun b => K (.a (.v (.bool (if neg then !b else b)))) os
  | .ld n ag x => match opd fr x with
    | .a (.el i sz k o) => match obj os i with
      | some (.arr _ sz' xs) => if sz' = sz then (idxL xs k).bind fun x => dEl ty.el x fun cs => match cutV ag n cs o with | some s => K s os | none => none else none
      | _ => none
    | .a (.v (.pt o)) => ptK ty.el.kinds o fun cs => match cutV ag n cs 0 with | some s => K s os | none => none
    | sx => match ldC os n ag sx with
      | some (vs, o) => (vs[o]?).bind fun v => dSV ty (.a (.v v)) fun sv => K sv os
      | none => match evOp mm noCall fr os (.ld n ag x) with
        | some y => dSV ty y.sv fun sv => K sv y.objs
        | none => none
  | .st n x v => match opd fr x with
    | .a (.loc i o) => boxK n (opd fr v) fun ys => match obj os i with
      | some (.box ty cs) => if o + n ≤ cs.length then K .void (os.set i (some (.box ty (splice cs o ys)))) else none
      | _ => none
    | .a (.el i sz k o) => match (opd fr v).cells with
      | some ys => if ys.length = n then match freezeL (freezeA depth) os ys with
        | some (vs, os) => chk (vs.all V.one) (match obj os i with
          | some (.arr e sz' xs) => if sz' = sz then (idxL xs k).bind fun x => match ty.el with
            | .agg l => (asAgg? l.length x).bind fun cs => if o + n ≤ l.length then K .void (os.set i (some (.arr e sz (xs.set k (.agg (splice cs o vs)))))) else none
            | .k _ => match o, vs with
              | 0, [y] => chk x.one (K .void (os.set i (some (.arr e sz (xs.set k y)))))
              | _, _ => none
            else none
          | _ => none)
        | none => none else none
      | none => none
    | _ => none
  | .nchk x => match opd fr x with
    | .a (.v (.pt o)) => ptK ty.ptrs o fun cs => K (.a (.v (.ptr cs))) os
    | _ => goOp (evOp mm noCall fr os (.nchk x)) K
  | .fadr off x => match opd fr x with
    | .a (.v (.pt o)) => ptK ty.ptrs o fun cs => K (.a (.fadr cs off)) os
    | _ => goOp (evOp mm noCall fr os (.fadr off x)) K
  | .cvSB _ x => match opd fr x with
    | .a (.v (.str s)) => chk (fits s.length) (K (.a (.v (.list (strV s)))) os)
    | _ => none
  | .cvBS x => elemsK os (opd fr x) fun xs => (bytesOf xs).bind fun s => K (.a (.v (.str s))) os
  | .iadr sz x i => match opd fr i with
    | .a (.v (.int _ n)) => match opd fr x with
      | .a (.v (.sl o)) => (idxL (o.getD []) n).bind fun y => dEl ty.el y fun cs => if cs.length = sz then K (.a (.fadr cs 0)) os else none
      | .a (.win j s o m) => if s = sz then chk (decide (0 ≤ n) && decide (n.toNat < m)) (K (.a (.el j sz (o + n.toNat) 0)) os) else none
      | .a (.own j) => match obj os j with
        | some (.ext _ _ xs) => (idxL xs n).bind fun y => dEl ty.el y fun cs => if cs.length = sz then K (.a (.fadr cs 0)) os else none
        | some (.arr _ sz' xs) => if sz' = sz then chk (decide (0 ≤ n) && decide (n.toNat < xs.length)) (K (.a (.el j sz n.toNat 0)) os) else none
        | _ => none
      | _ => none
    | _ => none
  | .iadrA len sz x i => match opd fr i with
    | .a (.v (.int _ n)) => (if len ≤ 16 then idxK len 0 n else fun k => chk (decide (0 ≤ n) && decide (n < len)) (k n.toNat)) fun k => match opd fr x with
      | .a (.loc j o) => K (.a (.loc j (o + k * sz))) os
      | .a (.el j s m o) => K (.a (.el j s m (o + k * sz))) os
      | .a (.fadr cs o) => K (.a (.fadr cs (o + k * sz))) os
      | .a (.v (.ptr cs)) => K (.a (.fadr cs (k * sz))) os
      | _ => none
    | _ => none
  | .idxS x i => match opd fr x, opd fr i with
    | .a (.v (.str s)), .a (.v (.int _ n)) => (idxL s n).bind fun b => K (.a (.v (.int .u8 b.toNat))) os
    | _, _ => none
  | .slcS x lo hi => match opd fr x, optI fr lo, optI fr hi with
    | .a (.v (.str s)), some lo, some hi => (cutL lo hi s).bind fun t => K (.a (.v (.str t))) os
    | _, _, _ => none
  | .slcL sz x lo hi => match optI fr lo, optI fr hi with
    | some lo, some hi => match (if mm = true then winOf os sz (opd fr x) else none) with
     | some (i, o, n) => (bI lo hi n).bind fun q => K (.a (.win i sz (o + q.1) (q.2 - q.1))) os
     | none => match opd fr x with
      | .a (.v (.sl o)) => (cutSl sz lo hi o).bind fun o => K (.a (.v (.sl o))) os
      | .a (.own i) => elemsK os (.a (.own i)) fun xs => (cutL lo hi xs).bind fun ys => match freezeS os (.a (.own i)) with
        | some (_, os) => chk (xs.head?.all fun y => y.cells.length == sz) (K (.a (.v (.list ys))) os)
        | none => none
      | _ => none
    | _, _ => none
  | .look kt zero ok x i => match freezeS os (opd fr i) with
    | none => none
    | some (k, os) => match keyCells kt k with
      | none => none
      | some _ => match opd fr x with
        | .a (.v (.mp o)) => (lookM kt k o).bind fun y => dSV ty (optTup ok (.a (.v (y.getD zero))) y.isSome) fun sv => K sv os
        | .a (.mapr j) => match obj os j with
          | some (.map _ es) => (lookE kt k es).bind fun y => dSV ty (optTup ok (.a (.v (y.getD zero))) y.isSome) fun sv => K sv os
          | _ => none
        | _ => none
  | .mupd kt x k v => match freezeS os (opd fr k) with
    | none => none
    | some (k, os) => match keyCells kt k with
      | none => none
      | some _ => match opd fr x, toT2 (opd fr v) with
        | .a (.mapr j), some y => match obj os j with
          | some (.map z es) => chk (fits (es.length + 1)) ((putE kt k y es).bind fun es => K .void (os.set j (some (.map (z && y.frz) es))))
          | _ => none
        | _, _ => none
  | .s2a n x => match ty with
    | .ptr l => elemsK os (opd fr x) fun xs => chk (decide (xs.length = n) && decide (0 < n) && decide (l.length = n)) (dL l 0 xs fun cs => chk (cs.all V.one) (match freezeS os (opd fr x) with
      | some (_, os) => K (.a (.fadr cs 0)) os
      | none => none))
    | _ => none
  | .mksl e sz zero len cap => match opd fr len, opd fr cap with
    | .a (.v (.int _ l)), .a (.v (.int _ c)) => chk (decide (0 ≤ l) && decide (l ≤ c) && decide (c ≤ lim)) (K (.a (.own os.length)) (os ++ [some (.arr e sz (List.replicate l.toNat zero))]))
    | _, _ => none
  | .nxt x => match opd fr x with
    | .a (.itr i) => match obj os i with
      | some (.iter s pos) => cond (decide (pos < s.length))
          (K (.a (.v (.tup [.bool true, .int .i64 pos, .int .i32 (Utf8.decode ⟨s.toArray⟩ pos).1]))) (os.set i (some (.iter s (pos + (Utf8.decode ⟨s.toArray⟩ pos).2)))))
          (K (.a (.v (.tup [.bool false]))) os)
      | _ => none
    | _ => none
  | .call f args => call f (opds fr args) os K
  | .callv f args => match opd fr f with
    | .clo g a b => call g (a.map SV.a ++ opds fr args ++ b.map SV.a) os K
    | .a (.v (.fn g a b)) => call g (a.map (fun x => SV.a (.v x)) ++ opds fr args ++ b.map (fun x => SV.a (.v x))) os K
    | _ => none
  | .len k x => match k with
    | 1 => match opd fr x with
      | .a (.v (.sl o)) => K (.a (.v (.int .i64 (slLen o)))) os
      | .a (.own i) => elemsK os (.a (.own i)) fun xs => K (.a (.v (.int .i64 xs.length))) os
      | .a (.win _ _ _ n) => K (.a (.v (.int .i64 n))) os
      | _ => none
    | k => match lenV os k (opd fr x) with
      | some n => K (.a (.v (.int .i64 n))) os
      | none => none
  | .app e sz s x => match opd fr x with
    | .a (.v v) => (elV v).bind fun ys => appK mm e sz os (opd fr s) ys K
    | .a (.own i) => elemsK os (.a (.own i)) fun ys => match freezeS os (.a (.own i)) with
      | some (_, os) => appK mm e sz os (opd fr s) ys K
      | none => none
    | _ => none
  | op => goOp (evOp mm noCall fr os op) K

/-! ### Regions -/
/-- A guard's test: the slot holds what was found from now on. -/
def guardK (fr : List SV) (g : Option (Nat × Bool)) (run skip : List SV → Option β) : Option β :=
  match g with
  | none => run fr
  | some (t, want) => match nth fr t with
    | .a (.v (.bool b)) => cond b (cond want (run (fr.set t (.a (.v (.bool true))))) (skip (fr.set t (.a (.v (.bool true)))))) (cond want (skip (fr.set t (.a (.v (.bool false))))) (run (fr.set t (.a (.v (.bool false))))))
    | .a (.v (.tup [])) => skip fr
    | _ => none

def tyAt (l : List (Nat × Ty)) : Option Nat → Ty
  | none => .any
  | some d => match l with
    | [] => .any
    | (t, y) :: r => if t = d then y else tyAt r (some d)

/-- What tells an operation's type: its slot; a store's is its address's slot. -/
def tyOp (l : List (Nat × Ty)) (o : SOper) : Ty :=
  match o.op with
  | .st _ (.t n) _ => tyAt l (some n)
  | _ => tyAt l o.dst

def stOps (mm : Bool) (call : CallK) (tys : List (Nat × Ty)) : List SOper → St → (St → Option β) → Option β
  | [], st, K => K st
  | o :: r, st, K => guardK st.fr o.guard
      (fun fr => stOp mm call (tyOp tys o) fr st.objs o.op fun sv os => stOps mm call tys r ⟨put fr o.dst sv, os⟩ K)
      (fun fr => stOps mm call tys r ⟨put fr o.dst .void, st.objs⟩ K)

def stDraw (mm : Bool) (call : CallK) (tys : List (Nat × Ty)) : List SOper → St → (St → List DStep → Option β) → Option β
  | [], st, K => K st []
  | o :: r, st, K => guardK st.fr o.guard
      (fun fr0 =>
        let fr := scrub o.uses 0 fr0
        let q := foot fr st.objs o.op
        let os := mask q.1 0 st.objs
        if (fr.flatMap SV.ids ++ os.flatMap objIds).all (fun i => decide (i < st.objs.length)) then
          stOp mm call (tyOp tys o) fr os o.op fun sv yos =>
            if st.objs.length ≤ yos.length then
              let d : DStep := ⟨o.dst, sv, q.1, (if q.2 then q.1.filter (fun i => decide (i < st.objs.length)) else []) ++ List.range' st.objs.length (yos.length - st.objs.length), st.objs.length, yos⟩
              stDraw mm call tys r ⟨put fr0 o.dst sv, merge d.wr 0 st.objs yos⟩ fun st' l => K st' (d :: l)
            else none
        else none)
      (fun fr => stDraw mm call tys r ⟨put fr o.dst .void, st.objs⟩ fun st' l => K st' (⟨o.dst, .void, [], [], st.objs.length, []⟩ :: l))

def stRegion (mm : Bool) (call : CallK) (tys : List (Nat × Ty)) (ops : List SOper) (draw : Bool) (st : St) (K : St → Option β) : Option β :=
  if draw then
    if ordered ops 0 && usesOk ops (closure ops []) then
      stDraw mm call tys ops st fun st' ds => if footOk (closure ops []) ds then K st' else none
    else none
  else stOps mm call tys ops st K

/-! ### Shapes: states with holes -/
inductive H where
  | v (x : V)
  | m (es : List (V × T2))
  | l (xs : List V)
  | s (s : List UInt8)
  | n (k : Nat)
instance : Inhabited H := ⟨.n 0⟩

def hV (hs : List H) (i : Nat) : V := match hs.getD i default with | .v x => x | _ => .nilp
def hM (hs : List H) (i : Nat) : List (V × T2) := match hs.getD i default with | .m x => x | _ => []
def hL (hs : List H) (i : Nat) : List V := match hs.getD i default with | .l x => x | _ => []
def hS (hs : List H) (i : Nat) : List UInt8 := match hs.getD i default with | .s x => x | _ => []
def hN (hs : List H) (i : Nat) : Nat := match hs.getD i default with | .n x => x | _ => 0

/-- A cell: a hole of a kind, or a way to an own object. -/
inductive PA where
  | h (t : Ty)
  | nil
  | np
  | loc (i off : Nat)
  | own (i : Nat)
  | win (i sz : Nat)    -- two holes: from where, how many
  | mapr (i : Nat)
  | itr (i : Nat)

inductive PS where
  | u
  | a (x : PA)
  | agg (l : List PA)
  | clo (f : FuncId) (a b : List PA)

inductive PO where
  | no
  | box (ty : TypeId) (cs : List PA)
  | cbox (ty : TypeId) (vs : List V)    -- a great variable that is never written: its cells
  | ext (e : TypeId) (sz : Nat)
  | arr (e : TypeId) (sz : Nat)
  | map
  | iter

structure Shape where
  fr : List PS
  objs : List PO

/-! #### From holes to a state: 'un' goes on with the state and the next hole's number -/
def unA (hs : List H) (p : PA) (i : Nat) (K : At → Nat → Option β) : Option β :=
  match p with
  | .h t => dTy t (hV hs i) fun v => K (.v v) (i + 1)
  | .nil => K (.v .nils) i
  | .np => K (.v .nilp) i
  | .loc j o => K (.loc j o) i
  | .own j => K (.own j) i
  | .win j sz => K (.win j sz (hN hs i) (hN hs (i + 1))) (i + 2)
  | .mapr j => K (.mapr j) i
  | .itr j => K (.itr j) i

def unAs (hs : List H) : List PA → Nat → (List At → Nat → Option β) → Option β
  | [], i, K => K [] i
  | p :: r, i, K => unA hs p i fun x i => unAs hs r i fun l i => K (x :: l) i

def unS (hs : List H) (p : PS) (i : Nat) (K : SV → Nat → Option β) : Option β :=
  match p with
  | .u => K .undef i
  | .a p => unA hs p i fun x i => K (.a x) i
  | .agg l => unAs hs l i fun cs i => K (.agg cs) i
  | .clo f a b => unAs hs a i fun a i => unAs hs b i fun b i => K (.clo f a b) i

def unFr (hs : List H) : List PS → Nat → (List SV → Nat → Option β) → Option β
  | [], i, K => K [] i
  | p :: r, i, K => unS hs p i fun x i => unFr hs r i fun l i => K (x :: l) i

def unO (hs : List H) (p : PO) (i : Nat) (K : Option LObj → Nat → Option β) : Option β :=
  match p with
  | .no => K none i
  | .box ty cs => unAs hs cs i fun cs i => K (some (.box ty cs)) i
  | .cbox ty vs => K (some (.box ty (vs.map At.v))) i
  | .ext e sz => K (some (.ext e sz (hL hs i))) (i + 1)
  | .arr e sz => K (some (.arr e sz (hL hs i))) (i + 1)
  | .map => K (some (.map true (hM hs i))) (i + 1)
  | .iter => K (some (.iter (hS hs i) (hN hs (i + 1)))) (i + 2)

def unOs (hs : List H) : List PO → Nat → (Objs → Nat → Option β) → Option β
  | [], i, K => K [] i
  | p :: r, i, K => unO hs p i fun x i => unOs hs r i fun l i => K (x :: l) i

def un (sh : Shape) (hs : List H) (K : St → Option β) : Option β :=
  unFr hs sh.fr 0 fun fr i => unOs hs sh.objs i fun os _ => K ⟨fr, os⟩
end

/-! #### From a state to holes -/
def pkA : PA → At → Option (List H)
  | .h _, .v v => some [.v v]
  | .nil, .v (.sl none) => some []
  | .np, .v (.pt none) => some []
  | .loc j o, .loc j' o' => if j = j' ∧ o = o' then some [] else none
  | .own j, .own j' => if j = j' then some [] else none
  | .win j sz, .win j' sz' lo n => if j = j' ∧ sz = sz' then some [.n lo, .n n] else none
  | .mapr j, .mapr j' => if j = j' then some [] else none
  | .itr j, .itr j' => if j = j' then some [] else none
  | _, _ => none

def pkAs : List PA → List At → Option (List H)
  | [], [] => some []
  | p :: r, x :: l => match pkA p x, pkAs r l with
    | some a, some b => some (a ++ b)
    | _, _ => none
  | _, _ => none

def pkS : PS → SV → Option (List H)
  | .u, .undef => some []
  | .a p, .a x => pkA p x
  | .agg l, .agg cs => pkAs l cs
  | .clo f a b, .clo f' a' b' => if f = f' then (match pkAs a a', pkAs b b' with
    | some x, some y => some (x ++ y)
    | _, _ => none) else none
  | _, _ => none

def pkFr : List PS → List SV → Option (List H)
  | [], [] => some []
  | p :: r, x :: l => match pkS p x, pkFr r l with
    | some a, some b => some (a ++ b)
    | _, _ => none
  | _, _ => none

/-- The same cells? (bools, numbers, texts) -/
def sameC : List V → List At → Bool
  | [], [] => true
  | .bool a :: r, .v (.bool b) :: l => a == b && sameC r l
  | .int k a :: r, .v (.int k' b) :: l => decide (k = k' ∧ a = b) && sameC r l
  | .str a :: r, .v (.str b) :: l => a == b && sameC r l
  | _, _ => false

def pkO : PO → Option LObj → Option (List H)
  | .no, none => some []
  | .box ty ps, some (.box ty' cs) => if ty = ty' then pkAs ps cs else none
  | .cbox ty vs, some (.box ty' cs) => if ty = ty' ∧ sameC vs cs = true then some [] else none
  | .ext e sz, some (.ext e' sz' xs) => if e = e' ∧ sz = sz' then some [.l xs] else none
  | .arr e sz, some (.arr e' sz' xs) => if e = e' ∧ sz = sz' then some [.l xs] else none
  | .map, some (.map true es) => some [.m es]
  | .iter, some (.iter s p) => some [.s s, .n p]
  | _, _ => none

def pkOs : List PO → Objs → Option (List H)
  | [], [] => some []
  | p :: r, x :: l => match pkO p x, pkOs r l with
    | some a, some b => some (a ++ b)
    | _, _ => none
  | _, _ => none

def pk (sh : Shape) (st : St) : Option (List H) :=
  match pkFr sh.fr st.fr, pkOs sh.objs st.objs with
  | some a, some b => some (a ++ b)
  | _, _ => none

/-- The first shape that fits. -/
def pkAny : Nat → List Shape → St → Option (Nat × List H)
  | _, [], _ => none
  | i, sh :: r, st => match pk sh st with
    | some hs => some (i, hs)
    | none => pkAny (i + 1) r st

/-! ### Code -/
/-- A loop's shapes at its head, and where it is left. -/
structure LoopAnn where
  heads : List Shape
  exits : List (X × Shape)

structure Ann where
  tys : List (Nat × Ty)
  loops : List LoopAnn
  frz : Bool := false

def loopK {σ ρ : Type} (body : σ → Option (σ ⊕ ρ)) : Nat → σ → Option ρ
  | 0, _ => none
  | k + 1, s => (body s).bind fun
    | .inl s => loopK body k s
    | .inr r => some r

def sel {β : Type} : Nat → List (Option β) → Option β
  | _, [] => none
  | 0, x :: _ => x
  | n + 1, _ :: r => sel n r

abbrev Vs := Nat × List H

def X.same : X → X → Bool
  | .n, .n => true
  | .ret, .ret => true
  | .ex i, .ex j => i == j
  | _, _ => false

/-- Where a loop is left: the first exit that fits. -/
def pkExit : Nat → List (X × Shape) → X → St → Option Vs
  | _, [], _, _ => none
  | i, (x', sh) :: r, x, st => if x'.same x then (match pk sh st with
      | some hs => some (i, hs)
      | none => pkExit (i + 1) r x st) else pkExit (i + 1) r x st

def nLoops : SC → Nat
  | .seq a b => nLoops a + nLoops b
  | .cond _ a b => nLoops a + nLoops b
  | .block _ b => nLoops b
  | .loop _ b => nLoops b + 1
  | _ => 0

def heads {β : Type} (f : St → Option β) (hs : List H) : List Shape → List (Option β)
  | [] => []
  | sh :: r => un sh hs f :: heads f hs r

def exits {β : Type} (f : X → St → Option β) (hs : List H) : List (X × Shape) → List (Option β)
  | [] => []
  | (x, sh) :: r => un sh hs (f x) :: exits f hs r

def stCode (mm : Bool) (call : CallK) (F n0 : Nat) (ann : Ann) : Nat → SC → {β : Type} → St → (X → St → Option β) → Option β
  | _, .skip, _, st, K => K .n st
  | _, .region ops draw, _, st, K => stRegion mm call ann.tys ops draw st fun st => K .n st
  | i, .seq a b, _, st, K => stCode mm call F n0 ann i a st fun x st => match x with
    | .n => stCode mm call F n0 ann (i + nLoops a) b st K
    | x => K x st
  | i, .cond c a b, _, st, K => match opd st.fr c with
    | .a (.v (.bool t)) => cond t (stCode mm call F n0 ann i a st K) (stCode mm call F n0 ann (i + nLoops a) b st K)
    | _ => none
  | i, .block id b, _, st, K => stCode mm call F n0 ann i b st fun x st => match x with
    | .ex j => K (if j = id then .n else .ex j) st
    | x => K x st
  | i, .loop live b, _, st, K => match ann.loops[i]? with
    | some la => match pkAny 0 la.heads (canon n0 live st) with
      | some v0 =>
        (loopK (fun v : Vs => sel v.1 (heads (fun st => stCode mm call F n0 ann (i + 1) b st fun x st => match x with
          | .n => (match pkAny 0 la.heads (canon n0 live st) with | some v => some (.inl v) | none => none)
          | x => (match pkExit 0 la.exits x st with | some v => some (.inr v) | none => none)) v.2 la.heads)) F v0).bind fun v : Vs =>
          sel v.1 (exits (fun x st => K x st) v.2 la.exits)
      | none => none
    | none => none
  | _, .exit id l, _, st, K => K (.ex id) (tidy n0 l st)
  | _, .ret l, _, st, K => K .ret (tidy n0 l st)
  | _, .bad, _, _, _ => none

/-! #### A result is frozen -/
def frzE : List (V × T2) → Option (List V)
  | [] => some []
  | (k, .a (.v x)) :: r => match frzE r with | some l => some (.tup [k, x] :: l) | none => none
  | _ :: _ => none

def sfL {β : Type} (f : Objs → At → (V → Objs → Option β) → Option β) : Objs → List At → (List V → Objs → Option β) → Option β
  | os, [], K => K [] os
  | os, x :: r, K => f os x fun v os => sfL f os r fun vs os => K (v :: vs) os

def sfA {β : Type} : Nat → Objs → At → (V → Objs → Option β) → Option β
  | _, os, .v x, K => K x os
  | _, os, .own i, K => match obj os i with
    | some (.ext _ _ xs) => K (.list xs) os
    | some (.arr _ _ xs) => K (.list xs) (os.set i none)
    | _ => none
  | d + 1, os, .loc i 0, K => match obj os i with
    | some (.box _ cs) => sfL (sfA d) (os.set i none) cs fun vs os => K (.ptr vs) os
    | _ => none
  | _ + 1, os, .mapr i, K => match obj os i with
    | some (.map _ es) => (frzE es).bind fun vs => K (.map vs) (os.set i none)
    | _ => none
  | _, _, _, _ => none

def sfT {β : Type} (os : Objs) (x : T2) (K : V → Objs → Option β) : Option β :=
  match x with
  | .a x => sfA depth os x K
  | .agg cs => sfL (sfA depth) os cs fun vs os => K (.agg vs) os

def sfTs {β : Type} : Objs → List T2 → (List V → Objs → Option β) → Option β
  | os, [], K => K [] os
  | os, x :: r, K => sfT os x fun v os => sfTs os r fun vs os => K (v :: vs) os

def sfS {β : Type} (os : Objs) (sv : SV) (K : V → Objs → Option β) : Option β :=
  match sv with
  | .a x => sfA depth os x K
  | .agg cs => sfL (sfA depth) os cs fun vs os => K (.agg vs) os
  | .tup vs => sfTs os vs fun vs os => K (.tup vs) os
  | _ => none

def stFinish {β : Type} (frz keep : Bool) (n0 : Nat) (sv : SV) (os : Objs) (K : SV → Objs → Option β) : Option β :=
  if keep then K (letGo n0 ⟨sv, os⟩).sv (letGo n0 ⟨sv, os⟩).objs
  else if frz then sfS os sv fun v os => K (letGo n0 ⟨.a (.v v), os⟩).sv (letGo n0 ⟨.a (.v v), os⟩).objs
  else match finish keep n0 sv os with
    | some r => K r.sv r.objs
    | none => none

def stFn (call : CallK) (F : Nat) (ann : Ann) (fn : SFn) (args : List SV) (os : Objs) {β : Type} (K : SV → Objs → Option β) : Option β :=
  stCode fn.mm call F os.length ann 0 fn.body ⟨args ++ List.replicate (fn.ntmps - args.length) .undef, os⟩ fun x st =>
    match x with
    | .ex _ => none
    | _ => match results st fn.results with
      | some l => stFinish ann.frz fn.keep os.length (resSV l) st.objs K
      | none => none

/-- A told call: as a bind. -/
abbrev ToldK := FuncId → List SV → Objs → Option ((β : Type) → (SV → Objs → Option β) → Option β)

/-- A slice's row that only grows is seen as it stands. -/
def viewA (os : Objs) : At → Option V
  | .v x => some x
  | .own i => match obj os i with
    | some (.ext _ _ xs) => some (.list xs)
    | _ => none
  | _ => none
def viewAs (os : Objs) : List At → Option (List V)
  | [] => some []
  | x :: r => match viewA os x, viewAs os r with
    | some v, some vs => some (v :: vs)
    | _, _ => none
def viewS (os : Objs) : SV → SV
  | .a (.own i) => match obj os i with
    | some (.ext _ _ xs) => .a (.v (.list xs))
    | _ => .a (.own i)
  | .agg cs => match viewAs os cs with
    | some vs => .a (.v (.agg vs))
    | none => .agg cs
  | sv => sv

def viewL (os : Objs) : List SV → List SV
  | [] => []
  | x :: r => viewS os x :: viewL os r

def stN (tab : ToldK) (code : FuncId → Option SFn) (ann : FuncId → Nat → Ann) (F : Nat) : Nat → CallK
  | 0 => fun f args os K => match tab f (viewL os args) os with
    | some t => t _ K
    | none => none
  | d + 1 => fun f args os K => match tab f (viewL os args) os with
    | some t => t _ K
    | none => match code f with
      | some fn => stFn (stN tab code ann F d) F (ann f os.length) fn args os K
      | none => none

end Go.Ev
