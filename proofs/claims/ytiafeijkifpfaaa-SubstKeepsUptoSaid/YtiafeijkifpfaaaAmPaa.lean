/-
  Joined texts: Am1, Am2. No condition.
-/
import Derived.Tactics
import Derived.Below
import Derived.KernelRfl
import Derived.Maps.Keyed
import Derived.DeepKeys3
/-
 The abstract machine: definitions. It runs the loaded code on abstract values: data are values, what a call itself makes are numbered objects. No condition.
-/
namespace Go.Proofs.Ytiafeijkifpfaaa.Am
open Go
set_option linter.unusedVariables false
abbrev Oid := Nat × Nat
inductive D where
 | int (k : IntKind) (n : Int)
 | bool (b : Bool)
 | str (s : ByteArray)
 | sl (cs : List D) (len : Nat) (full : Bool) (nl : Option Bool)
 | dptr (cs : List D)
 | nilptr | nilmap | nilfn
 | fn (f : FuncId) (cap : List D)
 | agg (cs : List D)
 | tup (vs : List D)
 deriving Inhabited
inductive AV where
 | d (x : D)
 | osl (o : Oid) (off len sz ver : Nat)
 | vsl (o : Oid) (off len sz ver : Nat)
 | ptr (o : Oid) (off ver : Nat)
 | fn (f : FuncId) (cap : List AV)
 | map (o : Oid)
 | agg (cs : List AV)
 | tup (vs : List AV)
 | yld (o : Oid)
 | junk
 deriving Inhabited
inductive KK where
 | int (k : IntKind)
 | bool | str
 deriving DecidableEq
abbrev Shape := Bool × List KK
structure AOp where
 dst : Option Tmp
 op : Op
 guard : Option (Tmp × Bool)
 solo : Bool
inductive ACode where
 | skip
 | region (ops : List AOp)
 | dregion (ops : List AOp)
 | tregion (ops : List AOp) (prs : List (Nat × Nat))
 | seq (a b : ACode)
 | cond (c : Operand) (thn els : ACode)
 | block (id : Nat) (body : ACode)
 | loop (ks : List Bool) (keep : Bool) (body : ACode)
 | exit (id : Nat)
 | ret
 | hole (c : Code)
 | rfun (g : Operand) (ps : List Tmp) (as body : ACode)
inductive Ex where
 | normal | exit (id : Nat) | ret
inductive RSt where
 | ready | busy | left (e : Ex)
inductive Obj where
 | cells (cs : List AV)
 | grow (cs : List AV)
 | frz (cs : List AV)
 | vnil
 | mp (sh : Shape) (es : List (D × AV × Nat)) (clock : Nat)
 | rc (ps : List Tmp) (as body : ACode) (tm : List AV) (j : RSt)
 deriving Inhabited
def Obj.cs : Obj → List AV
 | .cells cs | .grow cs | .frz cs => cs
 | .mp _ _ _ | .rc .. | .vnil => []
def Obj.isFrz : Obj → Bool
 | .frz _ => true
 | _ => false
def Obj.freeze : Obj → Obj
 | .cells cs | .grow cs => .frz cs
 | x => x
def Obj.put : Obj → List AV → Obj
 | .cells _, cs => .cells cs
 | .grow _, cs => .grow cs
 | o, _ => o
def Obj.isRow : Obj → Bool
 | .mp _ _ _ | .rc .. => false
 | _ => true
abbrev Hp := Oid → Option Obj
def upd (H : Hp) (o : Oid) (x : Obj) : Hp := fun p => if p = o then some x else H p
structure St where
 tm : List AV
 hp : Hp
 nx : Nat
def tsize (P : Program) (t : TypeId) : Option Nat := (P.info? t).map (·.size)
def tagg (P : Program) (t : TypeId) : Option Bool :=
 match P.underlying t with
 | some (.struct _) | some (.array _ _) => some true
 | some _ => some false
 | none => none
def tfield (P : Program) (t : TypeId) (i : Nat) : Option (Nat × TypeId) :=
 match P.underlying t with
 | some (.struct fs) => (fs[i]?).map fun f => (f.offset, f.type)
 | _ => none
def telem (P : Program) (t : TypeId) : Option TypeId :=
 match P.underlying t with
 | some (.slice e) => some e
 | _ => none
def allD : List AV → Option (List D)
 | [] => some []
 | .d x :: r => (allD r).map (x :: ·)
 | _ :: _ => none
def mkAgg (cs : List AV) : AV := match allD cs with | some ds => .d (.agg ds) | none => .agg cs
def mkTup (cs : List AV) : AV := match allD cs with | some ds => .d (.tup ds) | none => .tup cs
def cellsOf : AV → List AV
 | .d (.agg cs) => cs.map .d
 | .agg cs => cs
 | .d (.tup _) | .tup _ | .junk => []
 | v => [v]
def liftV0 : Value → AV
 | .int k n => .d (.int k n)
 | .bool b => .d (.bool b)
 | .string s => .d (.str s)
 | .slice none 0 0 => .d (.sl [] 0 true (some true))
 | .pointer none => .d .nilptr
 | .map none => .d .nilmap
 | .nilFunc => .d .nilfn
 | _ => .junk
def consD : AV → Option (List D) → Option (List D)
 | .d x, some l => some (x :: l)
 | _, _ => none
def aggV : List Value → Option (List D)
 | [] => some []
 | v :: r => consD (liftV0 v) (aggV r)
def aggK : Option (List D) → AV
 | some l => .d (.agg l)
 | none => .junk
def liftV : Value → AV
 | .agg cs => aggK (aggV cs.toList)
 | v => liftV0 v
def yieldF : FuncId := 1000000000
def numF (g : FuncId) : FuncId := if g ≤ yieldF then g else g - (yieldF + 1)
def joinF (g : FuncId) (as cap : List AV) : List AV := if g ≤ yieldF then as ++ cap else cap ++ as
def ev (tm : List AV) : Operand → AV
 | .tmp t => tm.getD t .junk
 | .const v => liftV v
 | .global _ => .junk
 | .func f => if f < yieldF then .d (.fn f []) else .junk
def part (P : Program) (t : TypeId) (cs : List AV) (off : Nat) : Option AV :=
 match tagg P t with
 | some true => do let n ← tsize P t; if off + n ≤ cs.length then some (mkAgg ((cs.drop off).take n)) else none
 | some false => cs[off]?
 | none => none
def dpart (P : Program) (t : TypeId) (cs : List D) (off : Nat) : Option D :=
 match tagg P t with
 | some true => do let n ← tsize P t; if off + n ≤ cs.length then some (.agg ((cs.drop off).take n)) else none
 | some false => cs[off]?
 | none => none
def load (P : Program) (H : Hp) (t : TypeId) : AV → Option AV
 | .d (.dptr cs) => (dpart P t cs 0).map .d
 | .ptr o off ver => do
  let x ← H o
  if x.isRow && x.cs.length = ver then part P t x.cs off else none
 | _ => none
def splice (l : List AV) (off : Nat) (xs : List AV) : List AV := l.take off ++ xs ++ l.drop (off + xs.length)
def isNil : AV → Bool
 | .d (.sl [] 0 true (some true)) => true
 | _ => false
def lift1 (id j : Nat) (v : AV) : AV := if isNil v then .osl (id, j) 0 0 1 0 else v
def liftCells (id : Nat) : Nat → List AV → List AV
 | _, [] => []
 | j, v :: r => lift1 id j v :: liftCells id (j + 1) r
def liftH (id : Nat) : Nat → List AV → Hp → Hp
 | _, [], H => H
 | j, v :: r, H => liftH id (j + 1) r (if isNil v then upd H (id, j) .vnil else H)
def nlOf : Obj → Option Bool
 | .vnil => some true
 | .mp _ _ _ | .rc .. => none
 | _ => some false
def mapD (f : AV → Option (D × List Oid)) : List AV → Option (List D × List Oid)
 | [] => some ([], [])
 | v :: r => do
  let (x, i) ← f v
  let (xs, is) ← mapD f r
  some (x :: xs, i ++ is)
def reify (H : Hp) : Nat → AV → Option (D × List Oid)
 | _, .d x => some (x, [])
 | n + 1, .osl o off len sz ver => do
  let x ← H o
  if x.isRow && x.cs.length = ver && off + len * sz ≤ ver then
   let (ds, is) ← mapD (reify H n) ((x.cs.drop off).take (len * sz))
   some (.sl ds len false (nlOf x), if ds.isEmpty then is else o :: is)
  else none
 | n + 1, .vsl o off len sz ver => do
  let x ← H o
  if x.isRow && x.cs.length = ver && off + len * sz ≤ ver then
   let (ds, is) ← mapD (reify H n) ((x.cs.drop off).take (len * sz))
   some (.sl ds len false none, if ds.isEmpty then is else o :: is)
  else none
 | n + 1, .ptr o off ver => do
  let x ← H o
  if x.isRow && x.cs.length = ver then
   let (ds, is) ← mapD (reify H n) (x.cs.drop off)
   some (.dptr ds, o :: is)
  else none
 | n + 1, .fn f cs => do let (ds, is) ← mapD (reify H n) cs; some (.fn f ds, is)
 | n + 1, .agg cs => do let (ds, is) ← mapD (reify H n) cs; some (.agg ds, is)
 | n + 1, .tup cs => do let (ds, is) ← mapD (reify H n) cs; some (.tup ds, is)
 | _, _ => none
def flat1 : D → Bool
 | .int .. | .bool _ | .str _ | .nilptr | .nilmap | .nilfn => true
 | .fn _ cs => cs.isEmpty
 | _ => false
def flatD : D → Bool
 | .agg cs | .tup cs => cs.all flat1
 | x => flat1 x
def kill (H : Hp) (is : List Oid) : Hp := fun p => if p ∈ is then (H p).map Obj.freeze else H p
def tile : Nat → List (Field × List KK) → Option (List KK)
 | _, [] => some []
 | off, (f, l) :: r => if f.offset = off ∧ f.name ≠ "_" then (tile (off + l.length) r).map (l ++ ·) else none
def zipShape (g : TypeId → Option (List KK)) : List Field → Option (List (Field × List KK))
 | [] => some []
 | f :: r => (g f.type).bind fun l => (zipShape g r).map ((f, l) :: ·)
def shapeAt (P : Program) : Nat → TypeId → Option (List KK)
 | 0, _ => none
 | n + 1, t =>
  match P.underlying t with
  | some (.int k) => some [.int k]
  | some .bool => some [.bool]
  | some .string => some [.str]
  | some (.struct fs) => if P.stoodInHeld t then none else (zipShape (shapeAt P n) fs.toList).bind fun l => (tile 0 l).bind fun ks => if tsize P t = some ks.length then some ks else none
  | some (.array m e) => (shapeAt P n e).bind fun l => if tsize P e = some l.length ∧ tsize P t = some (m * l.length) then some (List.replicate m l).flatten else none
  | _ => none
def tshape (P : Program) (t : TypeId) : Option Shape := do
 let a ← tagg P t
 let l ← shapeAt P 9 t
 some (a, l)
def fit1 : KK → D → Bool
 | .int k, .int k' _ => decide (k = k')
 | .bool, .bool _ => true
 | .str, .str _ => true
 | _, _ => false
def fitL : List KK → List D → Bool
 | [], [] => true
 | k :: r, x :: s => fit1 k x && fitL r s
 | _, _ => false
def fitD : Shape → D → Bool
 | (true, l), .agg cs => fitL l cs
 | (false, [k]), x => fit1 k x
 | _, _ => false
def eq1 : D → D → Bool
 | .int _ a, .int _ b => a == b
 | .bool a, .bool b => a == b
 | .str a, .str b => a.toList == b.toList
 | _, _ => false
def eqL : List D → List D → Bool
 | [], [] => true
 | x :: r, y :: s => eq1 x y && eqL r s
 | _, _ => false
def eqD : D → D → Bool
 | .agg a, .agg b => eqL a b
 | x, y => eq1 x y
def tguard (P : Program) (t : TypeId) : Bool := P.eqGuardType P.depth t
def intOp (op : BinOp) (k : IntKind) (a b : Int) : Option D :=
 match op with
 | .add => some (.int k (k.wrap (a + b)))
 | .sub => some (.int k (k.wrap (a - b)))
 | .mul => some (.int k (k.wrap (a * b)))
 | .quo => if b = 0 then none else some (.int k (k.wrap (a.tdiv b)))
 | .rem => if b = 0 then none else some (.int k (a.tmod b))
 | .eql => some (.bool (a == b))
 | .neq => some (.bool (a != b))
 | .lss => some (.bool (decide (a < b)))
 | .leq => some (.bool (decide (a ≤ b)))
 | .gtr => some (.bool (decide (a > b)))
 | .geq => some (.bool (decide (a ≥ b)))
 | _ => none
def strOp (op : BinOp) (x y : ByteArray) : Option D :=
 match op with
 | .add => if x.size + y.size ≤ 1099511627776 then some (.str (x ++ y)) else none
 | .eql => some (.bool (x.toList == y.toList))
 | .neq => some (.bool (!(x.toList == y.toList)))
 | .lss => some (.bool (Op.bytesLess x.toList y.toList))
 | .leq => some (.bool (Op.bytesLess x.toList y.toList || x.toList == y.toList))
 | .gtr => some (.bool (!(Op.bytesLess x.toList y.toList || x.toList == y.toList)))
 | .geq => some (.bool (!Op.bytesLess x.toList y.toList))
 | _ => none
def tkind (P : Program) (t : TypeId) : Nat :=
 match P.underlying t with
 | some .bool => 1
 | some (.pointer _) => 2
 | some (.slice _) => 3
 | some (.map _ _) => 4
 | some (.func _ _ _) => 5
 | some (.int _) => 6
 | some .string => 7
 | _ => 0
def tint (P : Program) (t : TypeId) : Option IntKind :=
 match P.underlying t with
 | some (.int k) => some k
 | _ => none
def eqB (op : BinOp) (b : Bool) : Option AV :=
 match op with
 | .eql => some (.d (.bool b))
 | .neq => some (.d (.bool (!b)))
 | _ => none
def shiftD (op : BinOp) (k : IntKind) (a b : Int) : Option D :=
 if b < 0 then none else
 match op with
 | .shl => some (.int k (k.wrap (a * 2 ^ (min b.toNat k.bits))))
 | .shr => some (.int k (a.fdiv (2 ^ (min b.toNat k.bits))))
 | _ => none
def isShift : BinOp → Bool
 | .shl | .shr => true
 | _ => false
def binD (P : Program) (op : BinOp) (t : TypeId) (x y : AV) : Option AV :=
 match x, y with
 | .d (.int k a), .d (.int k' b) => if isShift op then (shiftD op k a b).map .d else if k = k' then (intOp op k a b).map .d else none
 | .d (.str a), .d (.str b) => (strOp op a b).map .d
 | .d (.bool a), .d (.bool b) => if tkind P t = 1 then eqB op (a == b) else none
 | .ptr _ _ _, .d .nilptr | .d .nilptr, .ptr _ _ _ => if tkind P t = 2 then eqB op false else none
 | .d .nilptr, .d .nilptr => if tkind P t = 2 then eqB op true else none
 | .d (.dptr _), .d .nilptr => if tkind P t = 2 then eqB op false else none
 | .fn _ _, .d .nilfn => if tkind P t = 5 then eqB op false else none
 | .d (.agg a), .d (.agg b) =>
  match tshape P t with
  | some (true, l) => if (fitL l a && fitL l b) && !tguard P t then eqB op (eqL a b) else none
  | _ => none
 | _, _ => none
def unD (op : UnOp) (x : AV) : Option AV :=
 match op, x with
 | .neg, .d (.int k n) => some (.d (.int k (k.wrap (0 - n))))
 | .not, .d (.bool b) => some (.d (.bool (!b)))
 | _, _ => none
def nth (i : Int) : Option Nat := if 0 ≤ i then some i.toNat else none
def tarr (P : Program) (t : TypeId) : Option (Nat × TypeId) :=
 match P.underlying t with
 | some (.array m e) => some (m, e)
 | _ => none
def idxArr (P : Program) (m : Nat) (e : TypeId) (x i : AV) : Option AV := do
 let n ← tsize P e
 match x, i with
 | .d (.dptr cs), .d (.int .i64 k) => if 0 ≤ k ∧ k < m ∧ k.toNat * n < cs.length then some (.d (.dptr (cs.drop (k.toNat * n)))) else none
 | .ptr o off ver, .d (.int .i64 k) => if 0 ≤ k ∧ k < m then some (.ptr o (off + k.toNat * n) ver) else none
 | _, _ => none
def idxAddr (P : Program) (H : Hp) (t : TypeId) (x i : AV) : Option AV :=
 match tarr P t with
 | some (m, e) => idxArr P m e x i
 | none => do
 let e ← telem P t
 let n ← tsize P e
 match x, i with
 | .d (.sl cs len _ _), .d (.int .i64 k) => if 0 ≤ k ∧ k < len ∧ k.toNat * n < cs.length then some (.d (.dptr (cs.drop (k.toNat * n)))) else none
 | .osl o off len sz ver, .d (.int .i64 k) => do
  let y ← H o
  if y.isRow && y.cs.length = ver && sz = n && 0 ≤ k && k < len then some (.ptr o (off + k.toNat * n) ver) else none
 | .vsl o off len sz ver, .d (.int .i64 k) => do
  let y ← H o
  if y.isRow && y.cs.length = ver && sz = n && 0 ≤ k && k < len then some (.ptr o (off + k.toNat * n) ver) else none
 | _, _ => none
def lenD (P : Program) (t : TypeId) : AV → Option D
 | .d (.sl _ len _ _) => if tkind P t = 3 then some (.int .i64 len) else none
 | .d (.str s) => if tkind P t = 7 then some (.int .i64 s.size) else none
 | .d .nilmap => if tkind P t = 4 then some (.int .i64 0) else none
 | .osl _ _ len _ _ => if tkind P t = 3 then some (.int .i64 len) else none
 | .vsl _ _ len _ _ => if tkind P t = 3 then some (.int .i64 len) else none
 | _ => none
def bound (dflt : Nat) : Option AV → Option Nat
 | none => some dflt
 | some (.d (.int .i64 k)) => if 0 ≤ k then some k.toNat else none
 | _ => none
def sliceD (P : Program) (H : Hp) (t : TypeId) (x : AV) (lo hi mx : Option AV) : Option AV :=
 match x with
 | .d (.sl cs len full nl) => do
  let e ← telem P t
  let n ← tsize P e
  let h ← bound len hi
  let l ← bound 0 lo
  let m ← bound h mx
  if l ≤ h ∧ h ≤ len ∧ m = h ∧ (mx.isSome = true → hi.isSome = true) then some (.d (.sl ((cs.drop (l * n)).take ((h - l) * n)) (h - l) (mx.isSome || (full && h = len)) nl)) else none
 | .d (.str s) => do
  if tkind P t = 7 then
   let h ← bound s.size hi
   let l ← bound 0 lo
   if l ≤ h ∧ h ≤ s.size ∧ mx.isNone then some (.d (.str (s.extract l h))) else none
  else none
 | .osl o off len sz ver => do
  let e ← telem P t
  let n ← tsize P e
  let y ← H o
  let h ← bound len hi
  let l ← bound 0 lo
  if y.isRow && y.cs.length = ver && (sz = n || ver = 0) && 0 < sz && l ≤ h then
   match mx with
   | none => if off + h * sz ≤ ver then some (.osl o (off + l * sz) (h - l) sz ver) else none
   | some m => do
    let m ← bound 0 (some m)
    if h ≤ m ∧ m ≤ len ∧ hi.isSome then (if l = m then some (.d (.sl [] 0 true none)) else some .junk) else none
  else none
 | .ptr o off ver => do
  let (m, e) ← tarr P t
  let n ← tsize P e
  let h ← bound m hi
  let l ← bound 0 lo
  if l ≤ h ∧ h ≤ m ∧ mx.isNone ∧ l < m then some (.vsl o (off + l * n) (h - l) n ver) else none
 | .d (.dptr cs) => do
  let (m, e) ← tarr P t
  let n ← tsize P e
  let h ← bound m hi
  let l ← bound 0 lo
  if l ≤ h ∧ h ≤ m ∧ mx.isNone ∧ l < m ∧ h * n ≤ cs.length then some (.d (.sl ((cs.drop (l * n)).take ((h - l) * n)) (h - l) false (some false))) else none
 | _ => none
def fieldPtr (P : Program) (t : TypeId) (x : AV) (i : Nat) : Option AV := do
 let (off, ft) ← tfield P t i
 let n ← tsize P ft
 if n = 0 then none else
 match x with
 | .ptr o k ver => some (.ptr o (k + off) ver)
 | .d (.dptr cs) => if off + n ≤ cs.length then some (.d (.dptr (cs.drop off))) else none
 | _ => none
def fieldD (P : Program) (t : TypeId) (x : AV) (i : Nat) : Option AV := do
 let (off, ft) ← tfield P t i
 match x with
 | .d (.agg cs) => (dpart P ft cs off).map .d
 | .agg cs => part P ft cs off
 | _ => none
def tup1 : AV → Nat → Option AV
 | .d (.tup vs), i => (vs[i]?).map .d
 | .tup vs, i => vs[i]?
 | _, _ => none
def tbytes (P : Program) (t : TypeId) : Option Bool := (P.info? t).map fun i => decide (i.bytes ≤ 256)
def zeroCells (P : Program) (t : TypeId) : Option (List AV) := do
 let i ← P.info? t
 let z ← i.zero
 if z.cells.toList.all Value.oneCell' then some (z.cells.toList.map liftV) else none
def fillC (place : Nat → Option (Nat × Nat)) : List AV → List (Nat × AV) → Option (List AV)
 | cs, [] => some cs
 | cs, (i, v) :: r => do
  let (off, n) ← place i
  if (cellsOf v).length = n ∧ 0 < n ∧ off + n ≤ cs.length then fillC place (splice cs off (cellsOf v)) r else none
def tplaces (P : Program) (t : TypeId) : Option (List (Nat × Nat)) :=
 match P.underlying t with
 | some (.struct fs) => fs.toList.mapM fun f => (tsize P f.type).map (f.offset, ·)
 | _ => none
def buildD (P : Program) (t : TypeId) (ps : List (Nat × AV)) : Option AV := do
 let pl ← tplaces P t
 let z ← zeroCells P t
 let cs ← fillC (fun i => pl[i]?) z ps
 some (mkAgg cs)
def minmax (mx : Bool) : List AV → Option AV
 | [.d (.int k a), .d (.int k' b)] => if k = k' then some (.d (.int k (if mx then (if b > a then b else a) else (if b < a then b else a)))) else none
 | _ => none
def valOp (P : Program) (ρ : Operand → AV) (o : Op) : Option AV :=
 match o with
 | .move x | .assign x => some (ρ x)
 | .pick c a b => match ρ c with | .d (.bool t) => some (if t then ρ a else ρ b) | _ => none
 | .nilCheck x => match ρ x with | .ptr o k v => some (.ptr o k v) | .d (.dptr cs) => some (.d (.dptr cs)) | .d (.fn f c) => some (.d (.fn f c)) | .fn f c => some (.fn f c) | _ => none
 | .binOp op t x y _ => binD P op t (ρ x) (ρ y)
 | .unOp op _ x => unD op (ρ x)
 | .convert s t x => match ρ x with
  | .d (.int _ n) => if tkind P s = 6 then (tint P t).map fun k => .d (.int k (k.wrap n)) else none
  | .d (.str b) => if tkind P s = 7 ∧ tkind P t = 7 then some (.d (.str b)) else none
  | _ => none
 | .makeFunc (.func f) first cap => if f < yieldF then (if first.isEmpty then some (.fn f (cap.toList.map ρ)) else if cap.isEmpty then some (.fn (f + (yieldF + 1)) (first.toList.map ρ)) else none) else none
 | .fieldAddr t x i => fieldPtr P t (ρ x) i
 | .field t x i => fieldD P t (ρ x) i
 | .extract x i => tup1 (ρ x) i
 | .build t ps => buildD P t (ps.toList.map fun p => (p.1, ρ p.2))
 | .index t x i => match ρ x, ρ i with
  | .d (.str s), .d (.int _ k) => if h : (0 ≤ k ∧ k.toNat < s.size) ∧ tkind P t = 7 then some (.d (.int .u8 (s[k.toNat]'h.1.2).toNat)) else none
  | _, _ => none
 | .call { callee := .builtin .len, args, argTypes } => match args.toList.map ρ, argTypes[0]? with | [x], some t => (lenD P t x).map .d | _, _ => none
 | .call { callee := .builtin .max, args, .. } => minmax true (args.toList.map ρ)
 | .call { callee := .builtin .min, args, .. } => minmax false (args.toList.map ρ)
 | _ => none
def Hput (H : Hp) (o : Oid) (ver off : Nat) (xs : List AV) : Option Hp := do
 let x ← H o
 if x.isRow && !x.isFrz && x.cs.length = ver && off + xs.length ≤ ver then some (upd H o (x.put (splice x.cs off xs))) else none
def storeO (P : Program) (H : Hp) (id : Nat) (t : TypeId) (a v : AV) : Option Hp := do
 let n ← tsize P t
 match a with
 | .ptr o off ver =>
  let cs := cellsOf v
  if cs.length = n ∧ 0 < n then Hput (liftH id 1 cs H) o ver off (liftCells id 1 cs) else none
 | _ => none
def srcRaw (P : Program) (H : Hp) (n : Nat) (t : TypeId) : AV → Option (List D × Nat)
 | .osl o off len sz ver => do
  let x ← H o
  if x.isRow && x.cs.length = ver && off + len * sz ≤ ver && sz = n && tkind P t = 3 then
   let ds ← allD ((x.cs.drop off).take (len * sz))
   some (ds, len)
  else none
 | _ => none
def srcCells (P : Program) (H : Hp) (n : Nat) (t : TypeId) (v : AV) : Option (List D × Nat × List Oid) :=
 match srcRaw P H n t v with
 | some (ds, k) => some (ds, k, [])
 | none => do
 let (x, is) ← reify H 6 v
 match x with
 | .sl cs len _ _ => if tkind P t = 3 ∧ cs.length = len * n then some (cs, len, if cs.all flat1 then [] else is) else none
 | .str s => if tkind P t = 7 ∧ n = 1 then some (s.data.toList.map (fun b => D.int .u8 b.toNat), s.size, is) else none
 | _ => none
def growO (H : Hp) (o : Oid) (y : Obj) (off len sz ver n k : Nat) (xs : List D) : Option (AV × Hp) :=
 match y with
 | .vnil => if len = 0 then some (.osl o 0 k n xs.length, upd H o (.grow (xs.map .d))) else none
 | .grow cs =>
  if sz ≠ n then none
  else if off + len * n + xs.length ≤ ver then some (.osl o off (len + k) n ver, upd H o (.grow (splice cs (off + len * n) (xs.map .d))))
  else if off = 0 then some (.osl o 0 (len + k) n (len * n + xs.length), upd H o (.grow (cs.take (len * n) ++ xs.map .d))) else none
 | .cells cs =>
  if sz ≠ n then none
  else if off + len * n + xs.length ≤ ver then some (.osl o off (len + k) n ver, upd H o (.cells (splice cs (off + len * n) (xs.map .d))))
  else if off = 0 then some (.osl o 0 (len + k) n (len * n + xs.length), upd H o (.grow (cs.take (len * n) ++ xs.map .d))) else none
 | .mp _ _ _ | .rc .. | .frz _ => none
def appendO (P : Program) (H : Hp) (id : Nat) (t t2 : TypeId) (s x : AV) : Option (AV × Hp) := do
 let e ← telem P t
 let n ← tsize P e
 let z ← zeroCells P e
 let (xs, k, is) ← srcCells P H n t2 x
 if n = 0 ∨ z.length ≠ n ∨ xs.length > 68719476736 ∨ tbytes P e ≠ some true then none else
 match s with
 | .osl o off len sz ver => do
  let y ← H o
  if y.isRow ∧ y.cs.length = ver ∧ off + len * sz ≤ ver ∧ ver ≤ 68719476736 ∧ o ∉ is then
   (if k = 0 then some (.osl o off len sz ver, kill H is) else growO (kill H is) o y off len sz ver n k xs)
  else none
 | .d (.sl cs len true nl) =>
  if cs.length = len * n ∧ len * n ≤ 68719476736 then
   if k = 0 then some (.d (.sl cs len true nl), kill H is)
   else some (.osl (id, 0) 0 (len + k) n (cs.length + xs.length), upd (kill H is) (id, 0) (.grow (cs.map .d ++ xs.map .d)))
  else none
 | _ => none
def isNilC : Operand → Bool
 | .const (.slice none 0 0) => true
 | _ => false
def nilCmp (H : Hp) : AV → Option Bool
 | .d (.sl _ _ _ nl) => nl
 | .osl o _ _ _ ver => (H o).bind fun y => if y.cs.length = ver then nlOf y else none
 | _ => none
def vOf1 : D → Option Value
 | .int k n => some (.int k n)
 | .bool b => some (.bool b)
 | .str s => some (.string s)
 | _ => none
def vOfL : List D → Option (List Value)
 | [] => some []
 | x :: r => (vOf1 x).bind fun v => (vOfL r).map (v :: ·)
def vOf : D → Option Value
 | .agg cs => (vOfL cs).map fun vs => .agg vs.toArray
 | x => vOf1 x
def tmap (P : Program) (t : TypeId) : Option (TypeId × TypeId) :=
 match P.underlying t with
 | some (.map k e) => some (k, e)
 | _ => none
def findK (x : D) : List (D × AV × Nat) → Nat → Option (Nat × AV × Nat)
 | [], _ => none
 | (y, v, n) :: r, i => if eqD x y then some (i, v, n) else findK x r (i + 1)
def zeroAV (P : Program) (t : TypeId) : Option AV := do
 let i ← P.info? t
 match ← i.zero with
 | .agg cs => if cs.toList.all Value.oneCell' then some (mkAgg (cs.toList.map liftV)) else none
 | v => if v.oneCell' then some (liftV v) else none
def entriesOf (H : Hp) (sh : Shape) : AV → Option (List (D × AV × Nat))
 | .d .nilmap => some []
 | .map o => (H o).bind fun | .mp sh' es _ => (if sh' = sh then some es else none) | _ => none
 | _ => none
def lookupO (P : Program) (H : Hp) (t : TypeId) (m i : AV) (ok : Bool) : Option AV := do
 let (k, e) ← tmap P t
 let sh ← tshape P k
 let es ← entriesOf H sh m
 match i with
 | .d x => do
  let z ← zeroAV P e
  if fitD sh x then
   match findK x es 0 with
   | some (_, v, _) => some (if ok then mkTup [v, .d (.bool true)] else v)
   | none => some (if ok then mkTup [z, .d (.bool false)] else z)
  else none
 | _ => none
def mapO (H : Hp) (sh : Shape) : AV → Option (Oid × List (D × AV × Nat) × Nat)
 | .map o => (H o).bind fun | .mp sh' es c => (if sh' = sh then some (o, es, c) else none) | _ => none
 | _ => none
def mapUpdateO (P : Program) (H : Hp) (t : TypeId) (m i v : AV) : Option Hp := do
 let (k, _) ← tmap P t
 let sh ← tshape P k
 let (o, es, c) ← mapO H sh m
 match i with
 | .d x =>
  if fitD sh x then
   match findK x es 0 with
   | some (j, _, n) => some (upd H o (.mp sh (es.set j (x, v, n)) c))
   | none => some (upd H o (.mp sh (es ++ [(x, v, c)]) (c + 1)))
  else none
 | _ => none
def mapEntryO (P : Program) (H : Hp) (t : TypeId) (m i : AV) : Option (AV × Hp) := do
 let (k, e) ← tmap P t
 let sh ← tshape P k
 let (o, es, c) ← mapO H sh m
 match i with
 | .d x => do
  let z ← zeroAV P e
  if fitD sh x then
   match findK x es 0 with
   | some (_, v, n) => some (mkTup [v, .d (.int .i64 n)], H)
   | none => some (mkTup [z, .d (.int .i64 c)], upd H o (.mp sh (es ++ [(x, z, c)]) (c + 1)))
  else none
 | _ => none
def deleteO (P : Program) (H : Hp) (t : TypeId) (m i : AV) : Option Hp := do
 let (k, _) ← tmap P t
 let sh ← tshape P k
 let (o, es, c) ← mapO H sh m
 match i with
 | .d x =>
  if fitD sh x then
   match findK x es 0 with
   | some (j, _, _) => some (upd H o (.mp sh (es.eraseIdx j) c))
   | none => some H
  else none
 | _ => none
def stampAt (n : Int) : List (D × AV × Nat) → Nat → Option (Nat × D)
 | [], _ => none
 | (x, _, b) :: r, i => if (b : Int) = n then some (i, x) else stampAt n r (i + 1)
def entryStoreO (P : Program) (H : Hp) (t : TypeId) (m s v : AV) : Option Hp := do
 let (k, _) ← tmap P t
 let sh ← tshape P k
 let (o, es, c) ← mapO H sh m
 match s with
 | .d (.int .i64 n) => do
  let (j, x) ← stampAt n es 0
  some (upd H o (.mp sh (es.set j (x, v, n.toNat)) c))
 | _ => none
def mapLen (P : Program) (H : Hp) (t : TypeId) : AV → Option AV
 | .map o => if tkind P t = 4 then (H o).bind fun | .mp _ es _ => some (.d (.int .i64 es.length)) | _ => none else none
 | _ => none
def copySrc (P : Program) (H : Hp) (n : Nat) : AV → Option (List AV × Nat)
 | .osl o off len sz ver => do
  let x ← H o
  if x.isRow && x.cs.length = ver && off + len * sz ≤ ver && sz = n then some ((x.cs.drop off).take (len * sz), len) else none
 | .d (.sl cs len _ _) => if cs.length = len * n then some (cs.map .d, len) else none
 | _ => none
def copyO (P : Program) (H : Hp) (t : TypeId) (x y : AV) : Option (AV × Hp) := do
 let e ← telem P t
 let n ← tsize P e
 let (cs, k) ← copySrc P H n y
 match x with
 | .osl o off len sz ver =>
  if sz = n then
   if min k len = 0 then some (.d (.int .i64 0), H) else (Hput H o ver off (cs.take (min k len * n))).map (.d (.int .i64 (min k len : Nat)), ·)
  else none
 | _ => none
def clearO (P : Program) (H : Hp) (t : TypeId) : AV → Option Hp
 | .osl o off len sz ver => do
  let e ← telem P t
  let n ← tsize P e
  let z ← zeroCells P e
  if sz = n ∧ z.length = n ∧ 0 < n then (if len = 0 then some H else Hput H o ver off (List.replicate len z).flatten) else none
 | .d (.sl _ 0 _ _) => (telem P t).map fun _ => H
 | _ => none
def heapOp (P : Program) (ρ : Operand → AV) (H : Hp) (id : Nat) (o : Op) : Option (AV × Hp) :=
 match o with
 | .load t a => (load P H t (ρ a)).map (·, H)
 | .slice t x lo hi mx => (sliceD P H t (ρ x) (lo.map ρ) (hi.map ρ) (mx.map ρ)).map (·, H)
 | .indexAddr t x i => (idxAddr P H t (ρ x) (ρ i)).map (·, H)
 | .store t a v => (storeO P H id t (ρ a) (ρ v)).map (AV.junk, ·)
 | .alloc t => do
  let cs ← zeroCells P t
  some (.ptr (id, 0) 0 cs.length, upd (liftH id 1 cs H) (id, 0) (.cells (liftCells id 1 cs)))
 | .box t x => do
  let n ← tsize P t
  let cs := cellsOf (ρ x)
  if cs.length = n ∧ 0 < n then some (.ptr (id, 0) 0 cs.length, upd (liftH id 1 cs H) (id, 0) (.cells (liftCells id 1 cs))) else none
 | .buildSlice t len ps => do
  let e ← telem P t
  let n ← tsize P e
  let z ← zeroCells P e
  if n ≠ 0 ∧ len = 0 ∧ ps.isEmpty then some (.osl (id, 0) 0 0 n 0, upd H (id, 0) (.grow [])) else
  if n = 0 ∨ len = 0 ∨ len * n > 16777216 ∨ z.length ≠ n then none else
  let cs ← fillC (fun i => some (i * n, n)) ((List.replicate len z).flatten) (ps.toList.map fun p => (p.1, ρ p.2))
  some (.osl (id, 0) 0 len n cs.length, upd H (id, 0) (.cells cs))
 | .makeSlice t l c => do
  let e ← telem P t
  let n ← tsize P e
  let z ← zeroCells P e
  match ρ l, ρ c with
  | .d (.int .i64 a), .d (.int .i64 b) =>
   if (0 ≤ a ∧ a ≤ b ∧ b ≤ 1099511627776 ∧ 0 < n ∧ z.length = n) ∧ tbytes P e = some true then
    some (.osl (id, 0) 0 a.toNat n (a.toNat * n), upd H (id, 0) (if a = b then .cells (List.replicate a.toNat z).flatten else .grow (List.replicate a.toNat z).flatten))
   else none
  | _, _ => none
 | .binOp op t x y _ => if isNilC y = true ∧ tkind P t = 3 then ((nilCmp H (ρ x)).bind (eqB op)).map (·, H) else none
 | .call { callee := .builtin .append, args, argTypes } => match args.toList.map ρ, argTypes.toList with
  | [s, x], [t, t2] => appendO P H id t t2 s x
  | _, _ => none
 | .makeMap t none => do
  let (k, _) ← tmap P t
  let sh ← tshape P k
  some (.map (id, 0), upd H (id, 0) (.mp sh [] 0))
 | .lookup t m i ok => (lookupO P H t (ρ m) (ρ i) ok).map (·, H)
 | .mapUpdate t m i v => (mapUpdateO P H t (ρ m) (ρ i) (ρ v)).map (AV.junk, ·)
 | .mapEntry t m i => mapEntryO P H t (ρ m) (ρ i)
 | .entryStore t m s v => (entryStoreO P H t (ρ m) (ρ s) (ρ v)).map (AV.junk, ·)
 | .call { callee := .builtin .delete, args, argTypes } => match args.toList.map ρ, argTypes.toList with
  | [m, k], t :: _ => (deleteO P H t m k).map (.d (.tup []), ·)
  | _, _ => none
 | .call { callee := .builtin .copy, args, argTypes } => match args.toList.map ρ, argTypes.toList with
  | [x, y], t :: _ => copyO P H t x y
  | _, _ => none
 | .call { callee := .builtin .clear, args, argTypes } => match args.toList.map ρ, argTypes.toList with
  | [x], t :: _ => (clearO P H t x).map (.d (.tup []), ·)
  | _, _ => none
 | .call { callee := .builtin .len, args, argTypes } => match args.toList.map ρ, argTypes[0]? with
  | [x], some t => match x with | .map _ => (mapLen P H t x).map (·, H) | _ => (lenD P t x).map fun d => (.d d, H)
  | _, _ => none
 | _ => none
def compOp (b : Bool) (ops : Array Oper) (o : Oper) : Option AOp :=
 match o.guard with
 | none => some ⟨o.dst, o.op, none, b⟩
 | some (j, w) => do let p ← ops[j]?; let t ← p.dst; some ⟨o.dst, o.op, some (t, w), b⟩
def compOps (ops : Array Oper) : List Bool → List Oper → Option (List AOp)
 | _, [] => some []
 | bs, o :: r => do let a ← compOp (bs.headD false) ops o; let l ← compOps ops bs.tail r; some (a :: l)
def isCall (o : AOp) : Option (Operand × List Operand) :=
 match o.op with
 | .call { callee := .value f, args, .. } => some (f, args.toList)
 | _ => none
def liftsNil (o : AOp) : Bool := match o.op with | .assign _ => true | _ => false
def isVal (o : AOp) : Bool :=
 match o.op with
 | .binOp _ _ _ y _ => !isNilC y
 | .move _ | .assign _ | .pick .. | .nilCheck _ | .unOp .. | .convert .. | .makeFunc .. | .fieldAddr .. | .field .. | .extract .. | .build .. | .index .. => true
 | .call { callee := .builtin .max, .. } | .call { callee := .builtin .min, .. } => true
 | _ => false
def opTmps (o : Op) : List Tmp := o.operands.toList.filterMap fun | .tmp t => some t | _ => none
def areads (o : AOp) : List Tmp := opTmps o.op ++ (match o.guard with | some (t, _) => [t] | none => [])
def isBuild : Op → Bool | .buildSlice .. => true | _ => false
def isLit (o : AOp) : Bool := o.solo && isBuild o.op
def cls (o : AOp) : Nat :=
 if o.solo then (if isBuild o.op then 0 else 2) else
 if isVal o then (if liftsNil o then 1 else 0) else
 match o.op with
 | .call { callee := .value _, .. } | .call { callee := .builtin .len, .. } | .makeMap .. | .lookup .. | .binOp .. | .load .. | .slice .. | .indexAddr .. | .alloc _ | .box .. | .buildSlice .. | .makeSlice .. => 1
 | _ => 2
def indep (x y : AOp) : Bool :=
 (match x.dst with | some d => !(areads y).contains d && y.dst != some d | none => true) && (match y.dst with | some d => !(areads x).contains d | none => true) && decide (cls x + cls y ≤ 2)
def binding (o : Oper) : List Nat := (o.after.toList.filter (Region.binds .any)).map (·.on)
def drawOk (ops : Array Oper) (al : List AOp) : Bool :=
 let b := Region.before ops
 (List.range ops.size).all fun i => match ops[i]?, al[i]? with
  | some o, some ao => (binding o).all (· < i) && (List.range i).all fun j =>
    if (b.getD i 0).testBit j then (binding o).any fun k => k == j || (decide (j < k) && (b.getD k 0).testBit j)
    else match al[j]? with | some aj => indep aj ao | none => false
  | _, _ => false
abbrev Tch := Option (Option Oid)
def dynKind (o : AOp) : Bool :=
 match o.op with
 | .load .. | .store .. | .indexAddr .. | .slice .. | .box .. | .mapEntry .. => !o.solo
 | _ => false
def tch (o : AOp) (tm : List AV) : Tch :=
 match o.op with
 | .load _ a | .store _ a _ => match ev tm a with | .ptr o _ _ => some (some o) | .d _ => some none | _ => none
 | .indexAddr _ x _ | .slice _ x _ _ _ => match ev tm x with | .osl o _ _ _ _ | .vsl o _ _ _ _ | .ptr o _ _ => some (some o) | .d _ => some none | _ => none
 | .box _ _ => some none
 | .mapEntry _ m _ => match ev tm m with | .map o => some (some o) | .d _ => some none | _ => none
 | .call { callee := .builtin .len, args, .. } => match args.toList with | [x] => (match ev tm x with | .osl _ _ _ _ _ | .vsl _ _ _ _ _ | .d _ => some none | _ => none) | _ => none
 | _ => none
def apart : Tch → Tch → Bool
 | some (some x), some (some y) => x != y
 | some _, some _ => true
 | _, _ => false
def indepD (x y : AOp) : Bool :=
 (match x.dst with | some d => !(areads y).contains d && y.dst != some d | none => true) && (match y.dst with | some d => !(areads x).contains d | none => true) && (dynKind x && dynKind y)
def isLoadU (o : AOp) : Bool := match o.op with | .load .. => !o.solo && o.guard.isNone | _ => false
def isReadU (o : AOp) : Bool := match o.op with | .load .. | .indexAddr .. | .slice .. | .call { callee := .builtin .len, .. } => !o.solo | _ => false
def isApp (o : AOp) : Bool := match o.op with | .call { callee := .builtin .append, .. } => true | _ => false
def indepC (x y : AOp) : Bool :=
 (match x.dst with | some d => !(areads y).contains d && y.dst != some d | none => true) && (match y.dst with | some d => !(areads x).contains d | none => true) && ((x.solo && ((isCall x).isSome || isApp x) && isReadU y) || (isReadU x && y.solo && ((isCall y).isSome || isApp y)))
abbrev Lg := Tch × Option (Hp × Hp)
def lgOf (o : AOp) (st st' : St) : Lg := (tch o st.tm, if o.solo && !isBuild o.op then some (st.hp, st'.hp) else none)
mutual
def sameD : D → D → Bool
 | .int k n, .int k' n' => decide (k = k') && decide (n = n')
 | .bool a, .bool b => a == b
 | .str a, .str b => a.data == b.data
 | .sl cs len f nl, .sl cs' len' f' nl' => sameDL cs cs' && decide (len = len') && (f == f') && decide (nl = nl')
 | .nilptr, .nilptr | .nilmap, .nilmap | .nilfn, .nilfn => true
 | _, _ => false
def sameDL : List D → List D → Bool
 | [], [] => true
 | x :: r, y :: s => sameD x y && sameDL r s
 | _, _ => false
end
def sameV : AV → AV → Bool
 | .d x, .d y => sameD x y
 | .osl o a b c d, .osl o' a' b' c' d' => decide (o = o') && decide (a = a') && decide (b = b') && decide (c = c') && decide (d = d')
 | .ptr o a b, .ptr o' a' b' => decide (o = o') && decide (a = a') && decide (b = b')
 | _, _ => false
def sameVL : List AV → List AV → Bool
 | [], [] => true
 | x :: r, y :: s => sameV x y && sameVL r s
 | _, _ => false
def sameO : Option Obj → Option Obj → Bool
 | none, none => true
 | some (.cells a), some (.cells b) => sameVL a b
 | some (.grow a), some (.grow b) => sameVL a b
 | some .vnil, some .vnil => true
 | _, _ => false
open Classical in
noncomputable def eqO (x y : Option Obj) : Bool := sameO x y || decide (x = y)
noncomputable def keepsAt : Option (Hp × Hp) → Tch → Bool
 | some (Hb, Ha), some (some p) => eqO (Hb p) (Ha p)
 | some _, some none => true
 | _, _ => false
mutual
theorem sameD_eq : ∀ (x y : D), sameD x y = true → x = y
 | .int _ _, y, h => by cases y <;> simp [sameD] at h; simp [h]
 | .bool _, y, h => by cases y <;> simp [sameD] at h; simp [h]
 | .str a, y, h => by
  cases y <;> simp [sameD] at h
  rename_i b
  cases a; cases b; simp at h; simp [h]
 | .sl cs _ _ _, y, h => by
  cases y <;> simp [sameD] at h
  rename_i cs' _ _ _
  obtain ⟨⟨⟨h1, rfl⟩, rfl⟩, rfl⟩ := h
  rw [sameDL_eq cs cs' h1]
 | .nilptr, y, h => by cases y <;> simp [sameD] at h; rfl
 | .nilmap, y, h => by cases y <;> simp [sameD] at h; rfl
 | .nilfn, y, h => by cases y <;> simp [sameD] at h; rfl
 | .dptr _, y, h => by cases y <;> simp [sameD] at h
 | .fn _ _, y, h => by cases y <;> simp [sameD] at h
 | .agg _, y, h => by cases y <;> simp [sameD] at h
 | .tup _, y, h => by cases y <;> simp [sameD] at h
theorem sameDL_eq : ∀ (x y : List D), sameDL x y = true → x = y
 | [], y, h => by cases y <;> simp [sameDL] at h; rfl
 | x :: r, y, h => by
  cases y <;> simp [sameDL] at h
  rename_i y s
  rw [sameD_eq x y h.1, sameDL_eq r s h.2]
end
theorem sameV_eq {x y : AV} (h : sameV x y = true) : x = y := by
 cases x <;> cases y <;> simp [sameV] at h <;> try (first | rw [sameD_eq _ _ h] | simp [h])
theorem sameVL_eq : ∀ {x y : List AV}, sameVL x y = true → x = y
 | [], y, h => by cases y <;> simp [sameVL] at h; rfl
 | x :: r, y, h => by
  cases y <;> simp [sameVL] at h
  rename_i y s
  rw [sameV_eq h.1, sameVL_eq h.2]
theorem sameO_eq {x y : Option Obj} (h : sameO x y = true) : x = y := by
 unfold sameO at h
 split at h
 ·rfl
 ·rw [sameVL_eq h]
 ·rw [sameVL_eq h]
 ·rfl
 ·cases h
@[simp] theorem eqO_iff (x y : Option Obj) : eqO x y = true ↔ x = y := by
 simp only [eqO, Bool.or_eq_true, decide_eq_true_eq]
 exact ⟨fun h => h.elim sameO_eq id, .inr⟩
noncomputable def apartL (x y : Lg) : Bool := apart x.1 y.1 || (keepsAt x.2 y.1 || keepsAt y.2 x.1)
def drawPairs (ops : Array Oper) (al : List AOp) : Option (List (Nat × Nat)) :=
 let b := Region.before ops
 let prs := (List.range ops.size).flatMap fun i => (List.range i).filterMap fun j =>
  if (b.getD i 0).testBit j then none else match al[j]?, al[i]? with | some aj, some ai => if indep aj ai then none else some (j, i) | _, _ => none
 if (List.range ops.size).all fun i => match ops[i]?, al[i]? with
  | some o, some ao => (binding o).all (· < i) && (List.range i).all fun j =>
    if (b.getD i 0).testBit j then (binding o).any fun k => k == j || (decide (j < k) && (b.getD k 0).testBit j)
    else match al[j]? with | some aj => indep aj ao || ((indepD aj ao || indepC aj ao) && prs.contains (j, i)) | none => false
  | _, _ => false
 then some prs else none
def litC (w : Bool) (bf : Nat → Nat → Bool) (al : List AOp) (i : Nat) : Bool :=
 w && (match al[i]? with
  | some o => isBuild o.op && (match o.dst with | some d => al.any (fun a => match a.op with | .call { callee := .builtin .append, args, .. } => (match args.toList with | [_, .tmp e] => e == d | _ => false) | _ => false) | none => false)
  | none => false) && (List.range al.length).any fun j => j != i && !bf i j && !bf j i && (match al[j]? with | some aj => isApp aj || (isCall aj).isSome | none => false)
def soloBits (w : Bool) (ops : Array Oper) (al : List AOp) : List Bool :=
 let b := Region.before ops
 (List.range ops.size).map fun i => match al[i]? with
  | some a => ((isCall a).isSome && (List.range ops.size).all fun j => j == i || (match al[j]? with | some aj => cls aj == 0 || litC w (fun i j => (b.getD i 0).testBit j) al j || (w && isReadU aj) || (b.getD i 0).testBit j || (b.getD j 0).testBit i | none => false)) ||
   (w && isApp a && (List.range ops.size).all fun j => j == i || (match al[j]? with | some aj => cls aj == 0 || litC w (fun i j => (b.getD i 0).testBit j) al j || isReadU aj || (b.getD i 0).testBit j || (b.getD j 0).testBit i | none => false)) || litC w (fun i j => (b.getD i 0).testBit j) al i
  | none => false
def ranges : Code → Bool
 | .region _ ops _ => ops.any fun o => match o.op with | .range .. => true | _ => false
 | _ => false
def readsC : Code → List Tmp
 | .region _ ops _ => ops.toList.flatMap fun o => opTmps o.op
 | .seq a b => readsC a ++ readsC b
 | .cond c a b => (match c with | .tmp t => [t] | _ => []) ++ readsC a ++ readsC b
 | .block _ a | .loop a | .scope a => readsC a
 | _ => []
def compile (w : Bool) : Code → Option ACode
 | .skip => some .skip
 | .region _ ops draw => (compOps ops [] ops.toList).bind fun al =>
  if draw then (compOps ops (soloBits w ops al) ops.toList).bind fun al => if drawOk ops al then some (.dregion al) else (drawPairs ops al).map (.tregion al)
  else some (.region al)
 | .seq a b => if ranges a then some (.hole (.seq a b)) else do let x ← compile w a; let y ← compile w b; some (.seq x y)
 | .cond c a b => do let x ← compile w a; let y ← compile w b; some (.cond c x y)
 | .block id a => do let x ← compile w a; some (.block id x)
 | .loop a => do let x ← compile w a; some (.loop [] false x)
 | .exit id => some (.exit id)
 | .scope a => compile w a
 | .label _ => some .skip
 | .ret => some .ret
 | .rangeFunc g ps a b => do let x ← compile w a; let y ← compile w b; some (.rfun g ps.toList x y)
 | _ => none
def firstOcc (o : AOp) (p : List Tmp × List Tmp) : List Tmp × List Tmp :=
 let r := (areads o).foldl (fun (q : List Tmp × List Tmp) t => if q.1.contains t || q.2.contains t then q else (t :: q.1, q.2)) p
 match o.dst with
 | some d => if r.1.contains d || r.2.contains d then r else (r.1, d :: r.2)
 | none => r
def readsA : ACode → List Tmp
 | .region ops | .dregion ops | .tregion ops _ => ops.flatMap areads
 | .seq a b => readsA a ++ readsA b
 | .cond c a b => (match c with | .tmp t => [t] | _ => []) ++ readsA a ++ readsA b
 | .block _ a | .loop _ _ a => readsA a
 | .hole c => readsC c
 | .rfun g _ a b => (match g with | .tmp t => [t] | _ => []) ++ readsA a ++ readsA b
 | _ => []
def occs : ACode → List Tmp × List Tmp → List Tmp × List Tmp
 | .region ops, p | .dregion ops, p | .tregion ops _, p => ops.foldl (fun q o => firstOcc o q) p
 | .seq a b, p => occs b (occs a p)
 | .cond c a b, p => occs b (occs a (match c with | .tmp t => if p.1.contains t || p.2.contains t then p else (t :: p.1, p.2) | _ => p))
 | .block _ a, p | .loop _ _ a, p => occs a p
 | .rfun g ps a b, p => ((readsA (.rfun g ps a b)).foldl (fun q t => if p.2.contains t then q else t :: q) p.1, p.2)
 | .hole c, p => ((readsC c).foldl (fun q t => if p.2.contains t then q else t :: q) p.1, p.2)
 | _, p => p
def liveK (n : Nat) (aft : List Tmp) (body : ACode) : List Bool :=
 let r := (occs body ([], [])).1
 (List.range n).map fun t => r.contains t || aft.contains t
def fixL (n : Nat) (keep : Bool) : List Tmp → ACode → ACode
 | aft, .seq a b => .seq (fixL n keep (readsA b ++ aft) a) (fixL n keep aft b)
 | aft, .cond c a b => .cond c (fixL n keep aft a) (fixL n keep aft b)
 | aft, .block id a => .block id (fixL n keep aft a)
 | aft, .loop _ _ a => .loop (liveK n aft a) keep (fixL n keep ((occs a ([], [])).1 ++ aft) a)
 | aft, .rfun g ps a b => .rfun g ps (fixL n keep (readsA b ++ aft) a) (fixL n keep aft b)
 | _, c => c
def keepNames : List String := ["assize/assizeref08.Greater", "assize/lpo.laid", "assize/term.collect", "(*assize/term.Bank).lay", "assize/assizelaw03.TermBanks", "assize/assizelaw03.TermOnce", "assize/subst.Shift", "assize/assizeref04.shift", "assize/subst.Rename", "assize/subst.Rename$1", "assize/assizelaw08.LpoSoon", "(*assize/sched.Sched).Tick", "(*assize/assizeref21.Sched).Tick", "assize/assizelaw21.SchedPlays", "assize/assizelaw21.SchedFair", "assize/assizelaw21.SchedApart"]
def wideNames : List String := ["(assize/kbo.Sign).compare", "(*assize/sched.Sched).Add", "(*assize/sched.Sched).Remove", "(*assize/sched.Sched).Tick", "(*assize/assizeref21.Sched).Add", "(*assize/assizeref21.Sched).Remove", "(*assize/assizeref21.Sched).Tick", "assize/sched.turned[assize/sched.query]", "assize/assizelaw21.SchedPlays", "assize/term.walk", "(*assize/term.Bank).told", "assize/assizelaw03.TermBanks", "assize/assizelaw03.TermOnce", "assize/assizelaw09.MultiMore"]
def resTmps : List ResultVar → List Tmp := List.map fun | .tmp t => t | .cell t _ => t
def bodyOf (P : Program) (f : FuncId) : Option (ACode × Nat × List ResultVar) := if f = yieldF then none else do
 let fn ← P.funcs[f]?
 let c ← fn.body
 let a ← compile (wideNames.contains fn.name) c
 if fn.name == "runtime.NumGoroutine" then none else some (fixL fn.ntmps (keepNames.contains fn.name) (resTmps fn.results.toList) a, fn.ntmps, fn.results.toList)
def strip : ACode → ACode
 | .seq a b => .seq (strip a) (strip b)
 | .cond c a b => .cond c (strip a) (strip b)
 | .block id a => .block id (strip a)
 | .loop _ _ a => .loop [] false (strip a)
 | .rfun g ps a b => .rfun g ps (strip a) (strip b)
 | c => c
abbrev CallF := FuncId → List AV → Hp → Nat → Option (AV × Hp × Nat)
abbrev CallF' := List AV → Hp → Nat → Option (AV × Hp × Nat)
structure Mask where
 ks : List Bool
 nx : Option Nat
abbrev LoopF := ACode → Mask → St → Option (Ex × St)
def maskT : List Bool → List AV → List AV
 | b :: bs, v :: vs => (if b then v else .junk) :: maskT bs vs
 | [], vs => vs
 | _, [] => []
def forgetH : Option Nat → Hp → Hp
 | some k, H => fun p => if p.1 < k then H p else none
 | none, H => H
def back (m : Mask) (st : St) : St := ⟨maskT m.ks st.tm, forgetH m.nx st.hp, st.nx⟩
structure Pol where
 raw : FuncId → Bool
 ext : FuncId → Option CallF' := fun _ => none
 hole : Code → Option (St → Option (Ex × St)) := fun _ => none
 weak : FuncId → Bool := fun _ => false
 deep : FuncId → Nat := fun _ => 6
def reifyAll (n : Nat) (H : Hp) (vs : List AV) : Option (List D × List Oid) := mapD (reify H n) vs
def isFnD : AV → Option (FuncId × List AV)
 | .d (.fn f c) => if f = yieldF then none else some (f, c.map .d)
 | .fn f c => if f = yieldF then none else some (f, c)
 | .yld o => some (yieldF, [.yld o])
 | _ => none
def unfull : D → D
 | .sl cs len _ nl => .sl cs len false nl
 | x => x
def pcl (cl : CallF) (f : FuncId) (ds : List D) : Option D := (cl f (ds.map .d) (fun _ => none) 0).bind fun q => (reify q.2.1 6 q.1).map fun x => unfull x.1
mutual
def wk : D → D
 | .sl cs len _ _ => .sl (wkL cs) len false none
 | .agg cs => .agg (wkL cs)
 | .tup cs => .tup (wkL cs)
 | .dptr cs => .dptr (wkL cs)
 | x => x
def wkL : List D → List D
 | [] => []
 | x :: r => wk x :: wkL r
end
def wkIf (b : Bool) (ds : List D) : List D := if b then wkL ds else ds
def wk1 (b : Bool) (x : D) : D := if b then wk x else x
def callA (pol : Pol) (cl : CallF) (H : Hp) (nx : Nat) (f : FuncId) (vs : List AV) : Option (AV × Hp × Nat) :=
 match (if pol.raw f then none else reifyAll (pol.deep f) H vs) with
 | some (ds, is) => ((pcl cl f (wkIf (pol.weak f) ds)).map (wk1 (pol.weak f))).bind fun x => some (.d x, kill H (if flatD x then [] else is), nx)
 | none => cl f vs H nx
def litD (P : Program) (ρ : Operand → AV) : Op → Option AV
 | .buildSlice t len ps => do
  let e ← telem P t
  let n ← tsize P e
  let z ← zeroCells P e
  if n = 0 ∨ len = 0 ∨ len * n > 16777216 ∨ z.length ≠ n then none else
  let cs ← fillC (fun i => some (i * n, n)) ((List.replicate len z).flatten) (ps.toList.map fun p => (p.1, ρ p.2))
  let ds ← allD cs
  some (.d (.sl ds len false (some false)))
 | _ => none
def put (st : St) (dst : Option Tmp) (v : AV) : St := match dst with | some d => { st with tm := st.tm.set d v } | none => st
def stepN (P : Program) (id : Nat) (o : AOp) (st : St) : Option St :=
 if isVal o then do
  let v ← valOp P (ev st.tm) o.op
  if liftsNil o && isNil v then some (put ⟨st.tm, upd st.hp (id, 1) .vnil, st.nx⟩ o.dst (.osl (id, 1) 0 0 1 0))
  else some (put st o.dst v)
 else if isLit o then (litD P (ev st.tm) o.op).map (put st o.dst)
 else do
  let (v, H) ← heapOp P (ev st.tm) st.hp id o.op
  some (put ⟨st.tm, H, st.nx⟩ o.dst v)
def stepOp (P : Program) (pol : Pol) (cl : CallF) (id : Nat) (o : AOp) (st : St) : Option St :=
 match isCall o with
 | some (f, as) => do
  let (g, cap) ← isFnD (ev st.tm f)
  let (v, H, nx) ← callA pol cl st.hp st.nx (numF g) (joinF g (as.map (ev st.tm)) cap)
  some (put ⟨st.tm, H, nx⟩ o.dst v)
 | none => stepN P id o st
def callS (pol : Pol) (cl : CallF) (H : Hp) (f : FuncId) (vs : List AV) : Option (AV × List Oid) :=
 match (if pol.raw f then none else reifyAll (pol.deep f) H vs) with
 | some (ds, is) => ((pcl cl f (wkIf (pol.weak f) ds)).map (wk1 (pol.weak f))).bind fun x => some (.d x, if flatD x then [] else is)
 | none => none
def stepOpS (P : Program) (pol : Pol) (cl : CallF) (id : Nat) (o : AOp) (st : St) : Option St :=
 if o.solo then stepOp P pol cl id o st else
 match isCall o with
 | some (f, as) => do
  let (g, cap) ← isFnD (ev st.tm f)
  let (v, is) ← callS pol cl st.hp (numF g) (joinF g (as.map (ev st.tm)) cap)
  some (put ⟨st.tm, kill st.hp is, st.nx⟩ o.dst v)
 | none => stepN P id o st
def guarded (o : AOp) (st : St) (k : Option St) : Option St :=
 match o.guard with
 | none => k
 | some (t, w) =>
  match st.tm.getD t .junk with
  | .d (.bool b) => if b = w then k else some (put st o.dst (.d (.tup [])))
  | .d (.tup []) => some (put st o.dst (.d (.tup [])))
  | _ => none
def stepG (P : Program) (pol : Pol) (cl : CallF) (id : Nat) (o : AOp) (st : St) : Option St := guarded o st (stepOp P pol cl id o st)
def stepGS (P : Program) (pol : Pol) (cl : CallF) (id : Nat) (o : AOp) (st : St) : Option St := guarded o st (stepOpS P pol cl id o st)
def runOps (P : Program) (pol : Pol) (cl : CallF) : Nat → List AOp → St → Option St
 | _, [], st => some st
 | id, o :: r, st => (stepG P pol cl id o st).bind (runOps P pol cl (id + 1) r)
def runOpsS (P : Program) (pol : Pol) (cl : CallF) : Nat → List AOp → St → Option St
 | _, [], st => some st
 | id, o :: r, st => (stepGS P pol cl id o st).bind (runOpsS P pol cl (id + 1) r)
def runOpsL (P : Program) (pol : Pol) (cl : CallF) : Nat → List AOp → St → List Lg → Option (St × List Lg)
 | _, [], st, lg => some (st, lg)
 | id, o :: r, st, lg => (stepGS P pol cl id o st).bind fun st' => runOpsL P pol cl (id + 1) r st' (lg ++ [lgOf o st st'])
noncomputable def pairsOk (lg : List Lg) (prs : List (Nat × Nat)) : Bool := prs.all fun p => apartL (lg.getD p.1 (none, none)) (lg.getD p.2 (none, none))
def runRegion (P : Program) (pol : Pol) (cl : CallF) (ops : List AOp) (st : St) : Option St :=
 runOps P pol cl st.nx ops ⟨st.tm, st.hp, st.nx + ops.length⟩
def dropO (H : Hp) (o : Oid) : Hp := fun p => if p = o then none else H p
noncomputable def exec (P : Program) (pol : Pol) (cl : CallF) (lp : LoopF) : ACode → St → Option (Ex × St)
 | .skip, st => some (.normal, st)
 | .region ops, st => (runRegion P pol cl ops st).bind fun st' => some (.normal, st')
 | .dregion ops, st => (runOpsS P pol cl st.nx ops ⟨st.tm, st.hp, st.nx + ops.length⟩).bind fun st' => some (.normal, st')
 | .tregion ops prs, st => (runOpsL P pol cl st.nx ops ⟨st.tm, st.hp, st.nx + ops.length⟩ []).bind fun q => if pairsOk q.2 prs then some (.normal, q.1) else none
 | .seq a b, st => (exec P pol cl lp a st).bind fun
  | (.normal, st') => exec P pol cl lp b st'
  | r => some r
 | .cond c a b, st => match ev st.tm c with | .d (.bool t) => if t then exec P pol cl lp a st else exec P pol cl lp b st | _ => none
 | .block id c, st => (exec P pol cl lp c st).bind fun
  | (.exit j, st') => some (if j = id then (.normal, st') else (.exit j, st'))
  | r => some r
 | .loop ks keep c, st => lp c ⟨ks, if keep then none else some st.nx⟩ ⟨maskT ks st.tm, st.hp, st.nx⟩
 | .exit id, st => some (.exit id, st)
 | .ret, st => some (.ret, st)
 | .hole c, st => (pol.hole c).bind fun g => g st
 | .rfun g ps as body, st => (isFnD (ev st.tm g)).bind fun (f, cap) => if yieldF ≤ f then none else
  (cl f ([.yld (st.nx, 0)] ++ cap) (upd st.hp (st.nx, 0) (.rc ps as body st.tm .ready)) (st.nx + 1)).bind fun (_, H, nx) =>
  match H (st.nx, 0) with
  | some (.rc _ _ _ _ .ready) => some (.normal, ⟨st.tm, dropO H (st.nx, 0), nx⟩)
  | some (.rc _ _ _ _ (.left e)) => some (e, ⟨st.tm, dropO H (st.nx, 0), nx⟩)
  | _ => none
def resultOf (P : Program) (st : St) : ResultVar → Option AV
 | .tmp t => some (st.tm.getD t .junk)
 | .cell a t => load P st.hp t (st.tm.getD a .junk)
def results (P : Program) (st : St) (rs : List ResultVar) : Option AV := do
 match ← rs.mapM (resultOf P st) with
 | [v] => some v
 | vs => some (mkTup vs)
def noR : ACode → Bool
 | .seq a b | .cond _ a b => noR a && noR b
 | .block _ a | .loop _ _ a => noR a
 | .hole _ | .rfun .. => false
 | _ => true
def setPs : List Tmp → List AV → List AV → List AV
 | t :: ts, v :: vs, tm => setPs ts vs (tm.set t v)
 | _, _, tm => tm
noncomputable def roundF (P : Program) (pol : Pol) (cl : CallF) (lp : LoopF) : CallF' := fun vs H nx =>
 match vs.getLast? with
 | some (.yld o) =>
  match H o with
  | some (.rc ps as body tm .ready) =>
   if vs.length = ps.length + 1 ∧ noR as = true ∧ noR body = true then
    (exec P pol cl lp as ⟨setPs ps vs tm, H, nx⟩).bind fun
    | (.normal, s1) => (match s1.hp o with
     | some (.rc ps1 as1 body1 tm1 .ready) => (exec P pol cl lp body ⟨s1.tm, upd s1.hp o (.rc ps1 as1 body1 tm1 .busy), s1.nx⟩).bind fun (e, s2) => (match s2.hp o with
      | some (.rc ps2 as2 body2 tm2 .busy) => (match e with
       | .normal => some (.d (.bool true), upd s2.hp o (.rc ps2 as2 body2 tm2 .ready), s2.nx)
       | e => some (.d (.bool false), upd s2.hp o (.rc ps2 as2 body2 tm2 (.left e)), s2.nx))
      | _ => none)
     | _ => none)
    | _ => none
   else none
  | _ => none
 | _ => none
noncomputable def callF (P : Program) (pol : Pol) (cl : CallF) (lp : LoopF) : CallF := fun f vs H nx =>
 if f = yieldF then roundF P pol cl lp vs H nx else
 match pol.ext f with
 | some g => g vs H nx
 | none => (bodyOf P f).bind fun (c, n, rs) => (exec P pol cl lp c ⟨vs ++ List.replicate (n - vs.length) .junk, H, nx⟩).bind fun
  | (.normal, st) | (.ret, st) => (results P st rs).bind fun v => some (v, st.hp, st.nx)
  | _ => none
noncomputable def loopF (P : Program) (pol : Pol) (cl : CallF) (lp : LoopF) : LoopF := fun c m st => (exec P pol cl lp c st).bind fun
 | (.normal, st') => lp c m (back m st')
 | (e, st') => some (e, back m st')
noncomputable def oracles (P : Program) (pol : Pol) : Nat → CallF × LoopF
 | 0 => (fun _ _ _ _ => none, fun _ _ _ => none)
 | n + 1 => let r := oracles P pol n; (callF P pol r.1 r.2, loopF P pol r.1 r.2)
end Go.Proofs.Ytiafeijkifpfaaa.Am

/-
 The abstract machine: calls and loops as fixed points (a call's answer at some number of rounds). No condition.
-/
namespace Go.Proofs.Ytiafeijkifpfaaa.Am
open Go
def LeC (c c' : CallF) : Prop := ∀ f vs H nx r, c f vs H nx = some r → c' f vs H nx = some r
def LeL (l l' : LoopF) : Prop := ∀ c m st r, l c m st = some r → l' c m st = some r
theorem LeC.refl (c : CallF) : LeC c c := fun _ _ _ _ _ h => h
theorem LeL.refl (c : LoopF) : LeL c c := fun _ _ _ _ h => h
theorem LeC.trans {a b c : CallF} (h : LeC a b) (k : LeC b c) : LeC a c := fun _ _ _ _ _ e => k _ _ _ _ _ (h _ _ _ _ _ e)
theorem LeL.trans {a b c : LoopF} (h : LeL a b) (k : LeL b c) : LeL a c := fun _ _ _ _ e => k _ _ _ _ (h _ _ _ _ e)
section
variable {P : Program} {pol : Pol} {cl cl' : CallF} {lp lp' : LoopF}
theorem pcl_mono (hc : LeC cl cl') {f ds r} (h : pcl cl f ds = some r) : pcl cl' f ds = some r := by
 unfold pcl at h ⊢
 cases hq : cl f (ds.map .d) (fun _ => none) 0 with
 | none => rw [hq] at h; cases h
 | some q => rw [hq] at h; rw [hc _ _ _ _ _ hq]; exact h
theorem callA_mono (hc : LeC cl cl') {H nx f vs r} (h : callA pol cl H nx f vs = some r) : callA pol cl' H nx f vs = some r := by
 unfold callA at h ⊢
 split at h
 ·rename_i ds is _
  cases hq : pcl cl f (wkIf (pol.weak f) ds) with
  | none => rw [hq] at h; cases h
  | some q => rw [hq] at h; rw [pcl_mono hc hq]; exact h
 ·exact hc _ _ _ _ _ h
theorem stepOp_mono (hc : LeC cl cl') {id o st r} (h : stepOp P pol cl id o st = some r) : stepOp P pol cl' id o st = some r := by
 unfold stepOp at h ⊢
 split at h
 ·rename_i f as _
  cases hg : isFnD (ev st.tm f) with
  | none => rw [hg] at h; cases h
  | some g =>
   rw [hg] at h
   obtain ⟨g, cap⟩ := g
   simp only [Option.bind_eq_bind, Option.bind_some] at h ⊢
   cases hq : callA pol cl st.hp st.nx (numF g) (joinF g (as.map (ev st.tm)) cap) with
   | none => rw [hq] at h; cases h
   | some q => rw [hq] at h; rw [callA_mono hc hq]; exact h
 ·exact h
theorem guarded_mono {o : AOp} {st : St} {k k' : Option St} {r : St} (hk : ∀ r, k = some r → k' = some r) (h : guarded o st k = some r) : guarded o st k' = some r := by
 unfold guarded at h ⊢
 split at h
 ·exact hk _ h
 ·split at h
  ·split at h
   ·rename_i hb; rw [if_pos hb]; exact hk _ h
   ·rename_i hb; rw [if_neg hb]; exact h
  ·exact h
  ·cases h
theorem stepG_mono (hc : LeC cl cl') {id o st r} (h : stepG P pol cl id o st = some r) : stepG P pol cl' id o st = some r := guarded_mono (fun _ h => stepOp_mono hc h) h
theorem callS_mono (hc : LeC cl cl') {H f vs r} (h : callS pol cl H f vs = some r) : callS pol cl' H f vs = some r := by
 unfold callS at h ⊢
 split at h
 ·rename_i ds is _
  cases hq : pcl cl f (wkIf (pol.weak f) ds) with
  | none => rw [hq] at h; cases h
  | some q => rw [hq] at h; rw [pcl_mono hc hq]; exact h
 ·cases h
theorem stepOpS_mono (hc : LeC cl cl') {id o st r} (h : stepOpS P pol cl id o st = some r) : stepOpS P pol cl' id o st = some r := by
 unfold stepOpS at h ⊢
 split at h
 ·rename_i hs; rw [if_pos hs]; exact stepOp_mono hc h
 rename_i hs; rw [if_neg hs]
 split at h
 ·rename_i f as _
  cases hg : isFnD (ev st.tm f) with
  | none => rw [hg] at h; cases h
  | some g =>
   rw [hg] at h
   obtain ⟨g, cap⟩ := g
   simp only [Option.bind_eq_bind, Option.bind_some] at h ⊢
   cases hq : callS pol cl st.hp (numF g) (joinF g (as.map (ev st.tm)) cap) with
   | none => rw [hq] at h; cases h
   | some q => rw [hq] at h; rw [callS_mono hc hq]; exact h
 ·exact h
theorem runOpsS_mono (hc : LeC cl cl') (l : List AOp) : ∀ {id st r}, runOpsS P pol cl id l st = some r → runOpsS P pol cl' id l st = some r := by
 induction l with
 | nil => intro id st r h; exact h
 | cons o l ih =>
  intro id st r h
  simp only [runOpsS] at h ⊢
  cases hq : stepGS P pol cl id o st with
  | none => rw [hq] at h; cases h
  | some q => rw [hq] at h; rw [show stepGS P pol cl' id o st = some q from guarded_mono (fun _ h => stepOpS_mono hc h) hq]; exact ih h
theorem runOpsL_mono (hc : LeC cl cl') (l : List AOp) : ∀ {id st lg r}, runOpsL P pol cl id l st lg = some r → runOpsL P pol cl' id l st lg = some r := by
 induction l with
 | nil => intro id st lg r h; exact h
 | cons o l ih =>
  intro id st lg r h
  simp only [runOpsL, Option.bind_eq_some_iff] at h ⊢
  obtain ⟨st1, h1, h2⟩ := h
  refine ⟨st1, guarded_mono (fun _ h => stepOpS_mono hc h) h1, ih h2⟩
theorem runOps_mono (hc : LeC cl cl') (l : List AOp) : ∀ {id st r}, runOps P pol cl id l st = some r → runOps P pol cl' id l st = some r := by
 induction l with
 | nil => intro id st r h; exact h
 | cons o l ih =>
  intro id st r h
  simp only [runOps] at h ⊢
  cases hq : stepG P pol cl id o st with
  | none => rw [hq] at h; cases h
  | some q => rw [hq] at h; rw [stepG_mono hc hq]; exact ih h
theorem exec_mono (hc : LeC cl cl') (hl : LeL lp lp') (c : ACode) : ∀ {st r}, exec P pol cl lp c st = some r → exec P pol cl' lp' c st = some r := by
 induction c with
 | region ops =>
  intro st r h
  simp only [exec, runRegion] at h ⊢
  cases hq : runOps P pol cl st.nx ops ⟨st.tm, st.hp, st.nx + ops.length⟩ with
  | none => rw [hq] at h; cases h
  | some q => rw [hq] at h; rw [runOps_mono hc _ hq]; exact h
 | dregion ops =>
  intro st r h
  simp only [exec] at h ⊢
  cases hq : runOpsS P pol cl st.nx ops ⟨st.tm, st.hp, st.nx + ops.length⟩ with
  | none => rw [hq] at h; cases h
  | some q => rw [hq] at h; rw [runOpsS_mono hc _ hq]; exact h
 | tregion ops prs =>
  intro st r h
  simp only [exec] at h ⊢
  cases hq : runOpsL P pol cl st.nx ops ⟨st.tm, st.hp, st.nx + ops.length⟩ [] with
  | none => rw [hq] at h; cases h
  | some q => rw [hq] at h; rw [runOpsL_mono hc _ hq]; exact h
 | seq a b iha ihb =>
  intro st r h
  simp only [exec] at h ⊢
  cases hq : exec P pol cl lp a st with
  | none => rw [hq] at h; cases h
  | some q =>
   rw [hq] at h; rw [iha hq]
   obtain ⟨e, st'⟩ := q
   cases e with
   | normal => exact ihb h
   | exit j => exact h
   | ret => exact h
 | cond x a b iha ihb =>
  intro st r h
  simp only [exec] at h ⊢
  split at h
  ·split at h
   ·rename_i hb; rw [if_pos hb]; exact iha h
   ·rename_i hb; rw [if_neg hb]; exact ihb h
  ·cases h
 | block id c ih =>
  intro st r h
  simp only [exec] at h ⊢
  cases hq : exec P pol cl lp c st with
  | none => rw [hq] at h; cases h
  | some q => rw [hq] at h; rw [ih hq]; exact h
 | loop ks keep c ih => intro st r h; exact hl _ _ _ _ h
 | skip => intro st r h; exact h
 | exit id => intro st r h; exact h
 | ret => intro st r h; exact h
 | hole c => intro st r h; exact h
 | rfun g ps a b iha ihb =>
  intro st r h
  simp only [exec] at h ⊢
  cases hg : isFnD (ev st.tm g) with
  | none => rw [hg] at h; cases h
  | some q =>
   rw [hg] at h
   obtain ⟨f, cap⟩ := q
   simp only [Option.bind_some] at h ⊢
   split at h
   ·cases h
   ·rename_i hf
    rw [if_neg hf]
    cases hq : cl f ([.yld (st.nx, 0)] ++ cap) (upd st.hp (st.nx, 0) (.rc ps a b st.tm .ready)) (st.nx + 1) with
    | none => rw [hq] at h; cases h
    | some q => rw [hq] at h; rw [hc _ _ _ _ _ hq]; exact h
theorem roundF_mono (hc : LeC cl cl') (hl : LeL lp lp') {vs : List AV} {H : Hp} {nx : Nat} {r : AV × Hp × Nat} (h : roundF P pol cl lp vs H nx = some r) : roundF P pol cl' lp' vs H nx = some r := by
 unfold roundF at h ⊢
 split at h
 ·rename_i o ho
  split at h
  ·rename_i ps as body tm hH
   split at h
   ·rename_i hlen
    rw [if_pos hlen]
    cases hq : exec P pol cl lp as ⟨setPs ps vs tm, H, nx⟩ with
    | none => rw [hq] at h; cases h
    | some q =>
     rw [hq] at h; rw [exec_mono hc hl _ hq]
     obtain ⟨e, s1⟩ := q
     cases e with
     | normal =>
      simp only [Option.bind_some] at h ⊢
      split at h
      ·rename_i ps1 as1 body1 tm1 hH1
       cases hq2 : exec P pol cl lp body ⟨s1.tm, upd s1.hp o (.rc ps1 as1 body1 tm1 .busy), s1.nx⟩ with
       | none => rw [hq2] at h; cases h
       | some q2 => rw [hq2] at h; rw [exec_mono hc hl _ hq2]; exact h
      ·cases h
     | exit j => exact h
     | ret => exact h
   ·cases h
  ·cases h
 ·cases h
theorem callF_mono (hc : LeC cl cl') (hl : LeL lp lp') : LeC (callF P pol cl lp) (callF P pol cl' lp') := by
 intro f vs H nx r h
 simp only [callF] at h ⊢
 split at h
 ·rename_i hf
  rw [if_pos hf]
  exact roundF_mono hc hl h
 rename_i hf
 rw [if_neg hf]
 cases h0 : pol.ext f with
 | some g => rw [h0] at h; exact h
 | none =>
 rw [h0] at h
 simp only at h ⊢
 cases h1 : bodyOf P f with
 | none => rw [h1] at h; cases h
 | some q =>
  obtain ⟨c, n, rs⟩ := q
  rw [h1] at h
  simp only [Option.bind_some] at h ⊢
  cases h3 : exec P pol cl lp c ⟨vs ++ List.replicate (n - vs.length) .junk, H, nx⟩ with
  | none => rw [h3] at h; cases h
  | some q => rw [h3] at h; rw [exec_mono hc hl _ h3]; exact h
theorem loopF_mono (hc : LeC cl cl') (hl : LeL lp lp') : LeL (loopF P pol cl lp) (loopF P pol cl' lp') := by
 intro c m st r h
 simp only [loopF] at h ⊢
 cases h3 : exec P pol cl lp c st with
 | none => rw [h3] at h; cases h
 | some q =>
  rw [h3] at h; rw [exec_mono hc hl _ h3]
  obtain ⟨e, st'⟩ := q
  cases e with
  | normal =>
   simp only [Option.bind_some] at h ⊢
   exact hl _ _ _ _ h
  | exit j => exact h
  | ret => exact h
end
section
variable (P : Program) (pol : Pol)
theorem oracles_step (n : Nat) : LeC (oracles P pol n).1 (oracles P pol (n + 1)).1 ∧ LeL (oracles P pol n).2 (oracles P pol (n + 1)).2 := by
 induction n with
 | zero =>
  refine ⟨?_, ?_⟩
  ·intro f vs H nx r h; simp [oracles] at h
  ·intro c m st r h; simp [oracles] at h
 | succ n ih => exact ⟨callF_mono ih.1 ih.2, loopF_mono ih.1 ih.2⟩
theorem oracles_le {n m : Nat} (h : n ≤ m) : LeC (oracles P pol n).1 (oracles P pol m).1 ∧ LeL (oracles P pol n).2 (oracles P pol m).2 := by
 induction h with
 | refl => exact ⟨.refl _, .refl _⟩
 | step _ ih => exact ⟨ih.1.trans (oracles_step P pol _).1, ih.2.trans (oracles_step P pol _).2⟩
open Classical in
noncomputable def acall : CallF := fun f vs H nx => if h : ∃ r n, (oracles P pol n).1 f vs H nx = some r then some h.choose else none
open Classical in
noncomputable def aloop : LoopF := fun c m st => if h : ∃ r n, (oracles P pol n).2 c m st = some r then some h.choose else none
theorem acall_some {f vs H nx r} : acall P pol f vs H nx = some r ↔ ∃ n, (oracles P pol n).1 f vs H nx = some r := by
 unfold acall
 constructor
 ·intro h
  split at h
  ·rename_i hx
   obtain rfl := Option.some.inj h
   exact hx.choose_spec
  ·cases h
 ·rintro ⟨n, hn⟩
  have hx : ∃ r n, (oracles P pol n).1 f vs H nx = some r := ⟨r, n, hn⟩
  rw [dif_pos hx]
  obtain ⟨m, hm⟩ := hx.choose_spec
  have a := (oracles_le P pol (Nat.le_max_left n m)).1 _ _ _ _ _ hn
  have b := (oracles_le P pol (Nat.le_max_right n m)).1 _ _ _ _ _ hm
  rw [a] at b
  exact b.symm
theorem aloop_some {c m st r} : aloop P pol c m st = some r ↔ ∃ n, (oracles P pol n).2 c m st = some r := by
 unfold aloop
 constructor
 ·intro h
  split at h
  ·rename_i hx
   obtain rfl := Option.some.inj h
   exact hx.choose_spec
  ·cases h
 ·rintro ⟨n, hn⟩
  have hx : ∃ r n, (oracles P pol n).2 c m st = some r := ⟨r, n, hn⟩
  rw [dif_pos hx]
  obtain ⟨k, hk⟩ := hx.choose_spec
  have a := (oracles_le P pol (Nat.le_max_left n k)).2 _ _ _ _ hn
  have b := (oracles_le P pol (Nat.le_max_right n k)).2 _ _ _ _ hk
  rw [a] at b
  exact b.symm
theorem pcl_cont {f ds r} (h : pcl (acall P pol) f ds = some r) : ∃ n, pcl (oracles P pol n).1 f ds = some r := by
 unfold pcl at h
 cases hq : acall P pol f (ds.map .d) (fun _ => none) 0 with
 | none => rw [hq] at h; cases h
 | some q =>
  obtain ⟨n, hn⟩ := (acall_some P pol).1 hq
  rw [hq] at h
  exact ⟨n, by unfold pcl; rw [hn]; exact h⟩
theorem callA_cont {H nx f vs r} (h : callA pol (acall P pol) H nx f vs = some r) : ∃ n, callA pol (oracles P pol n).1 H nx f vs = some r := by
 unfold callA at h
 split at h
 ·rename_i ds is hd
  cases hq : pcl (acall P pol) f (wkIf (pol.weak f) ds) with
  | none => rw [hq] at h; cases h
  | some q =>
   obtain ⟨n, hn⟩ := pcl_cont P pol hq
   rw [hq] at h
   exact ⟨n, by unfold callA; rw [hd]; simp only [hn]; exact h⟩
 ·rename_i hd
  obtain ⟨n, hn⟩ := (acall_some P pol).1 h
  exact ⟨n, by unfold callA; rw [hd]; exact hn⟩
theorem stepOp_cont {id o st r} (h : stepOp P pol (acall P pol) id o st = some r) : ∃ n, stepOp P pol (oracles P pol n).1 id o st = some r := by
 unfold stepOp at h
 split at h
 ·rename_i f as hi
  cases hg : isFnD (ev st.tm f) with
  | none => rw [hg] at h; cases h
  | some g =>
   rw [hg] at h
   obtain ⟨g, cap⟩ := g
   simp only [Option.bind_eq_bind, Option.bind_some] at h
   cases hq : callA pol (acall P pol) st.hp st.nx (numF g) (joinF g (as.map (ev st.tm)) cap) with
   | none => rw [hq] at h; cases h
   | some q =>
    obtain ⟨n, hn⟩ := callA_cont P pol hq
    refine ⟨n, ?_⟩
    unfold stepOp
    rw [hi]
    simp only [hg, Option.bind_eq_bind, Option.bind_some, hn]
    rw [hq] at h
    exact h
 ·rename_i hi
  exact ⟨0, by unfold stepOp; rw [hi]; exact h⟩
theorem guarded_cont {o : AOp} {st : St} {k : Option St} {k' : Nat → Option St} {r : St} (hk : ∀ r, k = some r → ∃ n, k' n = some r) (h : guarded o st k = some r) : ∃ n, guarded o st (k' n) = some r := by
 unfold guarded at h ⊢
 split at h
 ·exact hk _ h
 ·split at h
  ·split at h
   ·rename_i hb; obtain ⟨n, hn⟩ := hk _ h; exact ⟨n, by rw [if_pos hb]; exact hn⟩
   ·rename_i hb; exact ⟨0, by rw [if_neg hb]; exact h⟩
  ·exact ⟨0, h⟩
  ·cases h
theorem stepG_cont {id o st r} (h : stepG P pol (acall P pol) id o st = some r) : ∃ n, stepG P pol (oracles P pol n).1 id o st = some r := guarded_cont (fun _ h => stepOp_cont P pol h) h
theorem callS_cont {H f vs r} (h : callS pol (acall P pol) H f vs = some r) : ∃ n, callS pol (oracles P pol n).1 H f vs = some r := by
 unfold callS at h
 split at h
 ·rename_i ds is hd
  cases hq : pcl (acall P pol) f (wkIf (pol.weak f) ds) with
  | none => rw [hq] at h; cases h
  | some q =>
   obtain ⟨n, hn⟩ := pcl_cont P pol hq
   rw [hq] at h
   exact ⟨n, by unfold callS; rw [hd]; simp only [hn]; exact h⟩
 ·cases h
theorem stepOpS_cont {id o st r} (h : stepOpS P pol (acall P pol) id o st = some r) : ∃ n, stepOpS P pol (oracles P pol n).1 id o st = some r := by
 unfold stepOpS at h
 split at h
 ·rename_i hs
  obtain ⟨n, hn⟩ := stepOp_cont P pol h
  exact ⟨n, by unfold stepOpS; rw [if_pos hs]; exact hn⟩
 rename_i hs
 split at h
 ·rename_i f as hi
  cases hg : isFnD (ev st.tm f) with
  | none => rw [hg] at h; cases h
  | some g =>
   rw [hg] at h
   obtain ⟨g, cap⟩ := g
   simp only [Option.bind_eq_bind, Option.bind_some] at h
   cases hq : callS pol (acall P pol) st.hp (numF g) (joinF g (as.map (ev st.tm)) cap) with
   | none => rw [hq] at h; cases h
   | some q =>
    obtain ⟨n, hn⟩ := callS_cont P pol hq
    refine ⟨n, ?_⟩
    unfold stepOpS
    rw [if_neg hs, hi]
    simp only [hg, Option.bind_eq_bind, Option.bind_some, hn]
    rw [hq] at h
    exact h
 ·rename_i hi
  exact ⟨0, by unfold stepOpS; rw [if_neg hs, hi]; exact h⟩
theorem runOpsS_cont (l : List AOp) : ∀ {id st r}, runOpsS P pol (acall P pol) id l st = some r → ∃ n, runOpsS P pol (oracles P pol n).1 id l st = some r := by
 induction l with
 | nil => intro id st r h; exact ⟨0, h⟩
 | cons o l ih =>
  intro id st r h
  simp only [runOpsS] at h
  cases hq : stepGS P pol (acall P pol) id o st with
  | none => rw [hq] at h; cases h
  | some q =>
   rw [hq] at h
   obtain ⟨n, hn⟩ := guarded_cont (k' := fun n => stepOpS P pol (oracles P pol n).1 id o st) (fun _ h => stepOpS_cont P pol h) hq
   obtain ⟨m, hm⟩ := ih h
   refine ⟨max n m, ?_⟩
   simp only [runOpsS]
   rw [show stepGS P pol (oracles P pol (max n m)).1 id o st = some q from guarded_mono (fun _ h => stepOpS_mono (oracles_le P pol (Nat.le_max_left n m)).1 h) hn]
   exact runOpsS_mono (oracles_le P pol (Nat.le_max_right n m)).1 _ hm
theorem runOpsL_cont (l : List AOp) : ∀ {id st lg r}, runOpsL P pol (acall P pol) id l st lg = some r → ∃ n, runOpsL P pol (oracles P pol n).1 id l st lg = some r := by
 induction l with
 | nil => intro id st lg r h; exact ⟨0, h⟩
 | cons o l ih =>
  intro id st lg r h
  simp only [runOpsL, Option.bind_eq_some_iff] at h
  obtain ⟨st1, h1, h2⟩ := h
  obtain ⟨n, hn⟩ := guarded_cont (fun _ h => stepOpS_cont P pol h) h1
  obtain ⟨k, hk⟩ := ih h2
  refine ⟨max n k, ?_⟩
  simp only [runOpsL, Option.bind_eq_some_iff]
  exact ⟨st1, guarded_mono (fun _ h => stepOpS_mono (oracles_le P pol (Nat.le_max_left n k)).1 h) hn, runOpsL_mono (oracles_le P pol (Nat.le_max_right n k)).1 _ hk⟩
theorem runOps_cont (l : List AOp) : ∀ {id st r}, runOps P pol (acall P pol) id l st = some r → ∃ n, runOps P pol (oracles P pol n).1 id l st = some r := by
 induction l with
 | nil => intro id st r h; exact ⟨0, h⟩
 | cons o l ih =>
  intro id st r h
  simp only [runOps] at h
  cases hq : stepG P pol (acall P pol) id o st with
  | none => rw [hq] at h; cases h
  | some q =>
   rw [hq] at h
   obtain ⟨n, hn⟩ := stepG_cont P pol hq
   obtain ⟨m, hm⟩ := ih h
   refine ⟨max n m, ?_⟩
   simp only [runOps]
   rw [stepG_mono (oracles_le P pol (Nat.le_max_left n m)).1 hn]
   exact runOps_mono (oracles_le P pol (Nat.le_max_right n m)).1 _ hm
theorem exec_cont (c : ACode) : ∀ {st r}, exec P pol (acall P pol) (aloop P pol) c st = some r → ∃ n, exec P pol (oracles P pol n).1 (oracles P pol n).2 c st = some r := by
 induction c with
 | region ops =>
  intro st r h
  simp only [exec, runRegion] at h
  cases hq : runOps P pol (acall P pol) st.nx ops ⟨st.tm, st.hp, st.nx + ops.length⟩ with
  | none => rw [hq] at h; cases h
  | some q =>
   rw [hq] at h
   obtain ⟨n, hn⟩ := runOps_cont P pol _ hq
   exact ⟨n, by simp only [exec, runRegion, hn]; exact h⟩
 | dregion ops =>
  intro st r h
  simp only [exec] at h
  cases hq : runOpsS P pol (acall P pol) st.nx ops ⟨st.tm, st.hp, st.nx + ops.length⟩ with
  | none => rw [hq] at h; cases h
  | some q =>
   rw [hq] at h
   obtain ⟨n, hn⟩ := runOpsS_cont P pol _ hq
   exact ⟨n, by simp only [exec, hn]; exact h⟩
 | tregion ops prs =>
  intro st r h
  simp only [exec] at h
  cases hq : runOpsL P pol (acall P pol) st.nx ops ⟨st.tm, st.hp, st.nx + ops.length⟩ [] with
  | none => rw [hq] at h; cases h
  | some q =>
   rw [hq] at h
   obtain ⟨n, hn⟩ := runOpsL_cont P pol _ hq
   exact ⟨n, by simp only [exec, hn]; exact h⟩
 | seq a b iha ihb =>
  intro st r h
  simp only [exec] at h
  cases hq : exec P pol (acall P pol) (aloop P pol) a st with
  | none => rw [hq] at h; cases h
  | some q =>
   rw [hq] at h
   obtain ⟨n, hn⟩ := iha hq
   obtain ⟨e, st'⟩ := q
   cases e with
   | normal =>
    obtain ⟨m, hm⟩ := ihb h
    refine ⟨max n m, ?_⟩
    simp only [exec]
    rw [exec_mono (oracles_le P pol (Nat.le_max_left n m)).1 (oracles_le P pol (Nat.le_max_left n m)).2 _ hn]
    exact exec_mono (oracles_le P pol (Nat.le_max_right n m)).1 (oracles_le P pol (Nat.le_max_right n m)).2 _ hm
   | exit j => exact ⟨n, by simp only [exec, hn]; exact h⟩
   | ret => exact ⟨n, by simp only [exec, hn]; exact h⟩
 | cond x a b iha ihb =>
  intro st r h
  simp only [exec] at h
  split at h
  ·rename_i t hx
   split at h
   ·rename_i hb
    obtain ⟨n, hn⟩ := iha h
    exact ⟨n, by simp only [exec, hx, if_pos hb]; exact hn⟩
   ·rename_i hb
    obtain ⟨n, hn⟩ := ihb h
    exact ⟨n, by simp only [exec, hx, if_neg hb]; exact hn⟩
  ·cases h
 | block id c ih =>
  intro st r h
  simp only [exec] at h
  cases hq : exec P pol (acall P pol) (aloop P pol) c st with
  | none => rw [hq] at h; cases h
  | some q =>
   obtain ⟨n, hn⟩ := ih hq
   rw [hq] at h
   exact ⟨n, by simp only [exec, hn]; exact h⟩
 | loop ks keep c ih =>
  intro st r h
  exact (aloop_some P pol).1 h
 | skip => intro st r h; exact ⟨0, h⟩
 | exit id => intro st r h; exact ⟨0, h⟩
 | ret => intro st r h; exact ⟨0, h⟩
 | hole c => intro st r h; exact ⟨0, h⟩
 | rfun g ps a b iha ihb =>
  intro st r h
  simp only [exec] at h
  cases hg : isFnD (ev st.tm g) with
  | none => rw [hg] at h; cases h
  | some q =>
   rw [hg] at h
   obtain ⟨f, cap⟩ := q
   simp only [Option.bind_some] at h
   split at h
   ·cases h
   ·rename_i hf
    cases hq : acall P pol f ([.yld (st.nx, 0)] ++ cap) (upd st.hp (st.nx, 0) (.rc ps a b st.tm .ready)) (st.nx + 1) with
    | none => rw [hq] at h; cases h
    | some q =>
     obtain ⟨n, hn⟩ := (acall_some P pol).1 hq
     refine ⟨n, ?_⟩
     simp only [exec, hg, Option.bind_some]
     rw [if_neg hf, hn]
     rw [hq] at h
     exact h
theorem roundF_cont {vs H nx r} (h : roundF P pol (acall P pol) (aloop P pol) vs H nx = some r) : ∃ n, roundF P pol (oracles P pol n).1 (oracles P pol n).2 vs H nx = some r := by
 unfold roundF at h
 split at h
 ·rename_i o ho
  split at h
  ·rename_i ps as body tm hH
   split at h
   ·rename_i hlen
    cases hq : exec P pol (acall P pol) (aloop P pol) as ⟨setPs ps vs tm, H, nx⟩ with
    | none => rw [hq] at h; cases h
    | some q =>
     rw [hq] at h
     obtain ⟨e, s1⟩ := q
     obtain ⟨n, hn⟩ := exec_cont P pol _ hq
     cases e with
     | normal =>
      simp only [Option.bind_some] at h
      split at h
      ·rename_i ps1 as1 body1 tm1 hH1
       cases hq2 : exec P pol (acall P pol) (aloop P pol) body ⟨s1.tm, upd s1.hp o (.rc ps1 as1 body1 tm1 .busy), s1.nx⟩ with
       | none => rw [hq2] at h; cases h
       | some q2 =>
        obtain ⟨k, hk⟩ := exec_cont P pol _ hq2
        refine ⟨max n k, ?_⟩
        have e1 := exec_mono (oracles_le P pol (Nat.le_max_left n k)).1 (oracles_le P pol (Nat.le_max_left n k)).2 _ hn
        have e2 := exec_mono (oracles_le P pol (Nat.le_max_right n k)).1 (oracles_le P pol (Nat.le_max_right n k)).2 _ hk
        unfold roundF
        rw [hq2] at h
        simp only [ho, hH]
        rw [if_pos hlen]
        simp only [e1, Option.bind_some, hH1, e2]
        exact h
      ·cases h
     | exit j => cases h
     | ret => cases h
   ·cases h
  ·cases h
 ·cases h
theorem acall_of {f vs H nx r} (h : callF P pol (acall P pol) (aloop P pol) f vs H nx = some r) : acall P pol f vs H nx = some r := by
 rw [acall_some]
 simp only [callF] at h
 split at h
 ·rename_i hf
  obtain ⟨n, hn⟩ := roundF_cont P pol h
  exact ⟨n + 1, by simp only [oracles, callF]; rw [if_pos hf]; exact hn⟩
 rename_i hf
 cases h0 : pol.ext f with
 | some g => rw [h0] at h; exact ⟨1, by simp only [oracles, callF, h0]; rw [if_neg hf]; exact h⟩
 | none =>
 rw [h0] at h
 simp only at h
 cases h1 : bodyOf P f with
 | none => rw [h1] at h; cases h
 | some q =>
  obtain ⟨c, n, rs⟩ := q
  rw [h1] at h
  simp only [Option.bind_some] at h
  cases h3 : exec P pol (acall P pol) (aloop P pol) c ⟨vs ++ List.replicate (n - vs.length) .junk, H, nx⟩ with
  | none => rw [h3] at h; cases h
  | some q =>
   obtain ⟨n, hn⟩ := exec_cont P pol _ h3
   refine ⟨n + 1, ?_⟩
   simp only [oracles, callF, h0, h1, Option.bind_some, hn]
   rw [if_neg hf]
   rw [h3] at h
   exact h
theorem aloop_of {c m st r} (h : loopF P pol (acall P pol) (aloop P pol) c m st = some r) : aloop P pol c m st = some r := by
 rw [aloop_some]
 simp only [loopF] at h
 cases h3 : exec P pol (acall P pol) (aloop P pol) c st with
 | none => rw [h3] at h; cases h
 | some q =>
  obtain ⟨n, hn⟩ := exec_cont P pol _ h3
  rw [h3] at h
  obtain ⟨e, st'⟩ := q
  cases e with
  | normal =>
   simp only [Option.bind_some] at h
   obtain ⟨k, hk⟩ := (aloop_some P pol).1 h
   refine ⟨max n k + 1, ?_⟩
   simp only [oracles, loopF]
   rw [exec_mono (oracles_le P pol (Nat.le_max_left n k)).1 (oracles_le P pol (Nat.le_max_left n k)).2 _ hn]
   simp only [Option.bind_some]
   exact (oracles_le P pol (Nat.le_max_right n k)).2 _ _ _ _ hk
  | exit j => exact ⟨n + 1, by simp only [oracles, loopF, hn]; exact h⟩
  | ret => exact ⟨n + 1, by simp only [oracles, loopF, hn]; exact h⟩
theorem pcl_of {f ds r} (h : pcl (callF P pol (acall P pol) (aloop P pol)) f ds = some r) : pcl (acall P pol) f ds = some r := by
 unfold pcl at h ⊢
 cases hq : callF P pol (acall P pol) (aloop P pol) f (ds.map .d) (fun _ => none) 0 with
 | none => rw [hq] at h; cases h
 | some q => rw [hq] at h; rw [acall_of P pol hq]; exact h
end
end Go.Proofs.Ytiafeijkifpfaaa.Am

