/- The evaluator E: the model's own code, computed over values by value and a little heap of its own. Definitions alone. -/
import Derived.WalkKit

section
namespace Go.Ev
open Go

/-- What is known of a slice's room: nothing; it is full; the heap's object that tells how much of its block is taken. -/
inductive Cap where
  | no
  | tight
  | tok (o : Nat)
  deriving Inhabited, DecidableEq

/-- Values: 'fz': a slice, by its elements' cells, which stay as they are; 'fp': a pointer to cells that stay; 'fm': a map that stays; 'sl': a slice into object o (from cell i, n elements of z cells each, the capacity where it is known). -/
inductive EV where
  | int (k : IntKind) (n : Int)
  | bool (b : Bool)
  | str (s : List UInt8)
  | nilp
  | nilf
  | nilm
  | ptr (o i : Nat)
  | fp (cs : List EV)
  | fz (es : List (List EV)) (k : Cap)
  | fm (es : List (EV × EV))
  | sl (o i n z : Nat) (cap : Option Nat)
  | map (o : Nat)
  | fn (f : Nat) (first caps : List EV)
  | agg (cs : List EV)
  | tup (vs : List EV)
  | undef
  deriving Inhabited

/-- 'tip': so many cells of a block are taken. -/
inductive EO where
  | cells (cs : List EV)
  | map (es : List (EV × EV))
  | tip (m : Nat)
  | dead
  deriving Inhabited

abbrev Heap := List EO
abbrev Env := List EV
abbrev Look := Nat → Option EV
def look (env : Env) : Look := fun t => env[t]?

/-- What is known of a type. -/
structure FI where
  off : Nat
  sz : Nat
  ag : Bool
  t : Nat
inductive UT where
  | int (k : IntKind)
  | bool
  | string
  | struct (fs : List FI)
  | array (n e : Nat)
  | slice (e : Nat)
  | map (k e : Nat)
  | pointer
  | func
structure TI where
  ut : UT
  sz : Nat
  bytes : Nat
  ag : Bool
  zero : List EV
  eq : Bool
abbrev TT := Nat → Option TI

def ofC : Value → Option EV
  | .int k n => some (.int k n)
  | .bool b => some (.bool b)
  | .string s => some (.str s.data.toList)
  | .pointer none => some .nilp
  | .slice none 0 0 => some (.fz [] .tight)
  | .map none => some .nilm
  | .nilFunc => some .nilf
  | _ => none

def cellsOf : EV → List EV
  | .agg cs => cs
  | v => [v]

/-- May it lie in one cell? -/
def EV.one : EV → Bool
  | .agg _ | .tup _ | .undef => false
  | _ => true

def evO (G : Nat → Option EV) (env : Look) : Operand → Option EV
  | .tmp t => env t
  | .const v => ofC v
  | .global g => G g
  | .func f => some (.fn f [] [])

def evL (G : Nat → Option EV) (env : Look) : List Operand → Option (List EV)
  | [] => some []
  | x :: r => match evO G env x, evL G env r with
    | some v, some vs => some (v :: vs)
    | _, _ => none

def cut (cs : List EV) (i n : Nat) : List EV := (cs.drop i).take n
def splice (cs : List EV) (i : Nat) (vs : List EV) : List EV := cs.take i ++ vs ++ cs.drop (i + vs.length)

/-- Have all rows that width (looked at: the first)? -/
def rowsOk (z : Nat) (es : List (List EV)) : Bool := es.head?.all fun e => e.length == z
def chunk (z : Nat) : Nat → List EV → List (List EV)
  | 0, _ => []
  | n + 1, cs => cs.take z :: chunk z n (cs.drop z)

/-- A value that leads to nothing that may be written, as an element. -/
def still : EV → Option EV
  | .int k n => some (.int k n)
  | .bool b => some (.bool b)
  | .str b => some (.str b)
  | .nilp => some .nilp
  | .nilf => some .nilf
  | .nilm => some .nilm
  | .fz es _ => some (.fz es .no)
  | .fp cs => some (.fp cs)
  | .fm es => some (.fm es)
  | .fn f [] [] => some (.fn f [] [])
  | _ => none
def mapO {α γ : Type} (f : α → Option γ) : List α → Option (List γ)
  | [] => some []
  | x :: r => match f x, mapO f r with
    | some y, some ys => some (y :: ys)
    | _, _ => none

def ldCells (H : Heap) : EV → Nat → Option (List EV)
  | .ptr o i, n => match H[o]? with
    | some (.cells cs) => if i + n ≤ cs.length then some (cut cs i n) else none
    | _ => none
  | .fp cs, n => if n ≤ cs.length then some (cs.take n) else none
  | _, _ => none

/-- A part of a struct's value, as the model takes it. -/
def partE (ag : Bool) (sz : Nat) (cs : List EV) (off : Nat) : Option EV :=
  if off + sz ≤ cs.length then
    if ag then some (.agg (cut cs off sz)) else match cut cs off sz with
      | [c] => some c
      | _ => none
  else none

def loadE (T : TT) (H : Heap) (t : Nat) (p : EV) : Option EV :=
  match T t with
  | some ti => match ldCells H p ti.sz with
    | some cs => if ti.ag then some (.agg cs) else match cs with
      | [c] => some c
      | _ => none
    | none => none
  | none => none

def storeE (T : TT) (H : Heap) (t : Nat) (p v : EV) : Option (Heap × List Nat) :=
  match T t, p with
  | some ti, .ptr o i => match H[o]? with
    | some (.cells cs) =>
      if (cellsOf v).length = ti.sz ∧ i + ti.sz ≤ cs.length ∧ (cellsOf v).all EV.one = true then some (H.set o (.cells (splice cs i (cellsOf v))), [o]) else none
    | _ => none
  | _, _ => none

/-- Parts into zero cells: each with its place and size. -/
def fillE : List (Nat × Nat × EV) → List EV → Option (List EV)
  | [], cs => some cs
  | (off, sz, v) :: r, cs =>
    if (cellsOf v).length = sz ∧ off + sz ≤ cs.length then fillE r (splice cs off (cellsOf v)) else none

def placesE (place : Nat → Option (Nat × Nat)) : List (Nat × EV) → Option (List (Nat × Nat × EV))
  | [] => some []
  | (i, v) :: r => match place i, placesE place r with
    | some (off, sz), some ps => some ((off, sz, v) :: ps)
    | _, _ => none

def partsE (G : Nat → Option EV) (env : Look) : List (Nat × Operand) → Option (List (Nat × EV))
  | [] => some []
  | (i, x) :: r => match evO G env x, partsE G env r with
    | some v, some vs => some ((i, v) :: vs)
    | _, _ => none

def rep (n : Nat) (cs : List EV) : List EV := match n with
  | 0 => []
  | n + 1 => cs ++ rep n cs

def fieldAddrE (T : TT) (s : Nat) (p : EV) (f : Nat) : Option EV :=
  match T s with
  | some { ut := .struct fs, .. } => match fs[f]? with
    | some fi => if fi.sz = 0 then none else match p with
      | .ptr o i => some (.ptr o (i + fi.off))
      | .fp cs => if fi.off ≤ cs.length then some (.fp (cs.drop fi.off)) else none
      | _ => none
    | none => none
  | _ => none

def fieldE (T : TT) (s : Nat) (x : EV) (f : Nat) : Option EV :=
  match T s, x with
  | some { ut := .struct fs, .. }, .agg cs => match fs[f]? with
    | some fi => partE fi.ag fi.sz cs fi.off
    | none => none
  | _, _ => none

def indexAddrE (T : TT) (t : Nat) (x ix : EV) : Option EV :=
  match T t, ix with
  | some ti, .int _ i => match ti.ut, x with
    | .slice e, .fz es _ => match T e with
      | some te => if 0 ≤ i then match es[i.toNat]? with
        | some row => if row.length = te.sz then some (.fp row) else none
        | none => none
        else none
      | none => none
    | .slice e, .sl o j n z _ => match T e with
      | some te => if 0 ≤ i ∧ i < (n : Int) ∧ z = te.sz then some (.ptr o (j + i.toNat * z)) else none
      | none => none
    | .array n e, .ptr o j => match T e with
      | some te => if 0 ≤ i ∧ i < (n : Int) then some (.ptr o (j + i.toNat * te.sz)) else none
      | none => none
    | .array n e, .fp cs => match T e with
      | some te => if 0 ≤ i ∧ i < (n : Int) ∧ i.toNat * te.sz ≤ cs.length then some (.fp (cs.drop (i.toNat * te.sz))) else none
      | none => none
    | _, _ => none
  | _, _ => none

def indexE (T : TT) (t : Nat) (x ix : EV) : Option EV :=
  match T t, ix with
  | some ti, .int _ i => match ti.ut, x with
    | .string, .str s => if 0 ≤ i then match s[i.toNat]? with
      | some b => some (.int .u8 b.toNat)
      | none => none
      else none
    | .array n e, .agg cs => match T e with
      | some te => if 0 ≤ i ∧ i < (n : Int) then partE te.ag te.sz cs (i.toNat * te.sz) else none
      | none => none
    | _, _ => none
  | _, _ => none

/-- A bound of a slice expression: at most y. -/
def boundE (y : Nat) : EV → Option Nat
  | .int _ i => if 0 ≤ i ∧ i ≤ (y : Int) then some i.toNat else none
  | _ => none

def hiE (n : Nat) : Option EV → Option Nat
  | some h => boundE n h
  | none => some n
def loE (h : Nat) : Option EV → Option Nat
  | some l => boundE h l
  | none => some 0

def sliceE (T : TT) (t : Nat) (x : EV) (lo hi mx : Option EV) : Option EV :=
  match T t with
  | some { ut := .string, .. } => match x, mx with
    | .str s, none => match hiE s.length hi with
      | some h => match loE h lo with
        | some l => some (.str ((s.drop l).take (h - l)))
        | none => none
      | none => none
    | _, _ => none
  | some { ut := .slice e, .. } => match T e with
    | some te => match x with
      | .fz es k =>
        if rowsOk te.sz es = true then
        match mx, hi with
        | none, hi => match hiE es.length hi with
          | some h => match loE h lo with
            | some l => some (.fz ((es.drop l).take (h - l)) (if h = es.length then (if l = 0 then k else if k = .tight then .tight else .no) else .no))
            | none => none
          | none => none
        | some m, some h => match boundE es.length m with
          | some m => match boundE m h with
            | some h => match loE h lo with
              | some l => some (.fz ((es.drop l).take (h - l)) (if m = h then .tight else .no))
              | none => none
            | none => none
          | none => none
        | _, _ => none
        else none
      | .sl o i n z cap =>
        if z = te.sz then
          match mx, hi with
          | none, hi => match hiE n hi with
            | some h => match loE h lo with
              | some l => if l < h then some (.sl o (i + l * z) (h - l) z (match cap with | some c => some (c - l) | none => none)) else if l = 0 then some (.sl o i 0 z cap) else some (.fz [] .no)
              | none => none
            | none => none
          | some m, some h => match boundE n m with
            | some m => match boundE m h with
              | some h => match loE h lo with
                | some l => if l < h then some (.sl o (i + l * z) (h - l) z (some (m - l))) else some (.fz [] (if m = l then .tight else .no))
                | none => none
              | none => none
            | none => none
          | _, _ => none
        else none
      | _ => none
    | none => none
  | _ => none

def lenE (T : TT) (H : Heap) (t : Nat) (x : EV) : Option Int :=
  match T t with
  | some { ut := .string, .. } => match x with
    | .str s => some (s.length : Int)
    | _ => none
  | some { ut := .slice _, .. } => match x with
    | .fz es _ => some (es.length : Int)
    | .sl _ _ n _ _ => some (n : Int)
    | _ => none
  | some { ut := .array n _, .. } => some (n : Int)
  | some { ut := .map _ _, .. } => match x with
    | .nilm => some 0
    | .fm es => some (es.length : Int)
    | .map o => match H[o]? with
      | some (.map es) => some (es.length : Int)
      | _ => none
    | _ => none
  | _ => none

/-- '==' of two values of one cell, at a type. -/
def eqS (T : TT) (t : Nat) (x y : EV) : Option Bool :=
  match T t with
  | some ti => match ti.ut, x, y with
    | .int _, .int k a, .int k' b => if k = k' then some (a == b) else none
    | .bool, .bool a, .bool b => some (a == b)
    | .string, .str a, .str b => some (a == b)
    | _, _, _ => none
  | none => none
def eqL (T : TT) : List Nat → List EV → List EV → Option Bool
  | [], [], [] => some true
  | t :: ts, x :: xs, y :: ys => match eqS T t x y with
    | some true => eqL T ts xs ys
    | some false => some false
    | none => none
  | _, _, _ => none

/-- '==' at a type. -/
def eqE (T : TT) (t : Nat) (x y : EV) : Option Bool :=
  match T t with
  | some ti => match ti.ut, x, y with
    | .int _, .int k a, .int k' b => if k = k' then some (a == b) else none
    | .bool, .bool a, .bool b => some (a == b)
    | .string, .str a, .str b => some (a == b)
    | .struct fs, .agg xs, .agg ys => if ti.eq = true ∧ ys.length = xs.length then eqL T (fs.map (·.t)) xs ys else none
    | .array n e, .agg xs, .agg ys => if ti.eq = true ∧ ys.length = xs.length then eqL T (List.replicate n e) xs ys else none
    | .pointer, .ptr _ _, .nilp | .pointer, .fp _, .nilp | .pointer, .nilp, .ptr _ _ | .pointer, .nilp, .fp _ => some false
    | .pointer, .nilp, .nilp => some true
    | .func, .fn _ _ _, .nilf | .func, .nilf, .fn _ _ _ => some false
    | .func, .nilf, .nilf => some true
    | _, _, _ => none
  | none => none

def strLess : List UInt8 → List UInt8 → Bool := Op.bytesLess

def binE (T : TT) (op : BinOp) (t : Nat) (x y : EV) : Option EV :=
  match x, y with
  | .int k a, .int k' b =>
    match op with
    | .shl => if 0 ≤ b then some (.int k (k.wrap (a * 2 ^ min b.toNat k.bits))) else none
    | .shr => if 0 ≤ b then some (.int k (a.fdiv (2 ^ min b.toNat k.bits))) else none
    | _ => if k = k' then match op with
      | .add => some (.int k (k.wrap (a + b)))
      | .sub => some (.int k (k.wrap (a - b)))
      | .mul => some (.int k (k.wrap (a * b)))
      | .quo => if b = 0 then none else some (.int k (k.wrap (a.tdiv b)))
      | .rem => if b = 0 then none else some (.int k (a.tmod b))
      | .and => some (.int k (k.wrap (BitVec.ofInt k.bits a &&& BitVec.ofInt k.bits b).toNat))
      | .or => some (.int k (k.wrap (BitVec.ofInt k.bits a ||| BitVec.ofInt k.bits b).toNat))
      | .xor => some (.int k (k.wrap (BitVec.ofInt k.bits a ^^^ BitVec.ofInt k.bits b).toNat))
      | .andNot => some (.int k (k.wrap (BitVec.ofInt k.bits a &&& ~~~BitVec.ofInt k.bits b).toNat))
      | .eql => some (.bool (a == b))
      | .neq => some (.bool (a != b))
      | .lss => some (.bool (decide (a < b)))
      | .leq => some (.bool (decide (a ≤ b)))
      | .gtr => some (.bool (decide (a > b)))
      | .geq => some (.bool (decide (a ≥ b)))
      | _ => none
      else none
  | .str a, .str b =>
    match op with
    | .add => if a.length + b.length ≤ 9223372036854775807 then some (.str (a ++ b)) else none
    | .eql => some (.bool (a == b))
    | .neq => some (.bool (!(a == b)))
    | .lss => some (.bool (Op.bytesLess a b))
    | .leq => some (.bool (Op.bytesLess a b || a == b))
    | .gtr => some (.bool (!(Op.bytesLess a b || a == b)))
    | .geq => some (.bool (!Op.bytesLess a b))
    | _ => none
  | x, y =>
    match op with
    | .eql => match eqE T t x y with
      | some b => some (.bool b)
      | none => none
    | .neq => match eqE T t x y with
      | some b => some (.bool (!b))
      | none => none
    | _ => none

def unE (op : UnOp) (x : EV) : Option EV :=
  match op, x with
  | .neg, .int k n => some (.int k (k.wrap (0 - n)))
  | .xor, .int k n => some (.int k (k.wrap (BitVec.ofInt k.bits (if k.signed then -1 else k.max) ^^^ BitVec.ofInt k.bits n).toNat))
  | .not, .bool b => some (.bool !b)
  | _, _ => none

def bytesE : List EV → Option (List UInt8)
  | [] => some []
  | .int .u8 n :: r => match bytesE r with
    | some l => some (UInt8.ofNat n.toNat :: l)
    | none => none
  | _ => none

/-- The elements of a slice. -/
def sliceRows (H : Heap) (z : Nat) : EV → Option (List (List EV))
  | .fz es _ => if rowsOk z es = true then some es else none
  | .sl o i n z' _ => if z = z' then match H[o]? with
    | some (.cells cs) => if i + n * z ≤ cs.length then some (chunk z n (cs.drop i)) else none
    | _ => none
    else none
  | _ => none

def convE (T : TT) (H : Heap) (src dst : Nat) (x : EV) : Option EV :=
  match T src, T dst with
  | some ts, some td => match ts.ut, td.ut, x with
    | _, .int k, .int _ n => some (.int k (k.wrap n))
    | _, .string, .str s => some (.str s)
    | .slice e, .string, x => match T e with
      | some { ut := .int .u8, sz := 1, .. } => match sliceRows H 1 x with
        | some es => match bytesE es.flatten with
          | some l => some (.str l)
          | none => none
        | none => none
      | _ => none
    | _, _, _ => none
  | _, _ => none

/-- []byte(s): a new object. -/
def convNew (T : TT) (H : Heap) (src dst : Nat) (x : EV) : Option (EV × Heap) :=
  match T src, T dst with
  | some ts, some td => match ts.ut, td.ut, x with
    | .string, .slice e, .str s => match T e with
      | some { ut := .int .u8, .. } => some (.fz (s.map fun b => [.int .u8 b.toNat]) (if s = [] then .no else .tok H.length), H ++ [.tip s.length])
      | _ => none
    | _, _, _ => none
  | _, _ => none

def findE (T : TT) (kt : Nat) (k : EV) : List (EV × EV) → Nat → Option (Option (Nat × EV))
  | [], _ => some none
  | e :: es, i => match eqE T kt k e.1 with
    | some true => some (some (i, e.2))
    | some false => findE T kt k es (i + 1)
    | none => none

def zeroE (ti : TI) : Option EV := if ti.ag then some (.agg ti.zero) else match ti.zero with
  | [c] => some c
  | _ => none

def keyOk (T : TT) (kt : Nat) (k : EV) : Bool :=
  match T kt with
  | some ti => match ti.ut, k with
    | .int _, .int _ _ => true
    | .bool, .bool _ => true
    | .string, .str _ => true
    | .struct _, .agg cs => ti.eq && cs.length == ti.sz
    | .array _ _, .agg cs => ti.eq && cs.length == ti.sz
    | _, _ => false
  | none => false

def entriesE (H : Heap) : EV → Option (List (EV × EV))
  | .nilm => some []
  | .fm es => some es
  | .map o => match H[o]? with
    | some (.map es) => some es
    | _ => none
  | _ => none

def lookupE (T : TT) (H : Heap) (t : Nat) (m k : EV) (ok : Bool) : Option EV :=
  match T t with
  | some { ut := .map kt et, .. } => match T et with
    | some te => if keyOk T kt k then
        match entriesE H m with
        | some es => match findE T kt k es 0, zeroE te with
          | some (some (_, v)), some _ => some (if ok then .tup [v, .bool true] else v)
          | some none, some z => some (if ok then .tup [z, .bool false] else z)
          | _, _ => none
        | none => none
      else none
    | none => none
  | _ => none

def updateE (T : TT) (H : Heap) (t : Nat) (m k v : EV) : Option (Heap × List Nat) :=
  match T t, m with
  | some { ut := .map kt _, .. }, .map o => match H[o]? with
    | some (.map es) => if keyOk T kt k then match findE T kt k es 0 with
        | some (some (i, _)) => some (H.set o (.map (es.set i (k, v))), [o])
        | some none => some (H.set o (.map (es ++ [(k, v)])), [o])
        | none => none
      else none
    | _ => none
  | _, _ => none

/-- What is added. -/
def newsE (H : Heap) (z : Nat) (tx : TI) (x : EV) : Option (List (List EV)) :=
  match tx.ut with
  | .string => match x with
    | .str b => if z = 1 then some (b.map fun c => [.int .u8 c.toNat]) else none
    | _ => none
  | .slice _ => sliceRows H z x
  | _ => none
def roomy (te : TI) (n : Nat) : Bool := n * (te.bytes + 1) ≤ 35184372088832

/-- append of more than nothing: the new slice, the heap, what was written. vm: as values. -/
def growE (vm : Bool) (H : Heap) (te : TI) (xs : List (List EV)) : EV → Option (EV × Heap × List Nat)
  | .fz es .tight => if rowsOk te.sz es = true ∧ roomy te (es.length + xs.length) = true then
      if vm then match mapO (mapO still) xs with
        | some ys => some (.fz (es ++ ys) (.tok H.length), H ++ [.tip ((es.length + xs.length) * te.sz)], [])
        | none => none
      else some (.sl H.length 0 (es.length + xs.length) te.sz none, H ++ [.cells (es.flatten ++ xs.flatten)], [])
      else none
  | .fz es (.tok o) => if rowsOk te.sz es = true ∧ roomy te (es.length + xs.length) = true then match H[o]? with
      | some (.tip m) => if m = es.length * te.sz then match mapO (mapO still) xs with
        | some ys => some (.fz (es ++ ys) (.tok H.length), H.set o .dead ++ [.tip ((es.length + xs.length) * te.sz)], [o])
        | none => none
        else none
      | _ => none
      else none
  | .sl o i n z (some c) => if z = te.sz then match H[o]? with
      | some (.cells cs) =>
        if n + xs.length ≤ c then
          if i + (n + xs.length) * z ≤ cs.length then some (.sl o i (n + xs.length) z (some c), H.set o (.cells (splice cs (i + n * z) xs.flatten)), [o]) else none
        else if i + n * z ≤ cs.length ∧ roomy te (n + xs.length) = true then some (.sl H.length 0 (n + xs.length) z none, H ++ [.cells (cut cs i (n * z) ++ xs.flatten)], []) else none
      | _ => none
      else none
  | .sl o i n z none => if z = te.sz then match H[o]? with
      | some (.cells cs) =>
        if i + n * z ≤ cs.length ∧ roomy te (n + xs.length) = true then some (.sl H.length 0 (n + xs.length) z none, H.set o .dead ++ [.cells (cut cs i (n * z) ++ xs.flatten)], [o]) else none
      | _ => none
      else none
  | _ => none

/-- append: the new slice, the heap, what was written. -/
def appendE (T : TT) (vm : Bool) (H : Heap) (st xt : Nat) (s x : EV) : Option (EV × Heap × List Nat) :=
  match T st, T xt with
  | some { ut := .slice e, .. }, some tx => match T e with
    | some te => match newsE H te.sz tx x with
      | some [] => match s with
        | .fz a b => some (.fz a b, H, [])
        | .sl a b c d e => some (.sl a b c d e, H, [])
        | _ => none
      | some xs => if xs.flatten.all EV.one = true then growE vm H te xs s else none
      | none => none
    | none => none
  | _, _ => none

def makeSliceE (T : TT) (H : Heap) (t : Nat) (l c : EV) : Option (EV × Heap) :=
  match T t, l, c with
  | some { ut := .slice e, .. }, .int .i64 l, .int .i64 c => match T e with
    | some te => if 0 ≤ l ∧ l ≤ c ∧ (c.toNat * te.bytes : Nat) ≤ 140737488355328 ∧ c ≤ 140737488355328 then some (.sl H.length 0 l.toNat te.sz (some c.toNat), H ++ [.cells (rep c.toNat te.zero)]) else none
    | none => none
  | _, _, _ => none

end Go.Ev
end

/- The evaluator E, second part: operations, regions, code, calls. Definitions alone. -/
section
namespace Go.Ev
open Go

structure EP where
  T : TT
  G : Nat → Option EV
  F : Nat → Option Func
  I : Nat → List EV → Heap → Option (EV × Heap × List Nat)
  pol : Nat → Nat
  vm : Bool
  vms : Nat → Bool
  fuel : Nat

abbrev Res := Option (EV × Heap × List Nat)
abbrev CallF := Nat → List EV → Heap → Res

def pureR (H : Heap) : Option EV → Res
  | some v => some (v, H, [])
  | none => none
def unitR : Option (Heap × List Nat) → Res
  | some (H, W) => some (.undef, H, W)
  | none => none
def newR : Option (EV × Heap) → Res
  | some (v, H) => some (v, H, [])
  | none => none

/-- An operand that may be there. -/
def evOpt (G : Nat → Option EV) (env : Look) : Option Operand → Option (Option EV)
  | none => some none
  | some x => match evO G env x with
    | some v => some (some v)
    | none => none

def extremeE (big : Bool) : EV → List EV → Option EV
  | x, [] => some x
  | .int k a, .int _ b :: r => extremeE big (.int k (if big then (if b > a then b else a) else (if b < a then b else a))) r
  | _, _ => none

def builtinE (T : TT) (vm : Bool) (H : Heap) (b : Builtin) (ts : Array TypeId) (vs : List EV) : Res :=
  match b, vs with
  | .len, [x] => match ts[0]? with
    | some t => match lenE T H t x with
      | some n => some (.int .i64 n, H, [])
      | none => none
    | none => none
  | .append, [s, x] => match ts[0]?, ts[1]? with
    | some st, some xt => appendE T vm H st xt s x
    | _, _ => none
  | .min, x :: r => pureR H (extremeE false x r)
  | .max, x :: r => pureR H (extremeE true x r)
  | _, _ => none

def buildE (T : TT) (t : Nat) (ps : List (Nat × EV)) : Option EV :=
  match T t with
  | some { ut := .struct fs, zero := z, .. } => match placesE (fun i => match fs[i]? with | some fi => some (fi.off, fi.sz) | none => none) ps with
    | some qs => match fillE qs z with
      | some cs => some (.agg cs)
      | none => none
    | none => none
  | some { ut := .array _ e, zero := z, .. } => match T e with
    | some te => match placesE (fun i => some (i * te.sz, te.sz)) ps with
      | some qs => match fillE qs z with
        | some cs => some (.agg cs)
        | none => none
      | none => none
    | none => none
  | _ => none

def buildSliceE (T : TT) (vm : Bool) (H : Heap) (t n : Nat) (ps : List (Nat × EV)) : Option (EV × Heap) :=
  match T t with
  | some { ut := .slice e, .. } => match T e with
    | some te => if n * te.sz ≤ 16777216 then match placesE (fun i => some (i * te.sz, te.sz)) ps with
        | some qs => match fillE qs (rep n te.zero) with
          | some cs => if vm then match mapO still cs with
              | some cs' => some (.fz (chunk te.sz n cs') .tight, H)
              | none => none
            else if cs.all EV.one = true then some (.sl H.length 0 n te.sz (some n), H ++ [.cells cs]) else none
          | none => none
        | none => none
      else none
    | none => none
  | _ => none

/-- Is a slice asked whether it is nil? What 'no' is. -/
def nilC (op : BinOp) (y : Operand) : Option Bool := match op, y with
  | .eql, .const (.slice none 0 0) => some false
  | .neq, .const (.slice none 0 0) => some true
  | _, _ => none
def nilE (T : TT) (t : Nat) (r : Bool) (a : EV) : Option EV := match T t with
  | some { ut := .slice _, .. } => match a with
    | .fz (_ :: _) _ => some (.bool r)
    | .sl _ _ _ _ _ => some (.bool r)
    | _ => none
  | _ => none

/-- An operation that is no call of a function. -/
def opE (E : EP) (env : Look) (H : Heap) (op : Op) : Res :=
  match op with
  | .move x | .assign x => pureR H (evO E.G env x)
  | .pick c a b => match evO E.G env c with
    | some (.bool true) => pureR H (evO E.G env a)
    | some (.bool false) => pureR H (evO E.G env b)
    | _ => none
  | .alloc e => match E.T e with
    | some te => if te.zero.all EV.one = true then some (.ptr H.length 0, H ++ [.cells te.zero], []) else none
    | none => none
  | .box _ x => match evO E.G env x with
    | some v => if (cellsOf v).all EV.one = true then some (.ptr H.length 0, H ++ [.cells (cellsOf v)], []) else none
    | none => none
  | .build t ps => match partsE E.G env ps.toList with
    | some qs => pureR H (buildE E.T t qs)
    | none => none
  | .buildSlice t n ps => match partsE E.G env ps.toList with
    | some qs => newR (buildSliceE E.T E.vm H t n qs)
    | none => none
  | .load t a => match evO E.G env a with
    | some p => pureR H (loadE E.T H t p)
    | none => none
  | .store t a x => match evO E.G env a, evO E.G env x with
    | some p, some v => unitR (storeE E.T H t p v)
    | _, _ => none
  | .nilCheck x => match evO E.G env x with
    | some (.ptr o i) => some (.ptr o i, H, [])
    | some (.fp cs) => some (.fp cs, H, [])
    | some (.fn f a b) => some (.fn f a b, H, [])
    | _ => none
  | .binOp op t x y _ => match evO E.G env x, evO E.G env y with
    | some a, some b => pureR H (match nilC op y with | some r => nilE E.T t r a | none => binE E.T op t a b)
    | _, _ => none
  | .unOp op _ x => match evO E.G env x with
    | some a => pureR H (unE op a)
    | none => none
  | .convert s d x => match evO E.G env x with
    | some v => match convE E.T H s d v with
      | some r => some (r, H, [])
      | none => newR (convNew E.T H s d v)
    | none => none
  | .makeFunc (.func f) a b => match evL E.G env a.toList, evL E.G env b.toList with
    | some as, some bs => some (.fn f as bs, H, [])
    | _, _ => none
  | .makeMap _ none => some (.map H.length, H ++ [.map []], [])
  | .makeSlice t l c => match evO E.G env l, evO E.G env c with
    | some a, some b => newR (makeSliceE E.T H t a b)
    | _, _ => none
  | .slice t x lo hi mx => match evO E.G env x, evOpt E.G env lo, evOpt E.G env hi, evOpt E.G env mx with
    | some v, some l, some h, some m => pureR H (sliceE E.T t v l h m)
    | _, _, _, _ => none
  | .fieldAddr s x f => match evO E.G env x with
    | some v => pureR H (fieldAddrE E.T s v f)
    | none => none
  | .field s x f => match evO E.G env x with
    | some v => pureR H (fieldE E.T s v f)
    | none => none
  | .indexAddr t x i => match evO E.G env x, evO E.G env i with
    | some v, some j => pureR H (indexAddrE E.T t v j)
    | _, _ => none
  | .index t x i => match evO E.G env x, evO E.G env i with
    | some v, some j => pureR H (indexE E.T t v j)
    | _, _ => none
  | .lookup t m k ok => match evO E.G env m, evO E.G env k with
    | some a, some b => pureR H (lookupE E.T H t a b ok)
    | _, _ => none
  | .mapUpdate t m k x | .insert t m k x => match evO E.G env m, evO E.G env k, evO E.G env x with
    | some a, some b, some v => unitR (updateE E.T H t a b v)
    | _, _, _ => none
  | .extract x i => match evO E.G env x with
    | some (.tup vs) => pureR H vs[i]?
    | _ => none
  | .call { callee := .builtin b, args := as, argTypes := ts } => match evL E.G env as.toList with
    | some vs => builtinE E.T E.vm H b ts vs
    | none => none
  | _ => none

def stepE (E : EP) (cf : CallF) (env : Look) (H : Heap) (op : Op) : Res :=
  match op with
  | .call { callee := .value f, args := as, .. } => match evO E.G env f, evL E.G env as.toList with
    | some (.fn g a b), some vs => cf g (a ++ vs ++ b) H
    | _, _ => none
  | op => opE E env H op

def putE (env : Env) (dst : Option Nat) (v : EV) : Env := match dst with
  | some d => env.set d v
  | none => env

/-- Is it wanted? -/
def wantE (ops : Array Oper) (env : Look) (o : Oper) : Option Bool :=
  match o.guard with
  | none => some true
  | some (j, want) => match (ops[j]?).bind (·.dst) with
    | some d => match env d with
      | some (.bool b) => some (b == want)
      | some .undef => some false
      | _ => none
    | none => none

def opsE (E : EP) (cf : CallF) (ops : Array Oper) : List Nat → Env → Heap → Option (Env × Heap × List Nat)
  | [], env, H => some (env, H, [])
  | i :: rest, env, H => match ops[i]? with
    | none => none
    | some o => match wantE ops (look env) o with
      | some true => match stepE E cf (look env) H o.op with
        | some (v, H1, W1) => match opsE E cf ops rest (putE env o.dst v) H1 with
          | some (env2, H2, W2) => some (env2, H2, W1 ++ W2)
          | none => none
        | none => none
      | some false => opsE E cf ops rest (putE env o.dst .undef) H
      | none => none

inductive EX where
  | normal
  | exit (id : Nat)
  | ret

abbrev CRes := Option (EX × Env × Heap × List Nat)

def iterE (f : Env → Heap → CRes) : Nat → Env → Heap → CRes
  | 0, _, _ => none
  | n + 1, env, H => match f env H with
    | some (.normal, env1, H1, W1) => match iterE f n env1 H1 with
      | some (x, env2, H2, W2) => some (x, env2, H2, W1 ++ W2)
      | none => none
    | r => r

/-- How a region that draws its order is gone through (part 'D' fills it in): none: not at all. -/
abbrev DrawF := Array Oper → Env → Heap → Option (Env × Heap × List Nat)

def codeE (E : EP) (cf : CallF) (df : DrawF) : Code → Env → Heap → CRes
  | .skip, env, H => some (.normal, env, H, [])
  | .region _ ops false, env, H => match opsE E cf ops (List.range ops.size) env H with
    | some (env1, H1, W1) => some (.normal, env1, H1, W1)
    | none => none
  | .region _ ops true, env, H => match df ops env H with
    | some (env1, H1, W1) => some (.normal, env1, H1, W1)
    | none => none
  | .seq a b, env, H => match codeE E cf df a env H with
    | some (.normal, env1, H1, W1) => match codeE E cf df b env1 H1 with
      | some (x, env2, H2, W2) => some (x, env2, H2, W1 ++ W2)
      | none => none
    | r => r
  | .cond c a b, env, H => match evO E.G (look env) c with
    | some (.bool true) => codeE E cf df a env H
    | some (.bool false) => codeE E cf df b env H
    | _ => none
  | .block id c, env, H => match codeE E cf df c env H with
    | some (.exit j, env1, H1, W1) => if j = id then some (.normal, env1, H1, W1) else some (.exit j, env1, H1, W1)
    | r => r
  | .loop c, env, H => iterE (codeE E cf df c) E.fuel env H
  | .exit id, env, H => some (.exit id, env, H, [])
  | .ret, env, H => some (.ret, env, H, [])
  | _, _, _ => none

/-! ### What a call hands back -/

/-- A cell that leads to nothing that may be written (nor to 'ban'). -/
def frzC (H : Heap) (base : Nat) (ban : Option Nat) : Nat → EV → Option EV
  | 0, _ => none
  | d + 1, v => match v with
    | .sl o i n z _ => if o < base ∨ ban = some o then none else match H[o]? with
      | some (.cells cs) => if i + n * z ≤ cs.length then match mapO (frzC H base ban d) (cut cs i (n * z)) with
          | some cs' => some (.fz (chunk z n cs') .no)
          | none => none
        else none
      | _ => none
    | .map o => if o < base ∨ ban = some o then none else match H[o]? with
      | some (.map es) => match mapO (frzC H base ban d) (es.map (·.1)), mapO (frzC H base ban d) (es.map (·.2)) with
        | some ks, some vs => some (.fm (ks.zip vs))
        | _, _ => none
      | _ => none
    | .agg cs => match mapO (frzC H base ban d) cs with
      | some cs' => some (.agg cs')
      | none => none
    | v => still v

/-- A value that is handed back: it may lead to what the caller has (below base). -/
def frzA (H : Heap) (base : Nat) (ban : Option Nat) (d : Nat) (v : EV) : Option EV :=
  match v with
  | .ptr o i => if o < base then some (.ptr o i) else none
  | .map o => if o < base then some (.map o) else frzC H base ban d (.map o)
  | .sl o i n z cap => if o < base then some (.sl o i n z cap) else frzC H base ban d (.sl o i n z cap)
  | .fz es (.tok o) => if o < base then some (.fz es (.tok o)) else some (.fz es .no)
  | .fn f a b => match mapO (frzC H base ban d) a, mapO (frzC H base ban d) b with
    | some a', some b' => some (.fn f a' b')
    | _, _ => none
  | v => frzC H base ban d v
def frzV (H : Heap) (base : Nat) (ban : Option Nat) (d : Nat) (v : EV) : Option EV :=
  match v with
  | .undef => some .undef
  | .agg cs => match mapO (frzA H base ban d) cs with
    | some cs' => some (.agg cs')
    | none => none
  | v => frzA H base ban d v

def frzT (H : Heap) (base : Nat) (d : Nat) (v : EV) : Option EV :=
  match v with
  | .tup vs => match mapO (frzV H base none d) vs with
    | some vs' => some (.tup vs')
    | none => none
  | v => frzV H base none d v

/-- A slice that stays one's own: a new object of its own, whose cells lead to nothing that may be written. -/
def keepV (H : Heap) (base d : Nat) (v : EV) (K : Heap) : Option (EV × Heap × Nat) :=
  match v with
  | .sl o i n z cap => if o < base then none else match H[o]? with
    | some (.cells cs) => if i + n * z ≤ cs.length then match mapO (frzC H base (some o) d) (cut cs i (n * z)) with
        | some cs' => some (.sl K.length 0 n z (if cap = some n then some n else none), K ++ [.cells cs'], o)
        | none => none
      else none
    | _ => none
  | .fz es (.tok o) => if o < base then none else match H[o]? with
    | some (.tip m) => some (.fz es (.tok K.length), K ++ [.tip m], o)
    | _ => none
  | .fz es .tight => some (.fz es .tight, K, H.length)
  | _ => none

def freezeDepth : Nat := 20

/-- An object of its own becomes a value that may grow. -/
def meltV (base : Nat) (K : Heap) (v : EV) : Option (EV × Heap) :=
  match v with
  | .sl o 0 (n + 1) z none => if base ≤ o then match K[o]? with
    | some (.cells cs) => if (n + 1) * z ≤ cs.length then match mapO still (cut cs 0 ((n + 1) * z)) with
        | some cs' => some (.fz (chunk z (n + 1) cs') (.tok K.length), K.set o .dead ++ [.tip ((n + 1) * z)])
        | none => none
      else none
    | _ => none
    else none
  | _ => none

/-- H0: the heap when the call began; H, W: what the body left, and wrote. -/
def finishE (pol : Nat) (H0 H : Heap) (W : List Nat) (v : EV) : EV × Heap × List Nat :=
  let W' := W.filter (· < H0.length)
  match pol, W' with
  | 0, [] => match frzT H H0.length freezeDepth v with
    | some v' => (v', H0, [])
    | none => (v, H, [])
  | 2, [] => match v with
    | .tup (x :: r) => match keepV H H0.length freezeDepth x H0 with
      | some (x', K, o) => match mapO (frzV H H0.length (some o) freezeDepth) r with
        | some r' => (.tup (x' :: r'), K, [])
        | none => (v, H, [])
      | none => match frzT H H0.length freezeDepth v with
        | some v' => (v', H0, [])
        | none => (v, H, [])
    | x => match keepV H H0.length freezeDepth x H0 with
      | some (x', K, _) => (x', K, [])
      | none => match frzT H H0.length freezeDepth v with
        | some v' => (v', H0, [])
        | none => (v, H, [])
  | 3, [] => match keepV H H0.length freezeDepth v H0 with
    | some (x', K, _) => match meltV H0.length K x' with
      | some (x2, K2) => (x2, K2, [])
      | none => (x', K, [])
    | none => match frzT H H0.length freezeDepth v with
      | some v' => (v', H0, [])
      | none => (v, H, [])
  | _, _ => (v, H, W')

def resultsE (E : EP) (env : Look) (H : Heap) : List ResultVar → Option (List EV)
  | [] => some []
  | .tmp t :: r => match env t, resultsE E env H r with
    | some v, some vs => some (v :: vs)
    | _, _ => none
  | .cell a t :: r => match env a with
    | some p => match loadE E.T H t p, resultsE E env H r with
      | some v, some vs => some (v :: vs)
      | _, _ => none
    | none => none

def tupE : List EV → EV
  | [v] => v
  | vs => .tup vs

/-- A call by its code. -/
def bodyE (E : EP) (cf : CallF) (df : DrawF) (f : Nat) (fn : Func) (c : Code) (args : List EV) (H : Heap) : Res :=
  if args.length ≤ fn.ntmps then
    match codeE { E with vm := E.vms f } cf df c (args ++ List.replicate (fn.ntmps - args.length) .undef) H with
    | some (.exit _, _, _, _) => none
    | some (_, env, H1, W1) => match resultsE E (look env) H1 fn.results.toList with
      | some vs => some (finishE (E.pol f) H H1 W1 (tupE vs))
      | none => none
    | none => none
  else none

/-- A region that lays down one deferred call of a closure that it makes. -/
def deferL : List Oper → Option (Oper × Operand)
  | [o, od] => match od.op with
    | .defer c => match c.callee with
      | .value x => if o.guard.isNone = true ∧ od.guard.isNone = true ∧ od.dst.isNone = true ∧ c.args.toList.isEmpty = true then some (o, x) else none
      | _ => none
    | _ => none
  | _ => none
def deferOf : Code → Option (Oper × Operand)
  | .region _ ops false => deferL ops.toList
  | _ => none
def hasD : Code → Bool
  | .seq a b => (deferOf a).isSome || hasD b
  | _ => false
/-- Code that lays down one deferred call; that call, if it comes so far. -/
def codeD (E : EP) (cf : CallF) (df : DrawF) : Code → Env → Heap → Option (EX × Env × Heap × List Nat × Option (Nat × List EV))
  | .seq a b, env, H => match deferOf a with
    | some (o, x) => match stepE E cf (look env) H o.op with
      | some (v, H1, W1) => match evO E.G (look (putE env o.dst v)) x with
        | some (.fn g as bs) => match codeE E cf df b (putE env o.dst v) H1 with
          | some (ex, env2, H2, W2) => some (ex, env2, H2, W1 ++ W2, some (g, as ++ bs))
          | none => none
        | _ => none
      | none => none
    | none => match codeE E cf df a env H with
      | some (.normal, env1, H1, W1) => match codeD E cf df b env1 H1 with
        | some (ex, env2, H2, W2, d) => some (ex, env2, H2, W1 ++ W2, d)
        | none => none
      | some (ex, env1, H1, W1) => some (ex, env1, H1, W1, none)
      | none => none
  | _, _, _ => none
/-- A call of a function that defers one. -/
def callD (E : EP) (cf : CallF) (df : DrawF) (f : Nat) (fn : Func) (c : Code) (args : List EV) (H : Heap) : Res :=
  if args.length ≤ fn.ntmps then
    match codeD { E with vm := E.vms f } cf df c (args ++ List.replicate (fn.ntmps - args.length) .undef) H with
    | some (.exit _, _, _, _, _) => none
    | some (_, env, H1, W1, none) => match resultsE E (look env) H1 fn.results.toList with
      | some vs => some (finishE (E.pol f) H H1 W1 (tupE vs))
      | none => none
    | some (_, env, H1, W1, some (g, as)) => match E.F g with
      | some fg => match fg.body with
        | some cg => match bodyE E cf df g fg cg as H1 with
          | some (_, H2, W2) => match resultsE E (look env) H2 fn.results.toList with
            | some vs => some (finishE (E.pol f) H H2 (W1 ++ W2) (tupE vs))
            | none => none
          | none => none
        | none => none
      | none => none
    | none => none
  else none

/-- A call, to a depth. -/
def callE (E : EP) (df : CallF → DrawF) : Nat → CallF
  | 0, _, _, _ => none
  | k + 1, f, args, H => match E.I f args H with
    | some r => some r
    | none => match E.F f with
      | none => none
      | some fn => match fn.body with
        | none => none
        | some c => if hasD c = true then callD E (callE E df k) (df (callE E df k)) f fn c args H else bodyE E (callE E df k) (df (callE E df k)) f fn c args H

end Go.Ev
end

/- The evaluator E, third part: what it takes of the program: types. Definitions alone. -/
section
namespace Go.Ev
open Go

def aggOf (P : Program) (t : Nat) : Bool := match P.underlying t with
  | some (.struct _) => true
  | some (.array _ _) => true
  | _ => false
def scalarOf (P : Program) (t : Nat) : Bool := match P.underlying t with
  | some (.int _) => true
  | some .bool => true
  | some .string => true
  | _ => false
def fiOf (P : Program) (f : Field) : FI := ⟨f.offset, P.cellsOf f.type, aggOf P f.type, f.type⟩
def ofCs : List Value → Option (List EV)
  | [] => some []
  | v :: r => match ofC v, ofCs r with
    | some e, some es => some (e :: es)
    | _, _ => none
def utOf (P : Program) (t : Nat) : Option UT := match P.underlying t with
  | some (.int k) => some (.int k)
  | some .bool => some .bool
  | some .string => some .string
  | some (.struct fs) => if fs.toList.all (fun f => (P.info? f.type).isSome && (P.underlying f.type).isSome) then some (.struct (fs.toList.map (fiOf P))) else none
  | some (.array n e) => some (.array n e)
  | some (.slice e) => some (.slice e)
  | some (.map k e) => some (.map k e)
  | some (.pointer _) => some .pointer
  | some (.func _ _ _) => some .func
  | _ => none
/-- Fields in line, each of one cell, each compared by itself. -/
def lineOf (P : Program) : List Field → Nat → Bool
  | [], _ => true
  | f :: r, n => f.offset == n && f.name != "_" && scalarOf P f.type && lineOf P r (n + 1)
def eqOf (P : Program) (t : Nat) : Bool := match P.underlying t with
  | some (.struct fs) => lineOf P fs.toList 0 && fs.size == P.cellsOf t && !P.stoodInHeld t && !P.eqGuardType P.depth t
  | some (.array n e) => scalarOf P e && P.cellsOf e == 1 && n == P.cellsOf t && !P.eqGuardType P.depth t
  | _ => false
def isAggV : Value → Bool
  | .agg _ => true
  | _ => false
def tiOf (P : Program) (t : Nat) : Option TI := match P.info? t, utOf P t with
  | some i, some u => match i.zero with
    | some z => match ofCs z.cells.toList with
      | some zs => if zs.length = i.size ∧ isAggV z = aggOf P t then some ⟨u, i.size, i.bytes, aggOf P t, zs, eqOf P t⟩ else none
      | none => none
    | none => none
  | _, _ => none

end Go.Ev
end

/- What a value of E says of the model's value, and E's heap of the model's world; what a step keeps. -/
section
namespace Go.Ev
open Go

abbrev Bt := List (Option (Nat × Nat))

/-- Cells from x that may be written. -/
def Room (w : World) (b x n : Nat) : Prop := ∃ (rc : Array Value) (t : TypeId) (fr : Nat × Nat), w.heap[b]? = some (Obj.cells rc t fr) ∧ x + n ≤ rc.size ∧ ∀ y, x ≤ y → y < x + n → ¬ (fr.1 ≤ y ∧ y < fr.2)
/-- Blocks of cells keep their size and what is frozen. -/
def Shape (w w' : World) : Prop := ∀ (b : Nat) (rc : Array Value) (t : TypeId) (fr : Nat × Nat), w.heap[b]? = some (Obj.cells rc t fr) → ∃ rc' : Array Value, w'.heap[b]? = some (Obj.cells rc' t fr) ∧ rc'.size = rc.size
theorem Shape.refl (w : World) : Shape w w := fun _ rc _ _ h => ⟨rc, h, rfl⟩
theorem Shape.trans {w w' w2 : World} (h : Shape w w') (k : Shape w' w2) : Shape w w2 := fun b rc t fr hb => by
  obtain ⟨rc', h1, h2⟩ := h b rc t fr hb
  obtain ⟨rc2, h3, h4⟩ := k b rc' t fr h1
  exact ⟨rc2, h3, h4.trans h2⟩
theorem Room.mono {w w' : World} {b x n : Nat} (hs : Shape w w') (h : Room w b x n) : Room w' b x n := by
  obtain ⟨rc, t, fr, h1, h2, h3⟩ := h
  obtain ⟨rc', h4, h5⟩ := hs b rc t fr h1
  exact ⟨rc', t, fr, h4, by omega, h3⟩
theorem Room.part {w : World} {b x n y m : Nat} (h : Room w b x n) (h1 : x ≤ y) (h2 : y + m ≤ x + n) : Room w b y m := by
  obtain ⟨rc, t, fr, h3, h4, h5⟩ := h
  exact ⟨rc, t, fr, h3, by omega, fun z hz hz' => h5 z (by omega) (by omega)⟩

/-- Cells that hold values, and stay. -/
def Held (Fr : Nat → Nat → Prop) (w : World) (b s : Nat) (vs : List Value) : Prop := ∀ (j : Nat) (v : Value), vs[j]? = some v → Fr b (s + j) ∧ w.cell? ⟨b, s + j, none⟩ = some v

mutual
inductive VR (Fr : Nat → Nat → Prop) (w : World) : Bt → EV → Value → Prop where
  | int {β k n} : VR Fr w β (.int k n) (.int k n)
  | bool {β b} : VR Fr w β (.bool b) (.bool b)
  | str {β s} {b : ByteArray} (h : b.data.toList = s) : VR Fr w β (.str s) (.string b)
  | nilp {β} : VR Fr w β .nilp (.pointer none)
  | nilf {β} : VR Fr w β .nilf .nilFunc
  | nilm {β} : VR Fr w β .nilm (.map none)
  | ptr {β : Bt} {o i b s : Nat} (h : β[o]? = some (some (b, s))) : VR Fr w β (.ptr o i) (.pointer (some ⟨b, s + i, none⟩))
  | fp {β cs vs b s} (h : VRs Fr w [] cs vs) (hc : Held Fr w b s vs) : VR Fr w β (.fp cs) (.pointer (some ⟨b, s, none⟩))
  | fz0 {β A c k} (ht : k = .tight → c = 0) (hk : ∀ o, k ≠ .tok o) : VR Fr w β (.fz [] k) (.slice A 0 c)
  | fz {β : Bt} {es vs b s z n c k} (h : VRs Fr w [] es.flatten vs) (hz : ∀ e ∈ es, e.length = z) (hc : Held Fr w b s vs) (hl : n = es.length) (hn : n ≤ c) (ht : k = .tight → c = n) (hk : ∀ o, k = .tok o → es ≠ [] ∧ β[o]? = some (some (b, s)) ∧ Room w b s (c * z)) : VR Fr w β (.fz es k) (.slice (some ⟨b, s, none⟩) n c)
  | fm {β es b} {ents : Array MapEntry} {clock : Nat} (h1 : VRs Fr w [] (es.map (·.1)) (ents.toList.map (·.key))) (h2 : VRs Fr w [] (es.map (·.2)) (ents.toList.map (·.val))) (hb : w.heap[b]? = some (Obj.map ents clock)) (hf : Fr b 0) : VR Fr w β (.fm es) (.map (some b))
  | sl {β : Bt} {o i n z cap b s c} (h : β[o]? = some (some (b, s))) (hn : n ≤ c) (hc : ∀ k, cap = some k → c = k) (hm : Room w b (s + i) (c * z)) : VR Fr w β (.sl o i n z cap) (.slice (some ⟨b, s + i, none⟩) n c)
  | map {β : Bt} {o b} (h : β[o]? = some (some (b, 0))) : VR Fr w β (.map o) (.map (some b))
  | fn {β f as bs us vs} (ha : VRs Fr w β as us) (hb : VRs Fr w β bs vs) : VR Fr w β (.fn f as bs) (.func (.func f) us.toArray vs.toArray)
  | agg {β cs vs} (h : VRs Fr w β cs vs) : VR Fr w β (.agg cs) (.agg vs.toArray)
  | tup {β cs vs} (h : VRs Fr w β cs vs) : VR Fr w β (.tup cs) (.tuple vs.toArray)
  | undef {β} : VR Fr w β .undef Go.undef
inductive VRs (Fr : Nat → Nat → Prop) (w : World) : Bt → List EV → List Value → Prop where
  | nil {β} : VRs Fr w β [] []
  | cons {β e v es vs} (h : VR Fr w β e v) (hs : VRs Fr w β es vs) : VRs Fr w β (e :: es) (v :: vs)
end

/-- What stays does: cells and maps. -/
def Keep (Fr : Nat → Nat → Prop) (w w' : World) : Prop := ∀ b x, Fr b x → w'.cell? ⟨b, x, none⟩ = w.cell? ⟨b, x, none⟩ ∧ ∀ (ents : Array MapEntry) (clock : Nat), w.heap[b]? = some (Obj.map ents clock) → w'.heap[b]? = some (Obj.map ents clock)
theorem Keep.refl (Fr : Nat → Nat → Prop) (w : World) : Keep Fr w w := fun _ _ _ => ⟨rfl, fun _ _ h => h⟩
theorem Held.mono {Fr Fr' : Nat → Nat → Prop} {w w' : World} {b s : Nat} {vs : List Value} (hF : ∀ b x, Fr b x → Fr' b x) (hw : Keep Fr w w') (h : Held Fr w b s vs) : Held Fr' w' b s vs := fun j v hj =>
  ⟨hF _ _ (h j v hj).1, ((hw _ _ (h j v hj).1).1).trans (h j v hj).2⟩
theorem Held.drop {Fr : Nat → Nat → Prop} {w : World} {b s : Nat} {vs : List Value} (h : Held Fr w b s vs) (n : Nat) : Held Fr w b (s + n) (vs.drop n) := fun j v hj => by
  rw [List.getElem?_drop] at hj
  rw [Nat.add_assoc]
  exact h (n + j) v hj
theorem Held.take {Fr : Nat → Nat → Prop} {w : World} {b s : Nat} {vs : List Value} (h : Held Fr w b s vs) (n : Nat) : Held Fr w b s (vs.take n) := fun j v hj => by
  rw [List.getElem?_take] at hj
  split at hj
  · exact h j v hj
  · cases hj

section
variable {Fr Fr' : Nat → Nat → Prop} {w w' : World} {β β' : Bt}

mutual
theorem VR.mono {Fr Fr' : Nat → Nat → Prop} {w w' : World} {β β' : Bt} (hp : ∀ (o : Nat) (x : Nat × Nat), β[o]? = some (some x) → β'[o]? = some (some x)) (hF : ∀ b x, Fr b x → Fr' b x) (hw : Keep Fr w w') (hs' : Shape w w') : ∀ {e : EV} {v : Value}, VR Fr w β e v → VR Fr' w' β' e v
  | _, _, .int => .int
  | _, _, .bool => .bool
  | _, _, .str h => .str h
  | _, _, .nilp => .nilp
  | _, _, .nilf => .nilf
  | _, _, .nilm => .nilm
  | _, _, .ptr h => .ptr (hp _ _ h)
  | _, _, .fp h hc => .fp (VRs.mono (fun _ _ h => h) hF hw hs' h) (hc.mono hF hw)
  | _, _, .fz0 ht hk => .fz0 ht hk
  | _, _, .fz h hz hc hl hn ht hk => .fz (VRs.mono (fun _ _ h => h) hF hw hs' h) hz (hc.mono hF hw) hl hn ht (fun o ho => ⟨(hk o ho).1, hp _ _ (hk o ho).2.1, (hk o ho).2.2.mono hs'⟩)
  | _, _, .fm h1 h2 hb hf => .fm (VRs.mono (fun _ _ h => h) hF hw hs' h1) (VRs.mono (fun _ _ h => h) hF hw hs' h2) ((hw _ _ hf).2 _ _ hb) (hF _ _ hf)
  | _, _, .sl h hn hc hm => .sl (hp _ _ h) hn hc (hm.mono hs')
  | _, _, .map h => .map (hp _ _ h)
  | _, _, .fn ha hb => .fn (VRs.mono hp hF hw hs' ha) (VRs.mono hp hF hw hs' hb)
  | _, _, .agg h => .agg (VRs.mono hp hF hw hs' h)
  | _, _, .tup h => .tup (VRs.mono hp hF hw hs' h)
  | _, _, .undef => .undef
theorem VRs.mono {Fr Fr' : Nat → Nat → Prop} {w w' : World} {β β' : Bt} (hp : ∀ (o : Nat) (x : Nat × Nat), β[o]? = some (some x) → β'[o]? = some (some x)) (hF : ∀ b x, Fr b x → Fr' b x) (hw : Keep Fr w w') (hs' : Shape w w') : ∀ {es : List EV} {vs : List Value}, VRs Fr w β es vs → VRs Fr' w' β' es vs
  | _, _, .nil => .nil
  | _, _, .cons h hs => .cons (VR.mono hp hF hw hs' h) (VRs.mono hp hF hw hs' hs)
end

theorem VRs.length {es : List EV} {vs : List Value} (h : VRs Fr w β es vs) : es.length = vs.length := by
  induction es generalizing vs with
  | nil => cases h; rfl
  | cons e es ih => cases h with | cons h hs => simp [ih hs]
theorem VRs.get {es : List EV} {vs : List Value} (h : VRs Fr w β es vs) {i : Nat} {e : EV} (he : es[i]? = some e) : ∃ v, vs[i]? = some v ∧ VR Fr w β e v := by
  induction es generalizing vs i with
  | nil => simp at he
  | cons x es ih =>
    cases h with
    | cons h hs =>
      cases i with
      | zero => simp at he; subst he; exact ⟨_, rfl, h⟩
      | succ i => simpa using ih hs (by simpa using he)
theorem VRs.get' {es : List EV} {vs : List Value} (h : VRs Fr w β es vs) {i : Nat} {v : Value} (he : vs[i]? = some v) : ∃ e, es[i]? = some e ∧ VR Fr w β e v := by
  have hl := h.length
  have : i < es.length := by rw [hl]; exact (List.getElem?_eq_some_iff.1 he).1
  obtain ⟨u, hu, hr⟩ := h.get (List.getElem?_eq_getElem this)
  rw [he] at hu
  injection hu with hu
  subst hu
  exact ⟨_, List.getElem?_eq_getElem this, hr⟩
theorem VRs.append {es fs : List EV} {vs us : List Value} (h : VRs Fr w β es vs) (k : VRs Fr w β fs us) : VRs Fr w β (es ++ fs) (vs ++ us) := by
  induction es generalizing vs with
  | nil => cases h; exact k
  | cons e es ih => cases h with | cons h hs => exact .cons h (ih hs)
theorem VRs.take {es : List EV} {vs : List Value} (h : VRs Fr w β es vs) (n : Nat) : VRs Fr w β (es.take n) (vs.take n) := by
  induction es generalizing vs n with
  | nil => cases h; simpa using VRs.nil
  | cons e es ih =>
    cases h with
    | cons h hs => cases n with
      | zero => exact .nil
      | succ n => exact .cons h (ih hs n)
theorem VRs.drop {es : List EV} {vs : List Value} (h : VRs Fr w β es vs) (n : Nat) : VRs Fr w β (es.drop n) (vs.drop n) := by
  induction es generalizing vs n with
  | nil => cases h; simpa using VRs.nil
  | cons e es ih =>
    cases h with
    | cons h hs => cases n with
      | zero => exact .cons h hs
      | succ n => exact ih hs n
theorem VRs.set {es : List EV} {vs : List Value} (h : VRs Fr w β es vs) (i : Nat) {e : EV} {v : Value} (hv : VR Fr w β e v) : VRs Fr w β (es.set i e) (vs.set i v) := by
  induction es generalizing vs i with
  | nil => cases h; exact .nil
  | cons x es ih =>
    cases h with
    | cons h hs => cases i with
      | zero => exact .cons hv hs
      | succ i => exact .cons h (ih hs i)
theorem VRs.replicate {e : EV} {v : Value} (h : VR Fr w β e v) (n : Nat) : VRs Fr w β (List.replicate n e) (List.replicate n v) := by
  induction n with
  | zero => exact .nil
  | succ n ih => exact .cons h ih
theorem VRs.cut {es : List EV} {vs : List Value} (h : VRs Fr w β es vs) (i n : Nat) : VRs Fr w β (cut es i n) ((vs.drop i).take n) := (h.drop i).take n
theorem VRs.splice {es fs : List EV} {vs us : List Value} (h : VRs Fr w β es vs) (i : Nat) (k : VRs Fr w β fs us) : VRs Fr w β (splice es i fs) (vs.take i ++ us ++ vs.drop (i + us.length)) := by
  unfold Ev.splice
  rw [k.length]
  exact ((h.take i).append k).append (h.drop _)
theorem VRs.single {es : List EV} {v : Value} (h : VRs Fr w β es [v]) : ∃ e, es = [e] ∧ VR Fr w β e v := by
  cases h with | cons h hs => cases hs; exact ⟨_, rfl, h⟩

/-- A value's cells. -/
theorem VR.cells {e : EV} {v : Value} (h : VR Fr w β e v) : VRs Fr w β (cellsOf e) v.cells.toList := by
  cases h <;> simp only [cellsOf, Value.cells, Go.undef] <;> first
    | (refine .cons ?_ .nil; constructor <;> assumption)
    | simpa
/-- In one cell. -/
def oneV : Value → Bool
  | .agg _ | .tuple _ => false
  | _ => true
theorem VR.one {e : EV} {v : Value} (h : VR Fr w β e v) (he : e.one = true) : oneV v = true := by
  cases h <;> first | rfl | (simp [EV.one] at he)
theorem VRs.ones {es : List EV} {vs : List Value} (h : VRs Fr w β es vs) (he : es.all EV.one = true) : ∀ v ∈ vs, oneV v = true := by
  intro v hv
  obtain ⟨i, hi⟩ := List.mem_iff_getElem?.1 hv
  obtain ⟨e, he', hr⟩ := h.get' hi
  exact hr.one (List.all_eq_true.1 he e (List.mem_of_getElem? he'))
end

/-! ### The heap -/

def alive (H : Heap) (o : Nat) : Prop := ∃ x : EO, H[o]? = some x ∧ x ≠ .dead
/-- May cell x of a block that starts at s be written by that object? -/
def EO.owns (ob : EO) (s x : Nat) : Prop := match ob with
  | .dead => False
  | .tip m => s + m ≤ x
  | _ => True
/-- The blocks of what is alive. -/
def Im (β : Bt) (H : Heap) (b : Nat) : Prop := ∃ o s : Nat, β[o]? = some (some (b, s)) ∧ alive H o
/-- The cells that may be written. -/
def ImC (β : Bt) (H : Heap) (b x : Nat) : Prop := ∃ (o s : Nat) (ob : EO), β[o]? = some (some (b, s)) ∧ H[o]? = some ob ∧ ob.owns s x

structure Rel (Fr : Nat → Nat → Prop) (β : Bt) (H : Heap) (w : World) : Prop where
  len : β.length = H.length
  cells : ∀ (o : Nat) (cs : List EV) (b s : Nat), H[o]? = some (EO.cells cs) → β[o]? = some (some (b, s)) → ∃ (rc : Array Value) (t : TypeId) (fr : Nat × Nat) (vs : List Value), w.heap[b]? = some (Obj.cells rc t fr) ∧ VRs Fr w β cs vs ∧ ∀ (j : Nat) (v : Value), vs[j]? = some v → rc[s + j]? = some v ∧ ¬ (fr.1 ≤ s + j ∧ s + j < fr.2)
  maps : ∀ (o : Nat) (es : List (EV × EV)) (b s : Nat), H[o]? = some (EO.map es) → β[o]? = some (some (b, s)) → ∃ (ents : Array MapEntry) (clock : Nat), w.heap[b]? = some (Obj.map ents clock) ∧ VRs Fr w β (es.map (·.1)) (ents.toList.map (·.key)) ∧ VRs Fr w β (es.map (·.2)) (ents.toList.map (·.val))
  tips : ∀ (o m b s : Nat), H[o]? = some (EO.tip m) → β[o]? = some (some (b, s)) → ∃ (rc : Array Value) (t : TypeId) (fr : Nat × Nat), w.heap[b]? = some (Obj.cells rc t fr)
  live : ∀ o b s : Nat, β[o]? = some (some (b, s)) → alive H o → b < w.heap.size
  free : ∀ b x : Nat, ImC β H b x → ¬ Fr b x
  inj : ∀ o o' b s s' : Nat, β[o]? = some (some (b, s)) → β[o']? = some (some (b, s')) → alive H o → alive H o' → o = o'
  old : ∀ b x, Fr b x → b < w.heap.size

structure Stp (β : Bt) (H : Heap) (w w' : World) : Prop where
  os : w'.os = w.os
  tape : w'.tape = w.tape
  output : w'.output = w.output
  size : w.heap.size ≤ w'.heap.size
  shape : Shape w w'
  block : ∀ b, b < w.heap.size → ¬ Im β H b → w'.heap[b]? = w.heap[b]?
  cell : ∀ b x, b < w.heap.size → ¬ ImC β H b x → w'.cell? ⟨b, x, none⟩ = w.cell? ⟨b, x, none⟩

structure Ok (Fr : Nat → Nat → Prop) (β : Bt) (H : Heap) (w : World) (Fr' : Nat → Nat → Prop) (β' : Bt) (H' : Heap) (w' : World) : Prop where
  rel : Rel Fr' β' H' w'
  ext : ∀ (o : Nat) (x : Nat × Nat), β[o]? = some (some x) → β'[o]? = some (some x)
  ext' : ∀ (o : Nat), β[o]? = some none → β'[o]? = some none
  fr : ∀ b x, Fr b x → Fr' b x
  stp : Stp β H w w'
  im : ∀ b, b < w.heap.size → Im β' H' b → Im β H b
  imc : ∀ b x, b < w.heap.size → ImC β' H' b x → ImC β H b x
  frn : ∀ b x, b < w.heap.size → Fr' b x → Fr b x ∨ ImC β H b x

section
variable {Fr Fr' Fr2 : Nat → Nat → Prop} {w w' w2 : World} {β β' β2 : Bt} {H H' H2 : Heap}

theorem Ok.refl (h : Rel Fr β H w) : Ok Fr β H w Fr β H w := ⟨h, fun _ _ h => h, fun _ h => h, fun _ _ h => h, ⟨rfl, rfl, rfl, Nat.le_refl _, Shape.refl _, fun _ _ _ => rfl, fun _ _ _ _ => rfl⟩, fun _ _ h => h, fun _ _ _ h => h, fun _ _ _ h => .inl h⟩
theorem Ok.trans (h : Ok Fr β H w Fr' β' H' w') (k : Ok Fr' β' H' w' Fr2 β2 H2 w2) : Ok Fr β H w Fr2 β2 H2 w2 where
  rel := k.rel
  ext := fun o x ho => k.ext o x (h.ext o x ho)
  ext' := fun o ho => k.ext' o (h.ext' o ho)
  fr := fun b x hb => k.fr b x (h.fr b x hb)
  stp := ⟨k.stp.os.trans h.stp.os, k.stp.tape.trans h.stp.tape, k.stp.output.trans h.stp.output, Nat.le_trans h.stp.size k.stp.size, h.stp.shape.trans k.stp.shape, fun b hb hn =>
    (k.stp.block b (Nat.lt_of_lt_of_le hb h.stp.size) (fun hi => hn (h.im b hb hi))).trans (h.stp.block b hb hn), fun b x hb hn =>
    (k.stp.cell b x (Nat.lt_of_lt_of_le hb h.stp.size) (fun hi => hn (h.imc b x hb hi))).trans (h.stp.cell b x hb hn)⟩
  im := fun b hb hi => h.im b hb (k.im b (Nat.lt_of_lt_of_le hb h.stp.size) hi)
  imc := fun b x hb hi => h.imc b x hb (k.imc b x (Nat.lt_of_lt_of_le hb h.stp.size) hi)
  frn := fun b x hb hf => by
    rcases k.frn b x (Nat.lt_of_lt_of_le hb h.stp.size) hf with hf | hf
    · exact h.frn b x hb hf
    · exact .inr (h.imc b x hb hf)
/-- What is frozen stays. -/
theorem Ok.keeps (hr : Rel Fr β H w) (h : Ok Fr β H w Fr' β' H' w') : Keep Fr w w' := fun b x hb => by
  refine ⟨h.stp.cell b x (hr.old b x hb) (fun hi => hr.free b x hi hb), fun ents clock hm => ?_⟩
  rw [h.stp.block b (hr.old b x hb) ?_]
  · exact hm
  · rintro ⟨o, s, ho, ob, hob, hd⟩
    cases ob with
    | dead => exact hd rfl
    | tip m =>
      obtain ⟨rc, t, fr, hh⟩ := hr.tips o m b s hob ho
      rw [hm] at hh
      cases hh
    | cells cs => exact hr.free b x ⟨o, s, _, ho, hob, trivial⟩ hb
    | map es => exact hr.free b x ⟨o, s, _, ho, hob, trivial⟩ hb
theorem Ok.vr (hr : Rel Fr β H w) (h : Ok Fr β H w Fr' β' H' w') {e : EV} {v : Value} (hv : VR Fr w β e v) : VR Fr' w' β' e v := hv.mono h.ext h.fr (h.keeps hr) h.stp.shape
theorem Ok.vrs (hr : Rel Fr β H w) (h : Ok Fr β H w Fr' β' H' w') {e : List EV} {v : List Value} (hv : VRs Fr w β e v) : VRs Fr' w' β' e v := hv.mono h.ext h.fr (h.keeps hr) h.stp.shape
end
end Go.Ev
end

/- The evaluator E: each operation that leaves the heap as it is says what the model says. -/
section
namespace Go.Ev
open Go
set_option linter.unusedSimpArgs false
set_option linter.unusedVariables false

section
variable {P : Program} {Fr : Nat → Nat → Prop} {w : World} {β : Bt} {H : Heap}

/-! ### types -/
theorem ofC_VR {v : Value} {e : EV} (h : ofC v = some e) : VR Fr w β e v := by
  unfold ofC at h
  split at h <;> first | (injection h with h; subst h; exact .fz0 (fun _ => rfl) (fun _ e => by cases e)) | (injection h with h; subst h; exact .str rfl) | (injection h with h; subst h; constructor; done) | cases h
theorem ofCs_VR {vs : List Value} {es : List EV} (h : ofCs vs = some es) : VRs Fr w β es vs := by
  induction vs generalizing es with
  | nil => simp [ofCs] at h; subst h; exact .nil
  | cons v vs ih =>
    simp only [ofCs] at h
    split at h
    · rename_i h1 h2
      injection h with h
      subst h
      exact .cons (ofC_VR h1) (ih h2)
    · cases h
structure TOk (P : Program) (t : Nat) (ti : TI) : Prop where
  info : ∃ i z, P.info? t = some i ∧ i.size = ti.sz ∧ i.bytes = ti.bytes ∧ i.zero = some z ∧ ofCs z.cells.toList = some ti.zero ∧ ti.zero.length = ti.sz ∧ isAggV z = ti.ag
  ut : utOf P t = some ti.ut
  ag : aggOf P t = ti.ag
  eq : ti.eq = eqOf P t
theorem tiOf_ok {t : Nat} {ti : TI} (h : tiOf P t = some ti) : TOk P t ti := by
  unfold tiOf at h
  split at h
  · rename_i i u hi hu
    split at h
    · rename_i z hz
      split at h
      · rename_i zs hzs
        split at h
        · rename_i hl
          injection h with h
          subst h
          exact ⟨⟨i, z, hi, rfl, rfl, hz, hzs, hl.1, hl.2⟩, hu, rfl, rfl⟩
        · cases h
      · cases h
    · cases h
  · cases h
theorem TOk.und {t : Nat} {ti : TI} (h : TOk P t ti) : ∃ d, P.underlying t = some d := by
  have := h.ut
  unfold utOf at this
  cases hu : P.underlying t with
  | none => simp [hu] at this
  | some d => exact ⟨d, rfl⟩
theorem run_und {t : Nat} {d : TypeDesc} (h : P.underlying t = some d) (w : World) : (underlying t).run P w = .ok d w := run_underlying h w
theorem TOk.size {t : Nat} {ti : TI} (h : TOk P t ti) (w : World) : (sizeOf t).run P w = .ok ti.sz w := by
  obtain ⟨i, z, hi, hs, _⟩ := h.info
  rw [run_sizeOf w hi, Program.cellsOf, hi, ← hs]
  rfl
theorem TOk.isAgg {t : Nat} {ti : TI} (h : TOk P t ti) (w : World) : (Go.isAgg t).run P w = .ok ti.ag w := by
  obtain ⟨d, hd⟩ := h.und
  rw [← h.ag]
  unfold Go.isAgg aggOf
  simp only [Sem.run_bind, run_und hd, Result.andThen_ok, hd]
  cases d <;> rfl
theorem TOk.zero {t : Nat} {ti : TI} (h : TOk P t ti) (w : World) : ∃ z, (zeroValue t).run P w = .ok z w ∧ VRs Fr w β ti.zero z.cells.toList := by
  obtain ⟨i, z, hi, hs, hb, hz, hc, hl, _⟩ := h.info
  exact ⟨z, by unfold zeroValue; simp only [Sem.run_bind, run_typeInfo w hi, Result.andThen_ok, hz]; rfl, ofCs_VR hc⟩
theorem TOk.bytes {t : Nat} {ti : TI} (h : TOk P t ti) (w : World) : ∃ i, (typeInfo t).run P w = .ok i w ∧ i.bytes = ti.bytes := by
  obtain ⟨i, z, hi, hs, hb, _⟩ := h.info
  exact ⟨i, run_typeInfo w hi, hb⟩
theorem TOk.cellsOf {t : Nat} {ti : TI} (h : TOk P t ti) : P.cellsOf t = ti.sz := by
  obtain ⟨i, z, hi, hs, _⟩ := h.info
  rw [Program.cellsOf, hi, ← hs]
  rfl
theorem TOk.struct {t : Nat} {fs : List FI} {sz bytes : Nat} {ag eq : Bool} {zero : List EV} (h : TOk P t ⟨.struct fs, sz, bytes, ag, zero, eq⟩) : ∃ gs, P.underlying t = some (.struct gs) ∧ fs = gs.toList.map (fiOf P) ∧ ∀ f ∈ gs.toList, (P.info? f.type).isSome = true ∧ (P.underlying f.type).isSome = true := by
  have := h.ut
  unfold utOf at this
  split at this <;> try (first | cases this | (injection this with this; cases this; done))
  rename_i gs hg
  split at this
  · rename_i ha
    injection this with this
    injection this with this
    exact ⟨gs, hg, this.symm, fun f hf => by simpa using List.all_eq_true.1 ha f hf⟩
  · cases this
theorem TOk.slice {t e sz bytes : Nat} {ag eq : Bool} {zero : List EV} (h : TOk P t ⟨.slice e, sz, bytes, ag, zero, eq⟩) : P.underlying t = some (.slice e) := by
  have := h.ut
  unfold utOf at this
  split at this <;> try (first | cases this | (injection this with this; cases this; done) | (split at this <;> cases this; done))
  rename_i he
  exact he
theorem TOk.array {t n e sz bytes : Nat} {ag eq : Bool} {zero : List EV} (h : TOk P t ⟨.array n e, sz, bytes, ag, zero, eq⟩) : P.underlying t = some (.array n e) := by
  have := h.ut
  unfold utOf at this
  split at this <;> try (first | cases this | (injection this with this; cases this; done) | (split at this <;> cases this; done))
  rename_i he
  exact he
theorem TOk.map {t k e sz bytes : Nat} {ag eq : Bool} {zero : List EV} (h : TOk P t ⟨.map k e, sz, bytes, ag, zero, eq⟩) : P.underlying t = some (.map k e) := by
  have := h.ut
  unfold utOf at this
  split at this <;> try (first | cases this | (injection this with this; cases this; done) | (split at this <;> cases this; done))
  rename_i he
  exact he
theorem TOk.string {t sz bytes : Nat} {ag eq : Bool} {zero : List EV} (h : TOk P t ⟨.string, sz, bytes, ag, zero, eq⟩) : P.underlying t = some .string := by
  have := h.ut
  unfold utOf at this
  split at this <;> try (first | cases this | (injection this with this; cases this; done) | (split at this <;> cases this; done))
  rename_i he
  exact he
theorem TOk.bool {t sz bytes : Nat} {ag eq : Bool} {zero : List EV} (h : TOk P t ⟨.bool, sz, bytes, ag, zero, eq⟩) : P.underlying t = some .bool := by
  have := h.ut
  unfold utOf at this
  split at this <;> try (first | cases this | (injection this with this; cases this; done) | (split at this <;> cases this; done))
  rename_i he
  exact he
theorem TOk.int {t : Nat} {k : IntKind} {sz bytes : Nat} {ag eq : Bool} {zero : List EV} (h : TOk P t ⟨.int k, sz, bytes, ag, zero, eq⟩) : P.underlying t = some (.int k) := by
  have := h.ut
  unfold utOf at this
  split at this <;> try (first | cases this | (injection this with this; cases this; done) | (split at this <;> cases this; done))
  rename_i he
  exact he
theorem TOk.pointer {t sz bytes : Nat} {ag eq : Bool} {zero : List EV} (h : TOk P t ⟨.pointer, sz, bytes, ag, zero, eq⟩) : ∃ e, P.underlying t = some (.pointer e) := by
  have := h.ut
  unfold utOf at this
  split at this <;> try (first | cases this | (injection this with this; cases this; done) | (split at this <;> cases this; done))
  rename_i he
  exact ⟨_, he⟩
theorem TOk.func {t sz bytes : Nat} {ag eq : Bool} {zero : List EV} (h : TOk P t ⟨.func, sz, bytes, ag, zero, eq⟩) : ∃ a b c, P.underlying t = some (.func a b c) := by
  have := h.ut
  unfold utOf at this
  split at this <;> try (first | cases this | (injection this with this; cases this; done) | (split at this <;> cases this; done))
  rename_i he
  exact ⟨_, _, _, he⟩

/-! ### cells -/
theorem addr_add (b s j : Nat) : (⟨b, s, none⟩ : Addr).add j = ⟨b, s + j, none⟩ := by unfold Addr.add; split <;> simp_all
theorem Rel.cell {o : Nat} {cs : List EV} {b s : Nat} (hr : Rel Fr β H w) (ho : H[o]? = some (EO.cells cs)) (hb : β[o]? = some (some (b, s))) : ∃ vs, VRs Fr w β cs vs ∧ ∀ (j : Nat) (v : Value), vs[j]? = some v → w.cell? ⟨b, s + j, none⟩ = some v := by
  obtain ⟨rc, t, fr, vs, hh, hv, hc⟩ := hr.cells o cs b s ho hb
  exact ⟨vs, hv, fun j v hj => by simp [World.cell?, hh, (hc j v hj).1]⟩
theorem run_cells {b s : Nat} {vs : List Value} {i n : Nat} (hc : ∀ (j : Nat) (v : Value), vs[j]? = some v → w.cell? ⟨b, s + j, none⟩ = some v) (hn : i + n ≤ vs.length) :
    (loadCells ⟨b, s + i, none⟩ n).run P w = .ok ((vs.drop i).take n).toArray w := by
  have hl : ((vs.drop i).take n).length = n := by simp; omega
  have := run_loadCells_list (P := P) w ⟨b, s + i, none⟩ ((vs.drop i).take n) (fun j v hj => by
    rw [addr_add]
    rw [List.getElem?_take] at hj
    split at hj
    · rw [List.getElem?_drop] at hj
      have := hc (i + j) v hj
      rwa [← Nat.add_assoc] at this
    · cases hj)
  rwa [hl] at this
theorem VRs.up {es : List EV} {vs : List Value} (h : VRs Fr w [] es vs) : VRs Fr w β es vs := h.mono (fun o x h => by simp at h) (fun _ _ h => h) (Keep.refl _ _) (Shape.refl _)
theorem VR.up {e : EV} {v : Value} (h : VR Fr w [] e v) : VR Fr w β e v := h.mono (fun o x h => by simp at h) (fun _ _ h => h) (Keep.refl _ _) (Shape.refl _)
/-- What lies at a pointer. -/
theorem ldCells_ok (hr : Rel Fr β H w) {p : EV} {pv : Value} {n : Nat} {cs : List EV} (hp : VR Fr w β p pv) (h : ldCells H p n = some cs) :
    ∃ (b s : Nat) (vs us : List Value) (i : Nat), pv = .pointer (some ⟨b, s + i, none⟩) ∧ (∀ (j : Nat) (v : Value), vs[j]? = some v → w.cell? ⟨b, s + j, none⟩ = some v) ∧ i + n ≤ vs.length ∧ us = (vs.drop i).take n ∧ VRs Fr w β cs us := by
  unfold ldCells at h
  split at h
  · split at h
    · split at h
      · rename_i o i n' cs' ho hl
        injection h with h
        subst h
        cases hp with
        | ptr hb =>
          obtain ⟨vs, hv, hc⟩ := hr.cell ho hb
          exact ⟨_, _, vs, _, _, rfl, hc, by rw [← hv.length]; exact hl, rfl, hv.cut _ _⟩
      · cases h
    · cases h
  · split at h
    · rename_i hl
      injection h with h
      subst h
      cases hp with
      | fp hv hc => exact ⟨_, _, _, _, 0, rfl, fun j v hj => (hc j v hj).2, by rw [← hv.length]; omega, rfl, by have := (hv.up (β := β)).take n; simpa using this⟩
    · cases h
  · cases h
theorem load_ok (hr : Rel Fr β H w) {t : Nat} {p v : EV} {pv : Value} (hp : VR Fr w β p pv) (h : loadE (tiOf P) H t p = some v) :
    ∃ val, (Instr.loadAt t pv).run P w = .ok val w ∧ VR Fr w β v val := by
  unfold loadE at h
  split at h
  · rename_i ti ht
    have hT := tiOf_ok ht
    split at h
    · rename_i cs hcs
      obtain ⟨b, s, vs, us, i, rfl, hc, hl, rfl, hv⟩ := ldCells_ok hr hp hcs
      simp only [Instr.loadAt, Instr.sureAddr, Sem.run_bind, Sem.run_pure, Result.andThen_ok, loadVar, hT.isAgg]
      split at h
      · rename_i ha
        injection h with h
        subst h
        simp only [ha, if_true, hT.size, run_cells hc hl, Result.andThen_ok, Sem.run_bind, Sem.run_pure]
        exact ⟨_, rfl, .agg hv⟩
      · rename_i ha
        split at h
        · rename_i c
          injection h with h
          subst h
          have h1 := hv.length
          simp only [List.length_singleton] at h1
          obtain ⟨u, hu⟩ : ∃ u, ((vs.drop i).take ti.sz) = [u] := by
            match hq : (vs.drop i).take ti.sz, h1 with
            | [u], _ => exact ⟨u, rfl⟩
          rw [hu] at hv
          cases hv with
          | cons hv _ =>
            have h0 : vs[i]? = some u := by
              have : ((vs.drop i).take ti.sz)[0]? = some u := by rw [hu]; rfl
              rw [List.getElem?_take] at this
              split at this
              · rw [List.getElem?_drop] at this
                simpa using this
              · cases this
            have hcell := hc i u h0
            simp only [ha, Bool.false_eq_true, if_false, run_load, hcell]
            exact ⟨u, rfl, hv⟩
        · cases h
    · cases h
  · cases h

end
end Go.Ev
end
