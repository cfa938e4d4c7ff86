import Derived.WalkKit
import Derived.KernelRfl
import Derived.Laws.StructEq
/-! Abstract interpreter: values, heap, code, runs. -/
namespace Go.Proofs.YtdpbbagllhfjbaaDoorW.AI
open Go
set_option linter.unusedVariables false

inductive AV where
  | int (k : IntKind) (n : Int)
  | bool (b : Bool)
  | str (s : ByteArray)
  | nilp
  | ptr (b off : Nat)
  | nils
  | sl (b off len cap : Nat)
  | gsl (b off len esz : Nat) (mn : Bool)
  | nilf
  | fn (f : Nat) (caps : List AV)
  | agg (cs : List AV)
  | tup (vs : List AV)
  | any
  deriving Inhabited

mutual
def AV.lt (n : Nat) : AV → Bool
  | .ptr b _ => decide (b < n)
  | .sl b _ _ _ => decide (b < n)
  | .gsl b _ _ _ _ => decide (b < n)
  | .fn _ cs => AV.lts n cs
  | .agg cs => AV.lts n cs
  | .tup cs => AV.lts n cs
  | _ => true
def AV.lts (n : Nat) : List AV → Bool
  | [] => true
  | x :: xs => AV.lt n x && AV.lts n xs
end

def AV.isCell : AV → Bool
  | .agg _ => false
  | .tup _ => false
  | .any => false
  | _ => true

/-- The cells of a value. -/
def AV.cells : AV → List AV
  | .agg cs => cs
  | v => [v]

inductive ACells where
  | ints (k : IntKind) (l : List Int)
  | vals (l : List AV)
  deriving Inhabited

def ACells.len : ACells → Nat
  | .ints _ l => l.length
  | .vals l => l.length

def ACells.get? : ACells → Nat → Option AV
  | .ints k l, i => (l[i]?).map (AV.int k)
  | .vals l, i => l[i]?

def ACells.set? : ACells → Nat → AV → Option ACells
  | .ints k l, i, .int k' n => if k = k' ∧ i < l.length then some (.ints k (l.set i n)) else none
  | .ints _ _, _, _ => none
  | .vals l, i, v => if i < l.length ∧ v.isCell = true then some (.vals (l.set i v)) else none

def ACells.sub : ACells → Nat → Nat → ACells
  | .ints k l, i, n => .ints k ((l.drop i).take n)
  | .vals l, i, n => .vals ((l.drop i).take n)

/-- Cells made of a value: all whole numbers of one kind, or whatever cells. -/
def toInts (k : IntKind) : List AV → Option (List Int)
  | [] => some []
  | .int k' n :: l => if k = k' then (toInts k l).map (n :: ·) else none
  | _ => none

def ACells.app : ACells → ACells → Option ACells
  | .ints k l, .ints k' l' => if k = k' then some (.ints k (l ++ l')) else none
  | .vals l, .vals l' => some (.vals (l ++ l'))
  | .ints k l, .vals l' => (toInts k l').map fun l' => .ints k (l ++ l')
  | .vals l, .ints k l' => some (.vals (l ++ l'.map (AV.int k)))

def ACells.lt (n : Nat) : ACells → Bool
  | .ints _ _ => true
  | .vals l => AV.lts n l && l.all AV.isCell

inductive BSt where
  | ext
  | tip (o : Bool)
  | old (t : Nat)
  | dead
  deriving DecidableEq, Inhabited

structure ABlk where
  st : BSt
  c : ACells
  deriving Inhabited

abbrev AHeap := List ABlk

/-- A block of the call's own, without elder faces. -/
abbrev ABlk.new (c : ACells) : ABlk := ⟨.tip false, c⟩

def cellsAt (h : AHeap) (b : Nat) : Option ACells :=
  match h[b]? with
  | some ⟨.dead, _⟩ => none
  | some ⟨_, c⟩ => some c
  | none => none

def loadN (c : ACells) (off : Nat) : Nat → Option (List AV)
  | 0 => some []
  | n + 1 => (c.get? off).bind fun v => (loadN c (off + 1) n).map (v :: ·)

def loadA (c : ACells) (off : Nat) : Option Nat → Option AV
  | none => c.get? off
  | some n => (loadN c off n).map AV.agg

def storeL (c : ACells) (off : Nat) : List AV → Option ACells
  | [] => some c
  | v :: vs => (c.set? off v).bind fun c' => storeL c' (off + 1) vs

def kill (b : Nat) (h : AHeap) : AHeap := h.map fun x => if x.st = .old b then { x with st := .dead } else x
def reTip (b j : Nat) (h : AHeap) : AHeap := h.map fun x => if x.st = .old b then { x with st := .old j } else x

/-- A change of a block that is the call's own. -/
def change (h : AHeap) (b : Nat) (f : ACells → Option ACells) : Option AHeap :=
  match h[b]? with
  | some ⟨.tip o, c⟩ => (f c).map fun c' => (if o then kill b h else h).set b ⟨.tip o, c'⟩
  | _ => none

inductive MX where
  | t (i : Nat)
  | c (v : AV)
  | f (f : Nat)
  | g (i : Nat)
  deriving Inhabited

abbrev Acts := List (Nat × AV)

def look : Acts → Nat → Option AV
  | [], _ => none
  | (i, v) :: a, t => if i = t then some v else look a t

def aeval (a : Acts) : MX → Option AV
  | .t i => match look a i with
    | some .any => none
    | r => r
  | .c v => some v
  | .f f => some (.fn f [])
  | .g i => some (.ptr i 0)

def aevals (a : Acts) : List MX → Option (List AV)
  | [] => some []
  | x :: xs => (aeval a x).bind fun v => (aevals a xs).map (v :: ·)

inductive MOp where
  | mv (x : MX)
  | pick (c x y : MX)
  | bin (op : BinOp) (e : List Nat) (x y : MX)
  | un (op : UnOp) (x : MX)
  | ci (k : IntKind) (x : MX)
  | cid (x : MX)
  | cstr (x : MX)
  | ld (agg : Option Nat) (x : MX)
  | st (n : Nat) (p x : MX)
  | fa (off : Nat) (x : MX)
  | fld (off : Nat) (agg : Option Nat) (x : MX)
  | ixa (len esz : Nat) (agg : Option Nat) (x i : MX)
  | ixs (x i : MX)
  | ia (arr : Option Nat) (esz : Nat) (x i : MX)
  | slc (arr : Option Nat) (esz : Nat) (x : MX) (lo hi mx : Option MX)
  | slstr (x : MX) (lo hi : Option MX)
  | al (z : ACells)
  | bx (ints : Option IntKind) (n : Nat) (x : MX)
  | bld (z : List AV) (parts : List (Nat × Nat × MX))
  | bsl (z : ACells) (len : Nat) (esz : Nat) (parts : List (Nat × Nat × MX))
  | mf (f : Nat) (caps : List MX)
  | mks (z : ACells) (bytes : Nat) (len cap : MX)
  | ex (i : Nat) (x : MX)
  | nc (x : MX)
  | call (f : Nat) (xs : List MX)
  | calld (x : MX) (xs : List MX)
  | len (arr : Option Nat) (x : MX)
  | lens (x : MX)
  | mnx (mx : Bool) (xs : List MX)
  | app (z : ACells) (bytes : Nat) (s x : MX)
  | appz (z : ACells) (bytes : Nat) (s x : MX)
  | bad
  | cpy (esz : Nat) (d s : MX)
  deriving Inhabited

structure MOper where
  dst : Option Nat
  op : MOp
  guard : Option (Nat × Bool)
  deriving Inhabited

inductive MCode where
  | skip
  | reg (ops : List MOper)
  | regd (ops : List (Nat × MOper)) (un : List (Nat × Nat))
  | seq (a b : MCode)
  | cond (c : MX) (x y : MCode)
  | block (id : Nat) (keep : List Nat) (body : MCode)
  | loop (keep : List Nat) (body : MCode)
  | exit (id : Nat)
  | ret
  | goto (l : Nat)
  | scope (keep : List Nat) (l1 : Nat) (r1 : MCode) (l2 : Nat) (r2 body : MCode)
  deriving Inhabited

inductive MRes where
  | tmp (t : Nat)
  | cell (t : Nat) (agg : Option Nat)
  deriving Inhabited

structure MFunc where
  body : MCode
  res : List MRes
  trim : Bool
  deriving Inhabited

-- ------------------------------------------------------------------ plain operations

def abits (op : BinOp) (k : IntKind) (x y : Int) : Int :=
  let a := BitVec.ofInt k.bits x
  let b := BitVec.ofInt k.bits y
  k.wrap (match op with
    | .and => (a &&& b).toNat
    | .or => (a ||| b).toNat
    | .xor => (a ^^^ b).toNat
    | _ => (a &&& ~~~b).toNat)

/-- Whole numbers (0), bools (1), strings (2). -/
def scEq (c : Nat) (x y : AV) : Option Bool :=
  match c, x, y with
  | 0, .int k x, .int k' y => if k = k' then some (x == y) else none
  | 1, .bool x, .bool y => some (x == y)
  | 2, .str x, .str y => some (x.toList == y.toList)
  | _, _, _ => none

def scEqs : List Nat → List AV → List AV → Option Bool
  | [], [], [] => some true
  | c :: cs, x :: xs, y :: ys => (scEq c x y).bind fun b => (scEqs cs xs ys).map fun c => b && c
  | _, _, _ => none

/-- Whether a value is nil: if that is known. -/
def nilOf : AV → Option Bool
  | .nilp => some true
  | .ptr _ _ => some false
  | .nils => some true
  | .sl _ _ _ _ => some false
  | .gsl _ _ n _ mn => if mn && n == 0 then none else some false
  | .nilf => some true
  | .fn _ _ => some false
  | _ => none

def isSlice : AV → Bool
  | .nils => true
  | .sl _ _ _ _ => true
  | .gsl _ _ _ _ _ => true
  | _ => false

/-- Equality: of bools (1), pointers (2), slices and nil (3), functions and nil (4), flat structs (5, and what their cells are). -/
def aeq (e : List Nat) (x y : AV) : Option Bool :=
  match e, x, y with
  | [1], .bool a, .bool b => some (a == b)
  | [2], .nilp, .nilp => some true
  | [2], .nilp, .ptr _ _ => some false
  | [2], .ptr _ _, .nilp => some false
  | [3], .nils, y => if isSlice y then nilOf y else none
  | [3], x, .nils => if isSlice x then nilOf x else none
  | [4], .nilf, .nilf => some true
  | [4], .nilf, .fn _ _ => some false
  | [4], .fn _ _, .nilf => some false
  | 5 :: sh, .agg xs, .agg ys => scEqs sh xs ys
  | _, _, _ => none

def abinInt (op : BinOp) (k : IntKind) (x : Int) (k' : IntKind) (y : Int) : Option AV :=
  match op with
  | .shl => if y < 0 then none else some (.int k (k.wrap (x * 2 ^ (min y.toNat k.bits))))
  | .shr => if y < 0 then none else some (.int k (x.fdiv (2 ^ (min y.toNat k.bits))))
  | _ =>
    if k ≠ k' then none else
    match op with
    | .add => some (.int k (k.wrap (x + y)))
    | .sub => some (.int k (k.wrap (x - y)))
    | .mul => some (.int k (k.wrap (x * y)))
    | .quo => if y = 0 then none else some (.int k (k.wrap (x.tdiv y)))
    | .rem => if y = 0 then none else some (.int k (x.tmod y))
    | .and => some (.int k (abits .and k x y))
    | .or => some (.int k (abits .or k x y))
    | .xor => some (.int k (abits .xor k x y))
    | .andNot => some (.int k (abits .andNot k x y))
    | .eql => some (.bool (x == y))
    | .neq => some (.bool (x != y))
    | .lss => some (.bool (decide (x < y)))
    | .leq => some (.bool (decide (x ≤ y)))
    | .gtr => some (.bool (decide (x > y)))
    | .geq => some (.bool (decide (x ≥ y)))
    | _ => none

def abinStr (op : BinOp) (x y : ByteArray) : Option AV :=
  match op with
  | .add => if x.size + y.size ≤ 9223372036854775807 then some (.str (x ++ y)) else none
  | .eql => some (.bool (x.toList == y.toList))
  | .neq => some (.bool !(x.toList == y.toList))
  | .lss => some (.bool (Op.bytesLess x.toList y.toList))
  | .geq => some (.bool !(Op.bytesLess x.toList y.toList))
  | _ => none

def abin (op : BinOp) (e : List Nat) (x y : AV) : Option AV :=
  match x, y with
  | .int k a, .int k' b => abinInt op k a k' b
  | .str a, .str b => abinStr op a b
  | x, y =>
    match op with
    | .eql => (aeq e x y).map .bool
    | .neq => (aeq e x y).map fun b => .bool !b
    | _ => none

def aun (op : UnOp) (x : AV) : Option AV :=
  match op, x with
  | .neg, .int k n => some (.int k (k.wrap (0 - n)))
  | .xor, .int k n => some (.int k (abits .xor k (if k.signed then -1 else k.max) n))
  | .not, .bool b => some (.bool !b)
  | _, _ => none

def aminmax (mx : Bool) : AV → List AV → Option AV
  | v, [] => some v
  | .int k x, .int k' y :: rest => if k = k' then aminmax mx (.int k (if mx then (if y > x then y else x) else (if y < x then y else x))) rest else none
  | _, _ => none

/-- The n cells of a flat value from a place on. -/
def apart (cs : List AV) (off : Nat) : Option Nat → Option AV
  | none => cs[off]?
  | some n => if off + n ≤ cs.length then some (.agg ((cs.drop off).take n)) else none

def spliceL (z : List AV) (off : Nat) : List AV → List AV
  | [] => z
  | v :: vs => spliceL (z.set off v) (off + 1) vs

def fillA (z : List AV) : List (Nat × Nat × AV) → Option (List AV)
  | [] => some z
  | (off, n, v) :: rest =>
    if v.cells.length = n ∧ off + n ≤ z.length ∧ v.cells.all AV.isCell = true then fillA (spliceL z off v.cells) rest else none

def fillC (z : ACells) : List (Nat × Nat × AV) → Option ACells
  | [] => some z
  | (off, n, v) :: rest =>
    if v.cells.length = n ∧ off + n ≤ z.len then (storeL z off v.cells).bind fun z' => fillC z' rest else none

def partsOf (a : Acts) : List (Nat × Nat × MX) → Option (List (Nat × Nat × AV))
  | [] => some []
  | (o, n, x) :: rest => (aeval a x).bind fun v => (partsOf a rest).map ((o, n, v) :: ·)

def mkCells (ik : Option IntKind) (l : List AV) : Option ACells :=
  match ik with
  | some k => (toInts k l).map (.ints k)
  | none => if l.all AV.isCell then some (.vals l) else none

def asN : AV → Option Nat
  | .int _ n => if 0 ≤ n then some n.toNat else none
  | _ => none

def optN (a : Acts) : Option MX → Option (Option Nat)
  | none => some none
  | some x => (aeval a x).bind fun v => (asN v).map some

/-- The bounds of a cut: low, high. -/
def bounds (len cap : Nat) (lo hi : Option Nat) : Option (Nat × Nat) :=
  let h := hi.getD len
  let l := lo.getD 0
  if h ≤ cap ∧ l ≤ h then some (l, h) else none

def repl (z : ACells) (n : Nat) : ACells :=
  match z with
  | .ints k l => .ints k ((List.replicate n l).flatten)
  | .vals l => .vals ((List.replicate n l).flatten)

def bytesOf : ACells → Option ByteArray
  | .ints .u8 l => some ⟨(l.map fun n => UInt8.ofNat n.toNat).toArray⟩
  | _ => none

/-- A slice's cells: none: not known. -/
def sliceCells (h : AHeap) (esz : Nat) : AV → Option ACells
  | .sl b off n _ => (cellsAt h b).bind fun c => if off + n * esz ≤ c.len then some (c.sub off (n * esz)) else none
  | .gsl b off n e _ => if e = esz then (cellsAt h b).bind fun c => if off + n * esz ≤ c.len then some (c.sub off (n * esz)) else none else none
  | _ => none

def slen : AV → Option Nat
  | .nils => some 0
  | .sl _ _ n _ => some n
  | .gsl _ _ n _ _ => some n
  | _ => none

/-- What is appended. (z: one element of zeros: which kind of cells.) -/
def newCells (h : AHeap) (z : ACells) : AV → Option ACells
  | .nils => some (z.sub 0 0)
  | x => sliceCells h z.len x

def room (n bytes : Nat) : Bool := decide ((4 * n + 8192) * bytes ≤ 281474976710656 ∧ n < 9223372036854775807)

def ACells.list : ACells → List AV
  | .ints k l => l.map (AV.int k)
  | .vals l => l

def aappend (h : AHeap) (z : ACells) (bytes : Nat) (s : AV) (xs : ACells) (m : Nat) : Option (AV × AHeap × List Nat) :=
  match s with
  | .nils => if m = 0 then some (.nils, h, []) else if room m bytes then some (.gsl h.length 0 m z.len false, h ++ [.new xs], []) else none
  | .sl b off n cap =>
    if n + m ≤ cap then
      (change h b fun c => storeL c (off + n * z.len) xs.list).map fun h' => (.sl b off (n + m) cap, h', [b])
    else
      (sliceCells h z.len s).bind fun old => (old.app xs).bind fun c =>
        if room (n + m) bytes then some (.gsl h.length 0 (n + m) z.len false, h ++ [.new c], []) else none
  | .gsl b off n e mn =>
    if e = z.len then
      match h[b]? with
      | some ⟨.tip o, c⟩ =>
        if off + n * e = c.len then
          ((c.sub off (n * e)).app xs).bind fun c' =>
            if room (n + m) bytes then
              some (.gsl h.length 0 (n + m) e mn, ((if o then reTip b h.length h else h).set b ⟨.old h.length, c⟩) ++ [⟨.tip true, c'⟩], [b])
            else none
        else none
      | _ => none
    else none
  | _ => none

def strCells (s : ByteArray) : ACells := .ints .u8 (s.data.toList.map fun b => (b.toNat : Int))

/-- Calls: what a function answers, the heap, which elder blocks it has changed. -/
abbrev CallT := Nat → List AV → AHeap → Option (AV × AHeap × List Nat)

def aop (call : CallT) (o : MOp) (a : Acts) (h : AHeap) : Option (AV × AHeap × List Nat) :=
  match o with
  | .mv x => (aeval a x).map fun v => (v, h, [])
  | .pick c x y => (aeval a c).bind fun c => match c with
    | .bool true => (aeval a x).map fun v => (v, h, [])
    | .bool false => (aeval a y).map fun v => (v, h, [])
    | _ => none
  | .bin op e x y => (aeval a x).bind fun x => (aeval a y).bind fun y => (abin op e x y).map fun v => (v, h, [])
  | .un op x => (aeval a x).bind fun x => (aun op x).map fun v => (v, h, [])
  | .ci k x => (aeval a x).bind fun x => match x with
    | .int _ n => some (.int k (k.wrap n), h, [])
    | _ => none
  | .cid x => (aeval a x).bind fun x => match x with
    | .str s => some (.str s, h, [])
    | _ => none
  | .cstr x => (aeval a x).bind fun x => match x with
    | .nils => some (.str ByteArray.empty, h, [])
    | x => (sliceCells h 1 x).bind fun c => (bytesOf c).map fun s => (.str s, h, [])
  | .ld agg x => (aeval a x).bind fun x => match x with
    | .ptr b off => (cellsAt h b).bind fun c => (loadA c off agg).map fun v => (v, h, [])
    | _ => none
  | .st n p x => (aeval a p).bind fun p => (aeval a x).bind fun x => match p with
    | .ptr b off => if x.cells.length = n then (change h b fun c => storeL c off x.cells).map fun h' => (.any, h', [b]) else none
    | _ => none
  | .fa off x => (aeval a x).bind fun x => match x with
    | .ptr b o => some (.ptr b (o + off), h, [])
    | _ => none
  | .fld off agg x => (aeval a x).bind fun x => match x with
    | .agg cs => (apart cs off agg).map fun v => (v, h, [])
    | _ => none
  | .ixa len esz agg x i => (aeval a x).bind fun x => (aeval a i).bind fun i => (asN i).bind fun i => match x with
    | .agg cs => if i < len then (apart cs (i * esz) agg).map fun v => (v, h, []) else none
    | _ => none
  | .ixs x i => (aeval a x).bind fun x => (aeval a i).bind fun i => (asN i).bind fun i => match x with
    | .str s => (s.data.toList[i]?).map fun b => (.int .u8 b.toNat, h, [])
    | _ => none
  | .ia arr esz x i => (aeval a x).bind fun x => (aeval a i).bind fun i => (asN i).bind fun i => match arr, x with
    | some len, .ptr b o => if i < len then some (.ptr b (o + i * esz), h, []) else none
    | none, .sl b o n _ => if i < n then some (.ptr b (o + i * esz), h, []) else none
    | none, .gsl b o n e _ => if e = esz ∧ i < n then some (.ptr b (o + i * esz), h, []) else none
    | _, _ => none
  | .slc arr esz x lo hi mx => (aeval a x).bind fun x => (optN a lo).bind fun lo => (optN a hi).bind fun hi => (optN a mx).bind fun mx =>
    match arr, x with
    | some len, .ptr b o => (match mx with | none => bounds len len lo hi | some m => if m ≤ len then bounds len m lo hi else none).map fun (l, u) => (.sl b (o + l * esz) (u - l) (mx.getD len - l), h, [])
    | none, .nils => (bounds 0 0 lo hi).bind fun _ => match mx with | none => some (.nils, h, []) | some m => if m = 0 then some (.nils, h, []) else none
    | none, .sl b o n c => (match mx with | none => bounds n c lo hi | some m => if m ≤ c then bounds n m lo hi else none).map fun (l, u) => (.sl b (o + l * esz) (u - l) (mx.getD c - l), h, [])
    | none, .gsl b o n e mn => if e = esz then match mx with
        | none => (bounds n n lo hi).map fun (l, u) => (.gsl b (o + l * esz) (u - l) e mn, h, [])
        | some m => if m ≤ n ∧ mn = false then (bounds n m lo hi).map fun (l, u) => (.sl b (o + l * esz) (u - l) (m - l), h, []) else none
      else none
    | _, _ => none
  | .slstr x lo hi => (aeval a x).bind fun x => (optN a lo).bind fun lo => (optN a hi).bind fun hi => match x with
    | .str s => (bounds s.size s.size lo hi).map fun (l, u) => (.str (s.extract l u), h, [])
    | _ => none
  | .al z => some (.ptr h.length 0, h ++ [.new z], [])
  | .bx ik n x => (aeval a x).bind fun x => (mkCells ik x.cells).bind fun c => if x.cells.length = n then some (.ptr h.length 0, h ++ [.new c], []) else none
  | .bld z parts => (partsOf a parts).bind fun ps => (fillA z ps).map fun cs => (.agg cs, h, [])
  | .bsl z len esz parts => (partsOf a parts).bind fun ps => (fillC (repl z len) ps).bind fun c => if z.len = esz then some (.sl h.length 0 len len, h ++ [.new c], []) else none
  | .mf f caps => (aevals a caps).map fun vs => (.fn f vs, h, [])
  | .mks z bytes len cap => (aeval a len).bind fun l => (asN l).bind fun l => (aeval a cap).bind fun c => (asN c).bind fun c =>
      if l ≤ c ∧ bytes * c ≤ 281474976710656 ∧ c < 9223372036854775808 then some (.sl h.length 0 l c, h ++ [.new (repl z c)], []) else none
  | .ex i x => (aeval a x).bind fun x => match x with
    | .tup vs => (vs[i]?).map fun v => (v, h, [])
    | _ => none
  | .nc x => (aeval a x).bind fun x => match x with
    | .ptr b o => some (.ptr b o, h, [])
    | .fn f cs => some (.fn f cs, h, [])
    | _ => none
  | .call f xs => (aevals a xs).bind fun vs => call f vs h
  | .calld x xs => (aeval a x).bind fun x => (aevals a xs).bind fun vs => match x with
    | .fn f caps => call f (vs ++ caps) h
    | _ => none
  | .len arr x => (aeval a x).bind fun x => match arr, x with
    | some n, _ => some (.int .i64 n, h, [])
    | none, x => (slen x).map fun (n : Nat) => (AV.int .i64 (n : Int), h, [])
  | .lens x => (aeval a x).bind fun x => match x with
    | .str s => some (.int .i64 s.size, h, [])
    | _ => none
  | .mnx mx xs => (aevals a xs).bind fun vs => match vs with
    | [] => none
    | v :: vs => (aminmax mx v vs).map fun v => (v, h, [])
  | .app z bytes s x => (aeval a s).bind fun s => (aeval a x).bind fun x => (newCells h z x).bind fun xs => (slen x).bind fun m => aappend h z bytes s xs m
  | .appz z bytes s x => (aeval a s).bind fun s => (aeval a x).bind fun x => match x with
    | .int .i64 n => if 0 ≤ n ∧ n * bytes ≤ 281474976710656 then aappend h z bytes s (repl z n.toNat) n.toNat else none
    | _ => none
  | .bad => none
  | .cpy esz d s => (aeval a d).bind fun d => (aeval a s).bind fun s => (slen d).bind fun n => match s with
    | .str s =>
        (match d with
          | .sl b off _ _ => if esz = 1 then (change h b fun c => storeL c off (strCells (s.extract 0 (min s.size n))).list).map fun h' => (.int .i64 (min s.size n : Nat), h', [b]) else none
          | _ => none)
    | s => (slen s).bind fun m => (sliceCells h esz s).bind fun c =>
        (match d with
          | .sl b off _ _ => (change h b fun d => storeL d off (c.sub 0 (min m n * esz)).list).map fun h' => (.int .i64 (min m n : Nat), h', [b])
          | _ => none)

def wadd (base : Nat) (ws new : List Nat) : List Nat := new.foldl (fun ws b => if b < base ∧ b ∉ ws then ws ++ [b] else ws) ws

def putA (a : Acts) (d : Option Nat) (v : AV) : Acts :=
  match d with
  | some d => (d, v) :: a
  | none => a

def guardOf (a : Acts) : Option (Nat × Bool) → Option Bool
  | none => some true
  | some (t, b) => match look a t with
    | some (.bool x) => some (x == b)
    | some (.tup []) => some false
    | _ => none

def aoper (call : CallT) (o : MOper) (a : Acts) (h : AHeap) : Option (AV × AHeap × List Nat) :=
  (guardOf a o.guard).bind fun
    | true => aop call o.op a h
    | false => some (.tup [], h, [])

def aops (call : CallT) (base : Nat) : List MOper → Acts → AHeap → List Nat → Option (Acts × AHeap × List Nat)
  | [], a, h, ws => some (a, h, ws)
  | o :: os, a, h, ws => (aoper call o a h).bind fun (v, h', ws') => aops call base os (putA a o.dst v) h' (wadd base ws ws')

inductive AExit where
  | normal
  | exit (id : Nat)
  | ret
  | goto (l : Nat)
  deriving Inhabited

abbrev AOut := AExit × Acts × AHeap × List Nat

def keepA (keep : List Nat) (a : Acts) : Acts := keep.filterMap fun t => (look a t).map fun v => (t, v)

/-- Which block an operation reads. -/
def readB (o : MOp) (a : Acts) : Option Nat :=
  match o with
  | .ld _ x => match aeval a x with
    | some (.ptr b _) => some b
    | _ => none
  | .cstr x => match aeval a x with
    | some (.sl b _ _ _) => some b
    | some (.gsl b _ _ _ _) => some b
    | _ => none
  | _ => none

structure Rec where
  rb : Option Nat
  st : Bool
  ws : List Nat
  lo : Nat
  hi : Nat

def faceOk (h : AHeap) (b : Nat) : Bool :=
  match h[b]? with
  | some ⟨.ext, _⟩ => true
  | some ⟨.tip _, _⟩ => true
  | _ => false

def recOf (o : MOper) (a : Acts) (h : AHeap) (ws : List Nat) (hi : Nat) : Rec :=
  if guardOf a o.guard = some true then
    match readB o.op a with
    | some b => ⟨some b, faceOk h b, ws, h.length, hi⟩
    | none => ⟨none, true, ws, h.length, hi⟩
  else ⟨none, true, [], h.length, h.length⟩

def aopsR (call : CallT) (base : Nat) : List (Nat × MOper) → Acts → AHeap → List Nat → List Rec → Option (Acts × AHeap × List Nat × List Rec)
  | [], a, h, ws, rs => some (a, h, ws, rs)
  | (_, o) :: os, a, h, ws, rs => (aoper call o a h).bind fun (v, h', ws') =>
    aopsR call base os (putA a o.dst v) h' (wadd base ws ws') (rs ++ [recOf o a h ws' h'.length])

/-- Of each pair (a read, what may come ahead of it or behind it): the one doesn't touch what the other reads. -/
def apartR (rs : List Rec) (un : List (Nat × Nat)) : Bool :=
  un.all fun (j, q) => match rs[j]?, rs[q]? with
    | some r, some s => match r.rb with
      | some b => r.st && !s.ws.contains b && !(decide (s.lo ≤ b) && decide (b < s.hi))
      | none => true
    | _, _ => false

def iter (step : Acts → AHeap → List Nat → Option AOut) (keep : List Nat) : Nat → Acts → AHeap → List Nat → Option AOut
  | 0, _, _, _ => none
  | n + 1, a, h, ws => (step (keepA keep a) h ws).bind fun
    | (.normal, a', h', ws') => iter step keep n a' h' ws'
    | r => some r

/-- A scope with two labels: what comes of jumps. -/
def giter (s1 s2 : Acts → AHeap → List Nat → Option AOut) (keep : List Nat) (l1 l2 : Nat) : Nat → Option AOut → Option AOut
  | 0, _ => none
  | n + 1, o => o.bind fun
    | (.goto l, a, h, ws) => if l = l1 then giter s1 s2 keep l1 l2 n (s1 (keepA keep a) h ws) else if l = l2 then giter s1 s2 keep l1 l2 n (s2 (keepA keep a) h ws) else none
    | r => some r

def aexec (call : CallT) (base n : Nat) : MCode → Acts → AHeap → List Nat → Option AOut
  | .skip, a, h, ws => some (.normal, a, h, ws)
  | .reg ops, a, h, ws => (aops call base ops a h ws).map fun (a, h, ws) => (.normal, a, h, ws)
  | .regd ops un, a, h, ws => (aopsR call base ops a h ws []).bind fun (a, h, ws, rs) => if apartR rs un then some (.normal, a, h, ws) else none
  | .seq x y, a, h, ws => (aexec call base n x a h ws).bind fun
    | (.normal, a, h, ws) => aexec call base n y a h ws
    | r => some r
  | .cond c x y, a, h, ws => (aeval a c).bind fun
    | .bool true => aexec call base n x a h ws
    | .bool false => aexec call base n y a h ws
    | _ => none
  | .block id keep body, a, h, ws => (aexec call base n body a h ws).bind fun
    | (.normal, a, h, ws) => some (.normal, keepA keep a, h, ws)
    | (.exit id', a, h, ws) => if id' = id then some (.normal, keepA keep a, h, ws) else some (.exit id', a, h, ws)
    | r => some r
  | .loop keep body, a, h, ws => iter (aexec call base n body) keep n a h ws
  | .exit id, a, h, ws => some (.exit id, a, h, ws)
  | .ret, a, h, ws => some (.ret, a, h, ws)
  | .goto l, a, h, ws => some (.goto l, a, h, ws)
  | .scope keep l1 r1 l2 r2 body, a, h, ws => giter (aexec call base n r1) (aexec call base n r2) keep l1 l2 n (aexec call base n body a h ws)

def ares1 (a : Acts) (h : AHeap) : MRes → Option AV
  | .tmp t => aeval a (.t t)
  | .cell t agg => (aop (fun _ _ _ => none) (.ld agg (.t t)) a h).map (·.1)

def aresL (a : Acts) (h : AHeap) : List MRes → Option (List AV)
  | [] => some []
  | r :: rs => (ares1 a h r).bind fun v => (aresL a h rs).map (v :: ·)

def ares (a : Acts) (h : AHeap) (rs : List MRes) : Option AV :=
  (aresL a h rs).map fun vs => match vs with
    | [v] => v
    | vs => .tup vs

def argsA (i : Nat) : List AV → Acts
  | [] => []
  | v :: vs => (i, v) :: argsA (i + 1) vs

/-- A function's body on a heap. -/
def abody (call : CallT) (n : Nat) (m : MFunc) (args : List AV) (h : AHeap) : Option (AV × AHeap × List Nat) :=
  (aexec call h.length n m.body (argsA 0 args) h []).bind fun
    | (.exit _, _, _, _) => none
    | (.goto _, _, _, _) => none
    | (_, a, h', ws) => (ares a h' m.res).map fun v => (v, h', ws)

def oldIn (len : Nat) (x : ABlk) : Bool :=
  match x.st with
  | .old t => decide (t < len)
  | _ => true

/-- What was made within a call falls away, if nothing that stays leads there. -/
def trimR (len : Nat) (r : AV × AHeap × List Nat) : AV × AHeap × List Nat :=
  if r.1.lt len && r.2.2.all (fun b => match r.2.1[b]? with
      | some x => x.c.lt len
      | none => false) && (r.2.1.take len).all (oldIn len)
  then (r.1, r.2.1.take len, r.2.2) else r

mutual
def AV.shift (G d : Nat) : AV → AV
  | .ptr b o => .ptr (b + d - G) o
  | .sl b o n c => .sl (b + d - G) o n c
  | .gsl b o n e mn => .gsl (b + d - G) o n e mn
  | .fn f cs => .fn f (AV.shifts G d cs)
  | .agg cs => .agg (AV.shifts G d cs)
  | .tup cs => .tup (AV.shifts G d cs)
  | v => v
def AV.shifts (G d : Nat) : List AV → List AV
  | [] => []
  | x :: xs => AV.shift G d x :: AV.shifts G d xs
end

structure Cfg where
  mp : Nat → Option MFunc
  gl : AHeap
  prim : Nat → List AV → AHeap → Option (Option (AV × AHeap × List Nat))

def acall (C : Cfg) : Nat → CallT
  | 0, _, _, _ => none
  | n + 1, f, args, h =>
    match C.prim f args h with
    | some r => r
    | none =>
      match C.mp f with
      | none => none
      | some m =>
        if AV.lts 0 args then
          (abody (acall C n) n m args C.gl).bind fun (v, h', ws) =>
            if AV.lt 0 v then some (v, h, [])
            else (abody (acall C n) n m args h).map fun r => if m.trim then trimR h.length r else r
        else (abody (acall C n) n m args h).map fun r => if m.trim then trimR h.length r else r

end Go.Proofs.YtdpbbagllhfjbaaDoorW.AI
/-! What an abstract heap says of the world. -/
namespace Go.Proofs.YtdpbbagllhfjbaaDoorW.AI
open Go
set_option linter.unusedVariables false
set_option linter.unusedSimpArgs false

structure Env where
  blk : Nat → Nat
  base : Nat → Nat
  sz : Nat → Nat

def Env.addr (ρ : Env) (b off : Nat) : Addr := ⟨ρ.blk b, ρ.base b + off, none⟩

mutual
def R (ρ : Env) : AV → Value → Prop
  | .int k n, v => v = .int k n
  | .bool b, v => v = .bool b
  | .str s, v => v = .string s
  | .nilp, v => v = .pointer none
  | .ptr b o, v => v = .pointer (some (ρ.addr b o))
  | .nils, v => v = .slice none 0 0
  | .sl b o n c, v => ∃ q, v = .slice (some q) n c ∧ (c ≠ 0 → q = ⟨ρ.blk b, ρ.base b + o, none⟩) ∧ n ≤ c
  | .gsl b o n e mn, v => (∃ q c, v = .slice (some ⟨ρ.blk b, q, none⟩) n c ∧ n ≤ c ∧ (c ≠ 0 → q = ρ.base b + o ∧ o + c * e ≤ ρ.sz b)) ∨ (mn = true ∧ n = 0 ∧ v = .slice none 0 0)
  | .nilf, v => v = .nilFunc
  | .fn f cs, v => ∃ vs, v = .func (.func f) #[] vs ∧ Rs ρ cs vs.toList
  | .agg cs, v => ∃ vs, v = .agg vs ∧ Rs ρ cs vs.toList
  | .tup cs, v => ∃ vs, v = .tuple vs ∧ Rs ρ cs vs.toList
  | .any, _ => True
def Rs (ρ : Env) : List AV → List Value → Prop
  | [], l => l = []
  | x :: xs, l => ∃ v vs, l = v :: vs ∧ R ρ x v ∧ Rs ρ xs vs
end

def Agree (n : Nat) (ρ ρ' : Env) : Prop := ∀ i, i < n → ρ'.blk i = ρ.blk i ∧ ρ'.base i = ρ.base i ∧ ρ'.sz i = ρ.sz i

theorem Agree.refl (n : Nat) (ρ : Env) : Agree n ρ ρ := fun _ _ => ⟨rfl, rfl, rfl⟩
theorem Agree.trans {n m : Nat} {a b c : Env} (h : Agree n a b) (k : Agree m b c) (hm : n ≤ m) : Agree n a c :=
  fun i hi => ⟨(k i (by omega)).1.trans (h i hi).1, (k i (by omega)).2.1.trans (h i hi).2.1, (k i (by omega)).2.2.trans (h i hi).2.2⟩
theorem Agree.mono {n m : Nat} {a b : Env} (h : Agree n a b) (hm : m ≤ n) : Agree m a b := fun i hi => h i (by omega)

mutual
theorem R_agree {n : Nat} {ρ ρ' : Env} (h : Agree n ρ ρ') : ∀ (a : AV) (v : Value), a.lt n = true → R ρ a v → R ρ' a v
  | .int k m, v, _, hr => hr
  | .bool b, v, _, hr => hr
  | .str s, v, _, hr => hr
  | .nilp, v, _, hr => hr
  | .ptr b o, v, hl, hr => by
    simp only [AV.lt, decide_eq_true_eq] at hl
    obtain ⟨h1, h2, h3⟩ := h b hl
    simp only [R, Env.addr] at hr ⊢
    rw [h1, h2]; exact hr
  | .nils, v, _, hr => hr
  | .sl b o m c, v, hl, hr => by
    simp only [AV.lt, decide_eq_true_eq] at hl
    obtain ⟨h1, h2, h3⟩ := h b hl
    simp only [R] at hr ⊢
    rw [h1, h2]; exact hr
  | .gsl b o m e mn, v, hl, hr => by
    simp only [AV.lt, decide_eq_true_eq] at hl
    obtain ⟨h1, h2, h3⟩ := h b hl
    simp only [R] at hr ⊢
    rw [h1, h2, h3]; exact hr
  | .nilf, v, _, hr => hr
  | .fn f cs, v, hl, hr => by
    simp only [R] at hr ⊢
    obtain ⟨vs, e, hr⟩ := hr
    exact ⟨vs, e, Rs_agree h cs vs.toList (by simpa [AV.lt] using hl) hr⟩
  | .agg cs, v, hl, hr => by
    simp only [R] at hr ⊢
    obtain ⟨vs, e, hr⟩ := hr
    exact ⟨vs, e, Rs_agree h cs vs.toList (by simpa [AV.lt] using hl) hr⟩
  | .tup cs, v, hl, hr => by
    simp only [R] at hr ⊢
    obtain ⟨vs, e, hr⟩ := hr
    exact ⟨vs, e, Rs_agree h cs vs.toList (by simpa [AV.lt] using hl) hr⟩
  | .any, v, _, _ => by simp only [R]
theorem Rs_agree {n : Nat} {ρ ρ' : Env} (h : Agree n ρ ρ') : ∀ (as : List AV) (vs : List Value), AV.lts n as = true → Rs ρ as vs → Rs ρ' as vs
  | [], vs, _, hr => by simpa only [Rs] using hr
  | x :: xs, vs, hl, hr => by
    simp only [Rs] at hr ⊢
    simp only [AV.lts, Bool.and_eq_true] at hl
    obtain ⟨v, ws, rfl, h1, h2⟩ := hr
    exact ⟨v, ws, rfl, R_agree h x v hl.1 h1, Rs_agree h xs ws hl.2 h2⟩
end

mutual
theorem AV.lt_mono {n m : Nat} (h : n ≤ m) : ∀ a : AV, a.lt n = true → a.lt m = true
  | .int .., _ => rfl
  | .bool .., _ => rfl
  | .str .., _ => rfl
  | .nilp, _ => rfl
  | .ptr b o, hl => by simp only [AV.lt, decide_eq_true_eq] at hl ⊢; omega
  | .nils, _ => rfl
  | .sl .., hl => by simp only [AV.lt, decide_eq_true_eq] at hl ⊢; omega
  | .gsl .., hl => by simp only [AV.lt, decide_eq_true_eq] at hl ⊢; omega
  | .nilf, _ => rfl
  | .fn f cs, hl => by simp only [AV.lt] at hl ⊢; exact AV.lts_mono h cs hl
  | .agg cs, hl => by simp only [AV.lt] at hl ⊢; exact AV.lts_mono h cs hl
  | .tup cs, hl => by simp only [AV.lt] at hl ⊢; exact AV.lts_mono h cs hl
  | .any, _ => rfl
theorem AV.lts_mono {n m : Nat} (h : n ≤ m) : ∀ as : List AV, AV.lts n as = true → AV.lts m as = true
  | [], _ => rfl
  | x :: xs, hl => by
    simp only [AV.lts, Bool.and_eq_true] at hl ⊢
    exact ⟨AV.lt_mono h x hl.1, AV.lts_mono h xs hl.2⟩
end

theorem AV.lts_iff {n : Nat} : ∀ {as : List AV}, AV.lts n as = true ↔ ∀ x ∈ as, x.lt n = true
  | [] => by simp [AV.lts]
  | x :: xs => by simp [AV.lts, AV.lts_iff (as := xs)]

theorem Rs_length {ρ : Env} : ∀ {as : List AV} {vs : List Value}, Rs ρ as vs → as.length = vs.length
  | [], vs, h => by simp only [Rs] at h; simp [h]
  | x :: xs, vs, h => by
    simp only [Rs] at h
    obtain ⟨v, ws, rfl, _, h2⟩ := h
    simp [Rs_length h2]

theorem Rs_get {ρ : Env} : ∀ {as : List AV} {vs : List Value} {i : Nat} {a : AV}, Rs ρ as vs → as[i]? = some a → ∃ v, vs[i]? = some v ∧ R ρ a v
  | [], _, _, _, _, h => by simp at h
  | x :: xs, vs, i, a, h, hi => by
    simp only [Rs] at h
    obtain ⟨v, ws, rfl, h1, h2⟩ := h
    cases i with
    | zero => simp at hi; subst hi; exact ⟨v, rfl, h1⟩
    | succ i => simpa using Rs_get h2 (by simpa using hi)

theorem Rs_of_get {ρ : Env} : ∀ {as : List AV} {vs : List Value}, as.length = vs.length → (∀ (i : Nat) (a : AV) (v : Value), as[i]? = some a → vs[i]? = some v → R ρ a v) → Rs ρ as vs
  | [], [], _, _ => rfl
  | [], _ :: _, h, _ => by simp at h
  | _ :: _, [], h, _ => by simp at h
  | x :: xs, v :: vs, h, hg => by
    simp only [Rs]
    exact ⟨v, vs, rfl, hg 0 x v rfl rfl, Rs_of_get (by simpa using h) fun i a u ha hu => hg (i + 1) a u (by simpa using ha) (by simpa using hu)⟩

theorem Rs_append {ρ : Env} : ∀ {as bs : List AV} {vs ws : List Value}, Rs ρ as vs → Rs ρ bs ws → Rs ρ (as ++ bs) (vs ++ ws)
  | [], bs, vs, ws, h, k => by simp only [Rs] at h; subst h; simpa using k
  | x :: xs, bs, vs, ws, h, k => by
    simp only [Rs] at h
    obtain ⟨v, us, rfl, h1, h2⟩ := h
    simp only [List.cons_append, Rs]
    exact ⟨v, us ++ ws, rfl, h1, Rs_append h2 k⟩

theorem Rs_drop {ρ : Env} : ∀ {as : List AV} {vs : List Value} (n : Nat), Rs ρ as vs → Rs ρ (as.drop n) (vs.drop n)
  | [], vs, n, h => by simp only [Rs] at h; subst h; simp [Rs]
  | x :: xs, vs, 0, h => h
  | x :: xs, vs, n + 1, h => by
    simp only [Rs] at h
    obtain ⟨v, us, rfl, h1, h2⟩ := h
    exact Rs_drop n h2

theorem Rs_take {ρ : Env} : ∀ {as : List AV} {vs : List Value} (n : Nat), Rs ρ as vs → Rs ρ (as.take n) (vs.take n)
  | [], vs, n, h => by simp only [Rs] at h; subst h; simp [Rs]
  | x :: xs, vs, 0, h => by simp [Rs]
  | x :: xs, vs, n + 1, h => by
    simp only [Rs] at h
    obtain ⟨v, us, rfl, h1, h2⟩ := h
    simp only [List.take_succ_cons, Rs]
    exact ⟨v, us.take n, rfl, h1, Rs_take n h2⟩

/-- A value of one cell, in its two forms. -/
theorem R_oneCell {ρ : Env} {a : AV} {v : Value} (h : R ρ a v) (hc : a.isCell = true) : v.oneCell' = true := by
  cases a <;> simp only [AV.isCell, Bool.false_eq_true] at hc <;> simp only [R] at h
  all_goals first
    | (subst h; rfl)
    | (obtain ⟨q, rfl, _⟩ := h; rfl)
    | (rcases h with ⟨q, c, rfl, _⟩ | ⟨_, _, rfl⟩ <;> rfl)

theorem R_cells {ρ : Env} {a : AV} {v : Value} (h : R ρ a v) (hc : ∀ x ∈ a.cells, x.isCell = true) : Rs ρ a.cells v.cells.toList := by
  cases a with
  | agg cs => simp only [R] at h; obtain ⟨vs, rfl, h⟩ := h; exact h
  | tup vs => simp [AV.cells, AV.isCell] at hc
  | any => simp [AV.cells, AV.isCell] at hc
  | _ =>
    have h1 := R_oneCell h rfl
    have : v.cells = #[v] := by cases v <;> simp [Value.oneCell', Value.cells] at h1 ⊢
    simp only [AV.cells, this, Rs]
    exact ⟨v, [], rfl, h, rfl⟩

-- ------------------------------------------------------------------ heaps

/-- Block i of an abstract heap lies in the world. -/
def Lies (ρ : Env) (i : Nat) (c : ACells) (w : World) : Prop :=
  c.len ≤ ρ.sz i ∧ (ρ.sz i ≠ 0 → ∃ arr T fz, w.heap[ρ.blk i]? = some (.cells arr T fz) ∧ ρ.base i + ρ.sz i ≤ arr.size ∧
    ∀ j v, c.get? j = some v → ∃ y, arr[ρ.base i + j]? = some y ∧ R ρ v y)

structure Rep (B : Nat) (ρ : Env) (h : AHeap) (w : World) : Prop where
  wf : ∀ (i : Nat) (x : ABlk), h[i]? = some x → x.st ≠ .dead → x.c.lt h.length = true
  old : ∀ (i : Nat) (x : ABlk) (t : Nat), h[i]? = some x → x.st = .old t → t < h.length
  lies : ∀ (i : Nat) (x : ABlk), h[i]? = some x → x.st ≠ .dead → Lies ρ i x.c w
  own : ∀ (i : Nat) (x : ABlk) (o : Bool), h[i]? = some x → x.st = .tip o → ρ.sz i ≠ 0 → B ≤ ρ.blk i ∧ ∀ q, ρ.base i ≤ q → q < ρ.base i + ρ.sz i → w.frozen? ⟨ρ.blk i, q, none⟩ = false
  ext : ∀ (i : Nat) (x : ABlk), h[i]? = some x → x.st = .ext → ρ.sz i ≠ 0 → ρ.blk i < B
  sep : ∀ (i j : Nat) (x y : ABlk) (o : Bool), h[i]? = some x → h[j]? = some y → i ≠ j → x.st = .tip o → y.st ≠ .dead → ρ.sz i ≠ 0 → ρ.sz j ≠ 0 → ρ.blk i = ρ.blk j →
    o = true ∧ y.st = .old i ∧ ρ.base j + y.c.len ≤ ρ.base i + x.c.len

def Tips (ρ : Env) (h : AHeap) (x : Nat) : Prop := ∃ (i : Nat) (y : ABlk) (o : Bool), h[i]? = some y ∧ y.st = .tip o ∧ ρ.sz i ≠ 0 ∧ ρ.blk i = x

/-- What the call may have changed, in whatever face. -/
def Face (ρ : Env) (h : AHeap) (x : Nat) : Prop := ∃ (i : Nat) (y : ABlk), h[i]? = some y ∧ (y.st ≠ .dead ∧ y.st ≠ .ext) ∧ ρ.sz i ≠ 0 ∧ ρ.blk i = x

theorem Tips.face {ρ : Env} {h : AHeap} {x : Nat} (t : Tips ρ h x) : Face ρ h x := by
  obtain ⟨i, y, o, h1, h2, h3, h4⟩ := t
  exact ⟨i, y, h1, ⟨by rw [h2]; simp, by rw [h2]; simp⟩, h3, h4⟩

structure Fr (ρ : Env) (h : AHeap) (w : World) (ρ' : Env) (h' : AHeap) (w' : World) : Prop where
  os : w'.os = w.os
  tape : w'.tape = w.tape
  output : w'.output = w.output
  size : w.heap.size ≤ w'.heap.size
  keep : ∀ x, x < w.heap.size → ¬ Tips ρ h x → w'.heap[x]? = w.heap[x]?
  fresh : ∀ x, Tips ρ' h' x → w.heap.size ≤ x ∨ Tips ρ h x
  face : ∀ x, Face ρ' h' x → w.heap.size ≤ x ∨ Face ρ h x

theorem Fr.refl (ρ : Env) (h : AHeap) (w : World) : Fr ρ h w ρ h w := ⟨rfl, rfl, rfl, Nat.le_refl _, fun _ _ _ => rfl, fun _ h => Or.inr h, fun _ h => Or.inr h⟩

theorem Fr.trans {ρ ρ₁ ρ₂ : Env} {h h₁ h₂ : AHeap} {w w₁ w₂ : World} (a : Fr ρ h w ρ₁ h₁ w₁) (b : Fr ρ₁ h₁ w₁ ρ₂ h₂ w₂) : Fr ρ h w ρ₂ h₂ w₂ where
  os := b.os.trans a.os
  tape := b.tape.trans a.tape
  output := b.output.trans a.output
  size := Nat.le_trans a.size b.size
  keep x hx ht := by
    rw [b.keep x (Nat.lt_of_lt_of_le hx a.size) ?_, a.keep x hx ht]
    intro h1
    rcases a.fresh x h1 with h2 | h2
    · omega
    · exact ht h2
  fresh x hx := by
    rcases b.fresh x hx with h1 | h1
    · exact Or.inl (Nat.le_trans a.size h1)
    · exact a.fresh x h1
  face x hx := by
    rcases b.face x hx with h1 | h1
    · exact Or.inl (Nat.le_trans a.size h1)
    · exact a.face x h1

/-- All that is kept along a run: the heap, the globals' own heap, the base. -/
structure St (B : Nat) (ρg : Env) (gl : AHeap) (gid : Nat → Nat) (ρ : Env) (h : AHeap) (w : World) : Prop where
  rep : Rep B ρ h w
  grep : Rep B ρg gl w
  gext : ∀ (i : Nat) (x : ABlk), gl[i]? = some x → x.st = .ext ∨ x.st = .dead
  le : B ≤ w.heap.size
  pre : ∀ i, i < gl.length → i < h.length ∧ ρ.blk i = gid i ∧ ρ.base i = 0
  gpre : ∀ i, i < gl.length → ρg.blk i = gid i ∧ ρg.base i = 0

theorem World.frozen_of_block {w w' : World} {a : Addr} (h : w'.heap[a.block]? = w.heap[a.block]?) : w'.frozen? a = w.frozen? a := by
  simp only [World.frozen?, h]

/-- What lies below a base that nothing touched. -/
theorem Lies.same {ρ : Env} {i : Nat} {c : ACells} {w w' : World} (hl : Lies ρ i c w) (h : ρ.sz i ≠ 0 → w'.heap[ρ.blk i]? = w.heap[ρ.blk i]?) : Lies ρ i c w' :=
  ⟨hl.1, fun hz => by obtain ⟨arr, T, fz, h1, h2⟩ := hl.2 hz; exact ⟨arr, T, fz, by rw [h hz]; exact h1, h2⟩⟩

theorem Rep.same {B : Nat} {ρ : Env} {h : AHeap} {w w' : World} (r : Rep B ρ h w) (hs : ∀ (i : Nat) (x : ABlk), h[i]? = some x → x.st ≠ .dead → ρ.sz i ≠ 0 → w'.heap[ρ.blk i]? = w.heap[ρ.blk i]?) : Rep B ρ h w' where
  wf := r.wf
  old := r.old
  lies i x hi hd := (r.lies i x hi hd).same (hs i x hi hd)
  own i x o hi ht hz := ⟨(r.own i x o hi ht hz).1, fun q h1 h2 => by rw [World.frozen_of_block (hs i x hi (by rw [ht]; simp) hz)]; exact (r.own i x o hi ht hz).2 q h1 h2⟩
  ext := r.ext
  sep := r.sep

/-- The globals' heap lies on where the call's own blocks alone were touched. -/
theorem Rep.globals {B : Nat} {ρg ρ ρ' : Env} {gl h h' : AHeap} {w w' : World} (r : Rep B ρg gl w) (hg : ∀ (i : Nat) (x : ABlk), gl[i]? = some x → x.st = .ext ∨ x.st = .dead)
    (hr : Rep B ρ h w) (hB : B ≤ w.heap.size) (f : Fr ρ h w ρ' h' w') : Rep B ρg gl w' :=
  r.same fun i x hi hd hz => by
    have hlt := r.ext i x hi ((hg i x hi).resolve_right hd) hz
    refine f.keep _ (by omega) ?_
    rintro ⟨j, y, o, hj, ht, hz', e⟩
    have := (hr.own j y o hj ht hz').1
    omega

theorem ACells.lt_mono {n m : Nat} (h : n ≤ m) {c : ACells} (hc : c.lt n = true) : c.lt m = true := by
  cases c with
  | ints => rfl
  | vals l => simp only [ACells.lt, Bool.and_eq_true] at hc ⊢; exact ⟨AV.lts_mono h l hc.1, hc.2⟩

theorem ACells.get_lt {n : Nat} {c : ACells} (hc : c.lt n = true) {j : Nat} {v : AV} (h : c.get? j = some v) : v.lt n = true := by
  cases c with
  | ints k l => simp only [ACells.get?, Option.map_eq_some_iff] at h; obtain ⟨x, _, rfl⟩ := h; rfl
  | vals l => simp only [ACells.get?] at h; simp only [ACells.lt, Bool.and_eq_true] at hc; exact AV.lts_iff.1 hc.1 v (List.mem_of_getElem? h)

theorem ACells.get_some {c : ACells} {j : Nat} (h : j < c.len) : ∃ v, c.get? j = some v := by
  cases c with
  | ints k l => simp only [ACells.len] at h; exact ⟨_, by simp [ACells.get?, List.getElem?_eq_getElem h]; rfl⟩
  | vals l => simp only [ACells.len] at h; exact ⟨_, by simp [ACells.get?, List.getElem?_eq_getElem h]; rfl⟩

theorem ACells.get_none {c : ACells} {j : Nat} {v : AV} (h : c.get? j = some v) : j < c.len := by
  cases c with
  | ints k l => simp only [ACells.get?, Option.map_eq_some_iff] at h; obtain ⟨x, h, _⟩ := h; exact (List.getElem?_eq_some_iff.1 h).1
  | vals l => simp only [ACells.get?] at h; exact (List.getElem?_eq_some_iff.1 h).1

/-- A cell of a block is in the world. -/
theorem Lies.cell {ρ : Env} {i : Nat} {c : ACells} {w : World} (hl : Lies ρ i c w) {j : Nat} {v : AV} (h : c.get? j = some v) : ∃ y, w.cell? (ρ.addr i j) = some y ∧ R ρ v y := by
  have hj := ACells.get_none h
  have hz : ρ.sz i ≠ 0 := by have := hl.1; omega
  obtain ⟨arr, T, fz, h1, h2, h3⟩ := hl.2 hz
  obtain ⟨y, hy, hr⟩ := h3 j v h
  exact ⟨y, by simp only [World.cell?, Env.addr, h1, Option.isSome_none, Bool.false_eq_true, if_false, hy], hr⟩

theorem cellsAt_some {h : AHeap} {b : Nat} {c : ACells} (hc : cellsAt h b = some c) : ∃ x : ABlk, h[b]? = some x ∧ x.st ≠ .dead ∧ x.c = c := by
  unfold cellsAt at hc
  split at hc
  · cases hc
  · rename_i st c' hne he
    cases hc
    exact ⟨_, he, fun hd => hne hd, rfl⟩
  · cases hc

end Go.Proofs.YtdpbbagllhfjbaaDoorW.AI
/-! The checker; operations that only compute. -/
namespace Go.Proofs.YtdpbbagllhfjbaaDoorW.AI
open Go
set_option linter.unusedVariables false
set_option linter.unusedSimpArgs false

-- ------------------------------------------------------------------ the checker
mutual
def chkV : AV → Value → Bool
  | .int k n, .int k' m => decide (k = k') && decide (n = m)
  | .bool b, .bool c => b == c
  | .str s, .string t => s.data == t.data
  | .nilp, .pointer none => true
  | .nils, .slice none 0 0 => true
  | .nilf, .nilFunc => true
  | .agg cs, .agg vs => chkVs cs vs.toList
  | _, _ => false
def chkVs : List AV → List Value → Bool
  | [], [] => true
  | x :: xs, v :: vs => chkV x v && chkVs xs vs
  | _, _ => false
end

theorem chkV_nilp {v : Value} (h : chkV .nilp v = true) : v = .pointer none := by
  unfold chkV at h
  split at h <;> first | (cases h; done) | rfl | (simp at *; done)

theorem chkV_nils {v : Value} (h : chkV .nils v = true) : v = .slice none 0 0 := by
  unfold chkV at h
  split at h <;> first | (cases h; done) | rfl | (simp at *; done)

mutual
theorem chkV_R (ρ : Env) : ∀ (a : AV) (v : Value), chkV a v = true → R ρ a v
  | .int k n, v, h => by cases v <;> simp only [chkV, Bool.false_eq_true, Bool.and_eq_true, decide_eq_true_eq] at h; simp only [R]; rw [h.1, h.2]
  | .bool b, v, h => by cases v <;> simp only [chkV, Bool.false_eq_true, beq_iff_eq] at h; simp only [R]; rw [h]
  | .str s, v, h => by
    cases v <;> simp only [chkV, Bool.false_eq_true, beq_iff_eq] at h
    simp only [R]
    rename_i t
    cases s; cases t; simp only at h; rw [h]
  | .nilp, v, h => by simp only [R]; exact chkV_nilp h
  | .nils, v, h => by simp only [R]; exact chkV_nils h
  | .nilf, v, h => by cases v <;> simp only [chkV, Bool.false_eq_true] at h; rfl
  | .agg cs, v, h => by
    cases v <;> simp only [chkV, Bool.false_eq_true] at h
    rename_i vs
    simp only [R]
    exact ⟨vs, rfl, chkVs_R ρ cs vs.toList h⟩
  | .ptr .., v, h => by simp [chkV] at h
  | .sl .., v, h => by simp [chkV] at h
  | .gsl .., v, h => by simp [chkV] at h
  | .fn .., v, h => by simp [chkV] at h
  | .tup .., v, h => by simp [chkV] at h
  | .any, v, h => by simp [chkV] at h
theorem chkVs_R (ρ : Env) : ∀ (as : List AV) (vs : List Value), chkVs as vs = true → Rs ρ as vs
  | [], [], _ => rfl
  | [], _ :: _, h => by simp [chkVs] at h
  | _ :: _, [], h => by simp [chkVs] at h
  | x :: xs, v :: vs, h => by
    simp only [chkVs, Bool.and_eq_true] at h
    simp only [Rs]
    exact ⟨v, vs, rfl, chkV_R ρ x v h.1, chkVs_R ρ xs vs h.2⟩
end

mutual
theorem chkV_lt : ∀ (a : AV) (v : Value), chkV a v = true → a.lt 0 = true
  | .int .., v, h => rfl
  | .bool .., v, h => rfl
  | .str .., v, h => rfl
  | .nilp, v, h => rfl
  | .nils, v, h => rfl
  | .nilf, v, h => rfl
  | .agg cs, v, h => by
    cases v <;> simp only [chkV, Bool.false_eq_true] at h
    simp only [AV.lt]
    exact chkVs_lt _ _ h
  | .ptr .., v, h => by simp [chkV] at h
  | .sl .., v, h => by simp [chkV] at h
  | .gsl .., v, h => by simp [chkV] at h
  | .fn .., v, h => by simp [chkV] at h
  | .tup .., v, h => by simp [chkV] at h
  | .any, v, h => by simp [chkV] at h
theorem chkVs_lt : ∀ (as : List AV) (vs : List Value), chkVs as vs = true → AV.lts 0 as = true
  | [], [], _ => rfl
  | [], _ :: _, h => by simp [chkVs] at h
  | _ :: _, [], h => by simp [chkVs] at h
  | x :: xs, v :: vs, h => by
    simp only [chkVs, Bool.and_eq_true] at h
    simp only [AV.lts, Bool.and_eq_true]
    exact ⟨chkV_lt x v h.1, chkVs_lt xs vs h.2⟩
end

/-- What is fixed for one program: its types, how many globals have a face of their own, which. -/
structure Ctx where
  P : Program
  G : Nat
  gid : Nat → Nat

variable (X : Ctx)

def chkX : Operand → MX → Bool
  | .tmp t, .t i => t == i
  | .const v, .c a => chkV a v
  | .func f, .f g => f == g
  | .global g, .g i => decide (i < X.G) && X.gid i == g
  | _, _ => false

def chkXs : List Operand → List MX → Bool
  | [], [] => true
  | o :: os, x :: xs => chkX X o x && chkXs os xs
  | _, _ => false

def szIs (t n : Nat) : Bool := decide ((X.P.info? t).map (·.size) = some n)
def bytesIs (t n : Nat) : Bool := decide ((X.P.info? t).map (·.bytes) = some n)
def aggIs (t : Nat) (b : Bool) : Bool :=
  match X.P.underlying t with
  | some (.struct _) => b
  | some (.array _ _) => b
  | some _ => !b
  | none => false
def chkAgg (t : Nat) : Option Nat → Bool
  | none => aggIs X t false
  | some n => aggIs X t true && szIs X t n

structure AR (ρ : Env) (n nt : Nat) (a : Acts) (A : Act) : Prop where
  size : nt ≤ A.tmps.size
  defers : A.defers = []
  get : ∀ t v, look a t = some v → v.lt n = true ∧ R ρ v (A.tmps.getD t undef)

variable {X : Ctx}

theorem aeval_sound {ρ : Env} {n nt : Nat} {a : Acts} {A : Act} (ha : AR ρ n nt a A) (hp : ∀ i, i < X.G → i < n ∧ ρ.blk i = X.gid i ∧ ρ.base i = 0) {o : Operand} {x : MX} (hc : chkX X o x = true)
    {v : AV} (hv : aeval a x = some v) : v.lt n = true ∧ R ρ v (A.eval o) := by
  cases o <;> cases x <;> simp only [chkX, Bool.false_eq_true, beq_iff_eq] at hc
  · subst hc
    rename_i t
    simp only [aeval] at hv
    split at hv
    · cases hv
    · exact ha.get t v hv
  · simp only [aeval, Option.some.injEq] at hv
    subst hv
    exact ⟨AV.lt_mono (Nat.zero_le _) _ (chkV_lt _ _ hc), chkV_R ρ _ _ hc⟩
  · simp only [Bool.and_eq_true, decide_eq_true_eq, beq_iff_eq] at hc
    simp only [aeval, Option.some.injEq] at hv
    subst hv
    obtain ⟨h1, h2, h3⟩ := hp _ hc.1
    refine ⟨by simpa [AV.lt] using h1, ?_⟩
    simp only [R, Act.eval, Env.addr, h2, h3, hc.2]
  · subst hc
    simp only [aeval, Option.some.injEq] at hv
    subst hv
    exact ⟨rfl, by simp only [R, Act.eval]; exact ⟨#[], rfl, rfl⟩⟩

theorem aevals_sound {ρ : Env} {n nt : Nat} {a : Acts} {A : Act} (ha : AR ρ n nt a A) (hp : ∀ i, i < X.G → i < n ∧ ρ.blk i = X.gid i ∧ ρ.base i = 0) : ∀ {os : List Operand} {xs : List MX} (hc : chkXs X os xs = true)
    {vs : List AV} (hv : aevals a xs = some vs), AV.lts n vs = true ∧ Rs ρ vs (os.map A.eval)
  | [], [], _, vs, hv => by simp only [aevals, Option.some.injEq] at hv; subst hv; exact ⟨rfl, rfl⟩
  | [], _ :: _, hc, _, _ => by simp [chkXs] at hc
  | _ :: _, [], hc, _, _ => by simp [chkXs] at hc
  | o :: os, x :: xs, hc, vs, hv => by
    simp only [chkXs, Bool.and_eq_true] at hc
    simp only [aevals, Option.bind_eq_some_iff, Option.map_eq_some_iff] at hv
    obtain ⟨v, h1, ws, h2, rfl⟩ := hv
    have e1 := aeval_sound ha hp hc.1 h1
    have e2 := aevals_sound ha hp hc.2 h2
    simp only [AV.lts, Bool.and_eq_true, List.map_cons, Rs]
    exact ⟨⟨e1.1, e2.1⟩, _, _, rfl, e1.2, e2.2⟩

-- ------------------------------------------------------------------ numbers

theorem abinInt_sound {op : BinOp} {k k' : IntKind} {x y : Int} {r : AV} (h : abinInt op k x k' y = some r) (P : Program) (w : World) (t : Nat) :
    ∃ v, (binOp op t (.int k x) (.int k' y)).run P w = .ok v w ∧ ∀ ρ, R ρ r v := by
  cases op <;> simp only [abinInt] at h
  case shl =>
    split at h
    · cases h
    · rename_i hn
      simp only [Option.some.injEq] at h; subst h
      exact ⟨_, by simp only [binOp, Op.shift, if_neg hn]; rfl, fun _ => rfl⟩
  case shr =>
    split at h
    · cases h
    · rename_i hn
      simp only [Option.some.injEq] at h; subst h
      exact ⟨_, by simp only [binOp, Op.shift, if_neg hn]; rfl, fun _ => rfl⟩
  all_goals
    split at h
    · cases h
    · rename_i hk
      have hk : k = k' := by simpa using hk
      subst hk
      first
        | (simp only [Option.some.injEq] at h; subst h; exact ⟨_, by simp only [binOp, ne_eq, not_true, if_false]; rfl, fun _ => rfl⟩)
        | (split at h
           · cases h
           · rename_i hy
             simp only [Option.some.injEq] at h; subst h
             exact ⟨_, by simp only [binOp, ne_eq, not_true, if_false, Op.intDiv, if_neg hy]; rfl, fun _ => rfl⟩)

theorem abinStr_sound {op : BinOp} {x y : ByteArray} {r : AV} (h : abinStr op x y = some r) (P : Program) (w : World) (t : Nat) :
    ∃ v, (binOp op t (.string x) (.string y)).run P w = .ok v w ∧ ∀ ρ, R ρ r v := by
  cases op <;> simp only [abinStr] at h <;> first | (cases h; done) | skip
  case add =>
    split at h
    · rename_i hs
      simp only [Option.some.injEq] at h; subst h
      refine ⟨.string (x ++ y), ?_, fun _ => rfl⟩
      have : ¬ (((x.size + y.size : Nat) : Int) > IntKind.i64.max) := by
        show ¬ (((x.size + y.size : Nat) : Int) > 9223372036854775807); omega
      simp only [binOp, Op.stringOp, if_neg this]
      rfl
    · cases h
  all_goals (simp only [Option.some.injEq] at h; subst h; exact ⟨_, rfl, fun _ => rfl⟩)

theorem aun_sound {op : UnOp} {x r : AV} (h : aun op x = some r) {ρ : Env} {v : Value} (hx : R ρ x v) (P : Program) (w : World) :
    ∃ u, (Op.unary op v).run P w = .ok u w ∧ R ρ r u ∧ r.lt 0 = true := by
  cases op <;> cases x <;> simp only [aun] at h <;> first | (cases h; done) | skip
  all_goals
    simp only [Option.some.injEq] at h; subst h
    simp only [R] at hx; subst hx
    exact ⟨_, rfl, rfl, rfl⟩

theorem aminmax_sound {P : Program} {w : World} {mx : Bool} {ρ : Env} : ∀ {rest : List AV} {x r : AV} {v : Value} {vs : List Value}, aminmax mx x rest = some r → R ρ x v → Rs ρ rest vs →
    ∃ u, (vs.foldlM (if mx then Builtin.max2 else Builtin.min2) v).run P w = .ok u w ∧ R ρ r u ∧ (r = x ∨ r.lt 0 = true)
  | [], x, r, v, vs, h, hx, hr => by
    simp only [Rs] at hr; subst hr
    have h : x = r := by cases x <;> simpa [aminmax] using h
    subst h
    exact ⟨v, rfl, hx, Or.inl rfl⟩
  | y :: ys, x, r, v, vs, h, hx, hr => by
    simp only [Rs] at hr
    obtain ⟨u, us, rfl, hy, hr⟩ := hr
    cases x <;> cases y <;> simp only [aminmax] at h <;> first | (cases h; done) | skip
    rename_i k a k' b
    split at h
    · rename_i hk; subst hk
      simp only [R] at hx hy; subst hx; subst hy
      simp only [List.foldlM_cons, Sem.run_bind]
      obtain ⟨u', h1, h2, h3⟩ := aminmax_sound (P := P) (w := w) (v := .int k (if mx then (if b > a then b else a) else (if b < a then b else a))) h (by simp only [R]) hr
      refine ⟨u', ?_, h2, ?_⟩
      · cases mx
        · simp only [Bool.false_eq_true, if_false, Builtin.min2, Sem.run_pure, Result.andThen_ok] at h1 ⊢
          exact h1
        · simp only [if_true, Builtin.max2, Sem.run_pure, Result.andThen_ok] at h1 ⊢
          exact h1
      · rcases h3 with rfl | h3
        · exact Or.inr rfl
        · exact Or.inr h3
    · cases h

end Go.Proofs.YtdpbbagllhfjbaaDoorW.AI
/-! Memory: what loads, stores and new blocks do to an abstract heap's image. -/
namespace Go.Proofs.YtdpbbagllhfjbaaDoorW.AI
open Go
set_option linter.unusedVariables false
set_option linter.unusedSimpArgs false

theorem ACells.get_list (c : ACells) (j : Nat) : c.get? j = c.list[j]? := by
  cases c with
  | ints k l => simp [ACells.get?, ACells.list]
  | vals l => rfl

theorem ACells.len_list (c : ACells) : c.len = c.list.length := by
  cases c with
  | ints k l => simp [ACells.len, ACells.list]
  | vals l => rfl

/-- b is a, but for vs from off on. -/
def Splice {α : Type} (a b : List α) (off : Nat) (vs : List α) : Prop :=
  b.length = a.length ∧ (vs ≠ [] → off + vs.length ≤ a.length) ∧ ∀ j, b[j]? = if off ≤ j ∧ j < off + vs.length then vs[j - off]? else a[j]?

theorem Splice.nil {α : Type} (a : List α) (off : Nat) : Splice a a off [] := ⟨rfl, fun h => absurd rfl h, fun j => by rw [if_neg (by simp only [List.length_nil]; omega)]⟩

theorem Splice.cons {α : Type} {a b : List α} {off : Nat} {v : α} {vs : List α} (hoff : off < a.length) (h : Splice (a.set off v) b (off + 1) vs) : Splice a b off (v :: vs) := by
  obtain ⟨h1, h2, h3⟩ := h
  refine ⟨by simpa using h1, fun _ => ?_, fun j => ?_⟩
  · by_cases hv : vs = []
    · subst hv; simp; omega
    · have := h2 hv; simp at this ⊢; omega
  · rw [h3 j]
    by_cases hj : j = off
    · subst hj
      rw [if_neg (by omega), if_pos (by simp)]
      simp [List.getElem?_set, hoff]
    · by_cases h4 : off + 1 ≤ j ∧ j < off + 1 + vs.length
      · rw [if_pos h4, if_pos (by simp; omega)]
        obtain ⟨k, rfl⟩ : ∃ k, j = off + 1 + k := ⟨j - (off + 1), by omega⟩
        rw [show off + 1 + k - off = k + 1 from by omega, show off + 1 + k - (off + 1) = k from by omega]
        simp
      · rw [if_neg h4, if_neg (by simp; omega), List.getElem?_set_ne (by omega)]

theorem ACells.set_list {c c' : ACells} {i : Nat} {v : AV} (h : c.set? i v = some c') : c'.list = c.list.set i v ∧ i < c.list.length ∧ v.isCell = true := by
  cases c with
  | ints k l =>
    cases v <;> simp only [ACells.set?] at h <;> first | (cases h; done) | skip
    split at h
    · rename_i hk
      simp only [Option.some.injEq] at h; subst h
      obtain ⟨rfl, hi⟩ := hk
      exact ⟨by simp [ACells.list, List.map_set], by simpa [ACells.list] using hi, rfl⟩
    · cases h
  | vals l =>
    simp only [ACells.set?] at h
    split at h
    · rename_i hk
      simp only [Option.some.injEq] at h; subst h
      exact ⟨rfl, hk.1, hk.2⟩
    · cases h

theorem storeL_splice : ∀ {vs : List AV} {c c' : ACells} {off : Nat}, storeL c off vs = some c' → Splice c.list c'.list off vs ∧ ∀ v ∈ vs, v.isCell = true
  | [], c, c', off, h => by simp only [storeL, Option.some.injEq] at h; subst h; exact ⟨Splice.nil _ _, by simp⟩
  | v :: vs, c, c', off, h => by
    simp only [storeL, Option.bind_eq_some_iff] at h
    obtain ⟨c1, h1, h2⟩ := h
    obtain ⟨e1, e2, e3⟩ := ACells.set_list h1
    obtain ⟨s1, s2⟩ := storeL_splice h2
    rw [e1] at s1
    exact ⟨Splice.cons e2 s1, by simpa [e3] using s2⟩

theorem ACells.lt_list {n : Nat} {c : ACells} : c.lt n = true ↔ ∀ v ∈ c.list, v.lt n = true ∧ v.isCell = true := by
  cases c with
  | ints k l => simp [ACells.lt, ACells.list, AV.lt, AV.isCell]
  | vals l =>
    simp only [ACells.lt, ACells.list, Bool.and_eq_true, List.all_eq_true]
    exact ⟨fun h v hv => ⟨AV.lts_iff.1 h.1 v hv, h.2 v hv⟩, fun h => ⟨AV.lts_iff.2 fun v hv => (h v hv).1, fun v hv => (h v hv).2⟩⟩

theorem Splice.mem {α : Type} {a b : List α} {off : Nat} {vs : List α} (h : Splice a b off vs) {x : α} (hx : x ∈ b) : x ∈ a ∨ x ∈ vs := by
  obtain ⟨j, hj⟩ := List.mem_iff_getElem?.1 hx
  rw [h.2.2 j] at hj
  split at hj
  · exact Or.inr (List.mem_of_getElem? hj)
  · exact Or.inl (List.mem_of_getElem? hj)

theorem loadN_get : ∀ {n : Nat} {c : ACells} {off : Nat} {vs : List AV}, loadN c off n = some vs → vs.length = n ∧ ∀ j, j < n → vs[j]? = c.get? (off + j)
  | 0, c, off, vs, h => by simp only [loadN, Option.some.injEq] at h; subst h; exact ⟨rfl, fun j hj => by omega⟩
  | n + 1, c, off, vs, h => by
    simp only [loadN, Option.bind_eq_some_iff, Option.map_eq_some_iff] at h
    obtain ⟨v, h1, ws, h2, rfl⟩ := h
    obtain ⟨e1, e2⟩ := loadN_get h2
    refine ⟨by simp [e1], fun j hj => ?_⟩
    cases j with
    | zero => simp [h1]
    | succ j => simp only [List.getElem?_cons_succ]; rw [e2 j (by omega)]; congr 1; omega

-- ------------------------------------------------------------------ loads

theorem addr_add (b o n : Nat) : (⟨b, o, none⟩ : Addr).add n = ⟨b, o + n, none⟩ := by
  unfold Addr.add; split
  · rename_i h; subst h; rfl
  · rfl

theorem Env.addr_add (ρ : Env) (b o n : Nat) : (ρ.addr b o).add n = ρ.addr b (o + n) := by
  simp only [Env.addr, Go.Proofs.YtdpbbagllhfjbaaDoorW.AI.addr_add, Nat.add_assoc]

theorem run_load_cell {P : Program} {w : World} {a : Addr} {v : Value} (h : w.cell? a = some v) : (load a).run P w = .ok v w := by
  rw [run_load, h]

theorem run_loadFrom {P : Program} {w : World} {ρ : Env} {b off : Nat} : ∀ (n i : Nat) (vs : List Value) (acc : Array Value), vs.length = n → (∀ j v, vs[j]? = some v → w.cell? (ρ.addr b (off + i + j)) = some v) →
    (loadCellsFrom (ρ.addr b off) i n acc).run P w = .ok (acc ++ vs.toArray) w
  | 0, i, vs, acc, hl, hc => by
    have : vs = [] := List.eq_nil_of_length_eq_zero hl
    subst this
    simp [loadCellsFrom]
  | n + 1, i, [], acc, hl, hc => by simp at hl
  | n + 1, i, v :: vs, acc, hl, hc => by
    have h0 := hc 0 v rfl
    simp only [loadCellsFrom, Sem.run_bind, Env.addr_add]
    rw [run_load_cell (by simpa using h0)]
    simp only [Result.andThen_ok]
    rw [run_loadFrom n (i + 1) vs (acc.push v) (by simpa using hl) fun j u hj => by
      have := hc (j + 1) u (by simpa using hj)
      rw [← this]; congr 2; omega]
    simp

theorem run_loadCells_env {P : Program} {w : World} {ρ : Env} {b off : Nat} {n : Nat} {vs : List Value} (hl : vs.length = n) (hc : ∀ j v, vs[j]? = some v → w.cell? (ρ.addr b (off + j)) = some v) :
    (loadCells (ρ.addr b off) n).run P w = .ok vs.toArray w := by
  unfold loadCells
  rw [run_loadFrom n 0 vs #[] hl (by simpa using hc)]
  simp

theorem run_typeInfo' {P : Program} {w : World} {t : TypeId} {i : TypeInfo} (h : P.info? t = some i) : (typeInfo t).run P w = .ok i w := by
  simp [typeInfo, h]

theorem run_sizeOf' {P : Program} {w : World} {t n : Nat} (h : (P.info? t).map (·.size) = some n) : (sizeOf t).run P w = .ok n w := by
  rw [Option.map_eq_some_iff] at h
  obtain ⟨i, h1, rfl⟩ := h
  simp [sizeOf, run_typeInfo' h1]

theorem run_isAgg {X : Ctx} {w : World} {t : Nat} {b : Bool} (h : aggIs X t b = true) : (isAgg t).run X.P w = .ok b w := by
  unfold aggIs at h
  unfold isAgg
  split at h <;> rename_i hu
  · subst h; simp [run_underlying hu]
  · subst h; simp [run_underlying hu]
  · rename_i d h1 h2
    simp only [Bool.not_eq_true'] at h; subst h
    simp only [Sem.run_bind, run_underlying hu, Result.andThen_ok]
    cases d with
    | struct f => exact (h1 f rfl).elim
    | array n e => exact (h2 n e rfl).elim
    | _ => rfl
  · cases h

/-- A variable read: one cell, or all of an aggregate. -/
theorem run_loadVar_env {X : Ctx} {w : World} {ρ : Env} {b off : Nat} {c : ACells} (hl : Lies ρ b c w) {t : Nat} {agg : Option Nat} (ht : chkAgg X t agg = true)
    {v : AV} (hv : loadA c off agg = some v) : ∃ u, (loadVar t (ρ.addr b off)).run X.P w = .ok u w ∧ R ρ v u := by
  cases agg with
  | none =>
    simp only [chkAgg] at ht
    simp only [loadA] at hv
    obtain ⟨y, h1, h2⟩ := hl.cell hv
    exact ⟨y, by simp [loadVar, run_isAgg ht, h1], h2⟩
  | some n =>
    simp only [chkAgg, Bool.and_eq_true, szIs, decide_eq_true_eq] at ht
    simp only [loadA, Option.map_eq_some_iff] at hv
    obtain ⟨vs, h1, rfl⟩ := hv
    obtain ⟨e1, e2⟩ := loadN_get h1
    have key : ∀ m, m ≤ n → ∃ us : List Value, us.length = m ∧ ∀ j u, us[j]? = some u → w.cell? (ρ.addr b (off + j)) = some u ∧ ∃ a, vs[j]? = some a ∧ R ρ a u := by
      intro m
      induction m with
      | zero => exact fun _ => ⟨[], rfl, fun j u hj => by simp at hj⟩
      | succ m ih =>
        intro hm
        obtain ⟨us, hu1, hu2⟩ := ih (by omega)
        have hvm : ∃ a, vs[m]? = some a := ⟨vs[m]'(by omega), List.getElem?_eq_getElem (by omega)⟩
        obtain ⟨a, ha⟩ := hvm
        obtain ⟨y, h3, h4⟩ := hl.cell ((e2 m (by omega)).symm.trans ha)
        refine ⟨us ++ [y], by simp [hu1], fun j u hj => ?_⟩
        by_cases hjm : j < m
        · rw [List.getElem?_append_left (by omega)] at hj
          exact hu2 j u hj
        · have : j = m := by
            have := (List.getElem?_eq_some_iff.1 hj).1
            simp [hu1] at this; omega
          subst this
          rw [List.getElem?_append_right (by omega)] at hj
          simp [hu1] at hj
          subst hj
          exact ⟨h3, a, ha, h4⟩
    obtain ⟨us, hu1, hu2⟩ := key n (Nat.le_refl _)
    refine ⟨.agg us.toArray, ?_, ?_⟩
    · simp only [loadVar, Sem.run_bind, run_isAgg ht.1, Result.andThen_ok, if_true, run_sizeOf' ht.2, run_loadCells_env hu1 fun j u hj => (hu2 j u hj).1, Sem.run_pure]
    · simp only [R]
      refine ⟨us.toArray, rfl, ?_⟩
      simp only
      refine Rs_of_get (by omega) fun j a u ha hu => ?_
      obtain ⟨_, a', ha', hr⟩ := hu2 j u hu
      rw [ha] at ha'; cases ha'
      exact hr

-- ------------------------------------------------------------------ stores

def spliceA (arr : Array Value) (off : Nat) : List Value → Array Value
  | [] => arr
  | v :: vs => spliceA (arr.setIfInBounds off v) (off + 1) vs

theorem spliceA_spec : ∀ (vs : List Value) (arr : Array Value) (off : Nat), (vs ≠ [] → off + vs.length ≤ arr.size) → Splice arr.toList (spliceA arr off vs).toList off vs
  | [], arr, off, h => Splice.nil _ _
  | v :: vs, arr, off, h => by
    have h := h (by simp)
    simp only [List.length_cons] at h
    refine Splice.cons (by simp; omega) ?_
    have := spliceA_spec vs (arr.setIfInBounds off v) (off + 1) (fun _ => by simp; omega)
    simpa [spliceA] using this

def World.putBlk (w : World) (g : Nat) (o : Obj) : World := { w with heap := w.heap.setIfInBounds g o }

theorem setCell_putBlk {w : World} {g o : Nat} {arr : Array Value} {T : TypeId} {fz : Nat × Nat} (h : w.heap[g]? = some (.cells arr T fz)) (v : Value) :
    w.setCell ⟨g, o, none⟩ v = World.putBlk w g (.cells (arr.setIfInBounds o v) T fz) := by
  have hg : g < w.heap.size := (Array.getElem?_eq_some_iff.1 h).1
  have he : w.heap[g] = .cells arr T fz := (Array.getElem?_eq_some_iff.1 h).2
  simp only [World.setCell, World.putBlk]
  congr 1
  apply Array.ext_getElem?
  intro i
  rw [Array.getElem?_modify, Array.getElem?_setIfInBounds]
  by_cases e : g = i
  · subst e; simp [h, hg, he]
  · rw [if_neg e, if_neg e]

theorem putBlk_get {w : World} {g : Nat} {o : Obj} (hg : g < w.heap.size) : (World.putBlk w g o).heap[g]? = some o := by
  simp [World.putBlk, hg]

theorem putBlk_ne {w : World} {g x : Nat} {o : Obj} (hx : x ≠ g) : (World.putBlk w g o).heap[x]? = w.heap[x]? := by
  simp only [World.putBlk]
  rw [Array.getElem?_setIfInBounds_ne (Ne.symm hx)]

theorem putBlk_put {w : World} {g : Nat} {o o' : Obj} : World.putBlk (World.putBlk w g o) g o' = World.putBlk w g o' := by
  simp [World.putBlk]

theorem putBlk_self {w : World} {g : Nat} {o : Obj} (h : w.heap[g]? = some o) : World.putBlk w g o = w := by
  have hg : g < w.heap.size := (Array.getElem?_eq_some_iff.1 h).1
  have he : w.heap[g] = o := (Array.getElem?_eq_some_iff.1 h).2
  simp only [World.putBlk]
  have : w.heap.setIfInBounds g o = w.heap := by
    apply Array.ext_getElem?
    intro i
    rw [Array.getElem?_setIfInBounds]
    by_cases e : g = i
    · subst e; simp [h, hg, he]
    · rw [if_neg e]
  rw [this]

theorem run_storeCells_env {P : Program} {g : Nat} {T : TypeId} {fz : Nat × Nat} : ∀ (vs : List Value) (off i : Nat) (arr : Array Value) (w : World), w.heap[g]? = some (.cells arr T fz) → (vs ≠ [] → off + i + vs.length ≤ arr.size) →
    (∀ q, off + i ≤ q → q < off + i + vs.length → ¬ (fz.1 ≤ q ∧ q < fz.2)) → (∀ v ∈ vs, v.oneCell' = true) →
    (storeCells ⟨g, off, none⟩ vs i).run P w = .ok () (World.putBlk w g (.cells (spliceA arr (off + i) vs) T fz))
  | [], off, i, arr, w, h, hs, hf, ho => by
    simp [storeCells, spliceA, putBlk_self h]
  | v :: vs, off, i, arr, w, h, hs, hf, ho => by
    have hs := hs (by simp)
    simp only [List.length_cons] at hs hf
    have hc : w.cell? ⟨g, off + i, none⟩ = some (arr[off + i]'(by omega)) := by
      simp [World.cell?, h, Array.getElem?_eq_getElem (show off + i < arr.size by omega)]
    have hz : w.frozen? ⟨g, off + i, none⟩ = false := by
      have := hf (off + i) (by omega) (by omega)
      simp only [World.frozen?, h]
      simpa using this
    simp only [storeCells, Sem.run_bind, addr_add]
    rw [run_store P w _ v _ (ho v (by simp)), hc]
    simp only [hz, Bool.false_eq_true, if_false, Result.andThen_ok]
    rw [setCell_putBlk h]
    have hg : g < w.heap.size := (Array.getElem?_eq_some_iff.1 h).1
    rw [run_storeCells_env vs off (i + 1) (arr.setIfInBounds (off + i) v) _ (putBlk_get hg) (fun _ => by simp; omega) (fun q h1 h2 => hf q (by omega) (by omega)) (fun u hu => ho u (by simp [hu]))]
    rw [putBlk_put]
    rfl

theorem putBlk_frozen {w : World} {g : Nat} {arr arr' : Array Value} {T : TypeId} {fz : Nat × Nat} (h : w.heap[g]? = some (.cells arr T fz)) (a : Addr) :
    (World.putBlk w g (.cells arr' T fz)).frozen? a = w.frozen? a := by
  have hg : g < w.heap.size := (Array.getElem?_eq_some_iff.1 h).1
  by_cases e : a.block = g
  · simp only [World.frozen?, e, putBlk_get hg, h]
  · simp only [World.frozen?, putBlk_ne e]

theorem kill_get {b i : Nat} {h : AHeap} : (kill b h)[i]? = (h[i]?).map fun x => if x.st = .old b then { x with st := .dead } else x := by
  simp [kill]

theorem kill_length (b : Nat) (h : AHeap) : (kill b h).length = h.length := by simp [kill]

theorem change_spec {h h' : AHeap} {b : Nat} {f : ACells → Option ACells} (hc : change h b f = some h') :
    ∃ o c c', h[b]? = some ⟨.tip o, c⟩ ∧ f c = some c' ∧ h' = (if o then kill b h else h).set b ⟨.tip o, c'⟩ := by
  unfold change at hc
  split at hc
  · rename_i o c he
    simp only [Option.map_eq_some_iff] at hc
    obtain ⟨c', h1, h2⟩ := hc
    exact ⟨o, c, c', he, h1, h2.symm⟩
  · cases hc

theorem change_get {h : AHeap} {b : Nat} {o : Bool} {c c' : ACells} (hb : h[b]? = some ⟨.tip o, c⟩) (i : Nat) :
    ((if o then kill b h else h).set b ⟨.tip o, c'⟩)[i]? = if i = b then some ⟨.tip o, c'⟩ else (h[i]?).map fun x => if o = true ∧ x.st = .old b then { x with st := .dead } else x := by
  have hlt : b < h.length := (List.getElem?_eq_some_iff.1 hb).1
  by_cases e : i = b
  · subst e
    rw [if_pos rfl]
    cases o <;> simp [List.getElem?_set, hlt, kill_length]
  · rw [if_neg e, List.getElem?_set_ne (Ne.symm e)]
    cases o
    · simp
    · simp [kill_get]

/-- A block of the call's own is changed: cells from off on. -/
theorem Rep.change {B : Nat} {ρ : Env} {h h' : AHeap} {w : World} (r : Rep B ρ h w) {b : Nat} {f : ACells → Option ACells} (hc : change h b f = some h') {off : Nat} {vs : List AV} {us : List Value}
    (hf : ∀ c c', f c = some c' → Splice c.list c'.list off vs ∧ ∀ v ∈ vs, v.isCell = true) (hu : Rs ρ vs us) (hlt : ∀ v ∈ vs, v.lt h.length = true) (P : Program) :
    ∃ w', (storeCells (ρ.addr b off) us).run P w = .ok () w' ∧ Rep B ρ h' w' ∧ Fr ρ h w ρ h' w' ∧ h'.length = h.length := by
  obtain ⟨o, c, c', hb, hcc, rfl⟩ := change_spec hc
  obtain ⟨sp, hcell⟩ := hf c c' hcc
  have hlen : ((if o then kill b h else h).set b (⟨.tip o, c'⟩ : ABlk)).length = h.length := by cases o <;> simp [kill_length]
  have hll := Rs_length hu
  have hget := change_get (c' := c') hb
  have hl : Lies ρ b c w := r.lies b _ hb (by simp)
  have hone : ∀ v ∈ us, v.oneCell' = true := by
    intro v hv
    obtain ⟨j, hj⟩ := List.mem_iff_getElem?.1 hv
    have hjl : j < vs.length := by have := (List.getElem?_eq_some_iff.1 hj).1; omega
    obtain ⟨u, hu1, hu2⟩ := Rs_get hu (List.getElem?_eq_getElem hjl)
    rw [hj] at hu1; cases hu1
    exact R_oneCell hu2 (hcell _ (List.getElem_mem hjl))
  -- the abstract side, whatever became of the world
  have abs : ∀ w' : World, (∀ x, x ≠ ρ.blk b ∨ ρ.sz b = 0 → w'.heap[x]? = w.heap[x]?) → (∀ a, w'.frozen? a = w.frozen? a) → Lies ρ b c' w' → Rep B ρ ((if o then kill b h else h).set b ⟨.tip o, c'⟩) w' := by
    intro w' hw hfz hl'
    have hne : ∀ i x, i ≠ b → h[i]? = some x → x.st ≠ .dead → ¬ (o = true ∧ x.st = .old b) → ρ.sz i ≠ 0 → ρ.blk i ≠ ρ.blk b ∨ ρ.sz b = 0 := by
      intro i x hi hx hd ho hz
      by_cases hzb : ρ.sz b = 0
      · exact Or.inr hzb
      · refine Or.inl fun e => ?_
        obtain ⟨h1, h2, _⟩ := r.sep b i _ x o hb hx (Ne.symm hi) rfl hd hzb hz e.symm
        exact ho ⟨h1, h2⟩
    constructor
    · intro i x hx hd
      rw [hget i] at hx
      rw [hlen]
      split at hx
      · cases hx
        refine ACells.lt_list.2 fun v hv => ?_
        rcases sp.mem hv with h1 | h1
        · exact ACells.lt_list.1 (r.wf b _ hb (by simp)) v h1
        · exact ⟨hlt v h1, hcell v h1⟩
      · simp only [Option.map_eq_some_iff] at hx
        obtain ⟨y, hy, rfl⟩ := hx
        split at hd <;> rename_i hc'
        · simp at hd
        · rw [if_neg hc']; exact r.wf i y hy hd
    · intro i x t hx ht
      rw [hget i] at hx
      rw [hlen]
      split at hx
      · cases hx; simp at ht
      · simp only [Option.map_eq_some_iff] at hx
        obtain ⟨y, hy, rfl⟩ := hx
        split at ht
        · simp at ht
        · exact r.old i y t hy ht
    · intro i x hx hd
      rw [hget i] at hx
      split at hx
      · rename_i e; subst e; cases hx; exact hl'
      · rename_i hi
        simp only [Option.map_eq_some_iff] at hx
        obtain ⟨y, hy, rfl⟩ := hx
        split at hd <;> rename_i hc'
        · simp at hd
        · rw [if_neg hc']; exact (r.lies i y hy hd).same fun hz => hw _ (hne i y hi hy hd hc' hz)
    · intro i x o' hx ht hz
      rw [hget i] at hx
      have key : ∀ y, h[i]? = some y → y.st = .tip o' → B ≤ ρ.blk i ∧ ∀ q, ρ.base i ≤ q → q < ρ.base i + ρ.sz i → w'.frozen? ⟨ρ.blk i, q, none⟩ = false := fun y hy hyt =>
        ⟨(r.own i y o' hy hyt hz).1, fun q h1 h2 => by rw [hfz]; exact (r.own i y o' hy hyt hz).2 q h1 h2⟩
      split at hx
      · rename_i e; subst e; cases hx; simp only [BSt.tip.injEq] at ht; subst ht; exact key _ hb rfl
      · simp only [Option.map_eq_some_iff] at hx
        obtain ⟨y, hy, rfl⟩ := hx
        split at ht
        · simp at ht
        · exact key y hy ht
    · intro i x hx ht hz
      rw [hget i] at hx
      split at hx
      · cases hx; simp at ht
      · simp only [Option.map_eq_some_iff] at hx
        obtain ⟨y, hy, rfl⟩ := hx
        split at ht
        · simp at ht
        · exact r.ext i y hy ht hz
    · intro i j x y o' hx hy hij ht hd hz1 hz2 e
      rw [hget i] at hx
      rw [hget j] at hy
      by_cases hi : i = b
      · subst hi
        rw [if_pos rfl] at hx; cases hx
        simp only [BSt.tip.injEq] at ht; subst ht
        rw [if_neg (Ne.symm hij)] at hy
        simp only [Option.map_eq_some_iff] at hy
        obtain ⟨y', hy', rfl⟩ := hy
        split at hd <;> rename_i hc'
        · simp at hd
        · obtain ⟨h1, h2, h3⟩ := r.sep i j _ y' o hb hy' hij rfl hd hz1 hz2 e
          exact absurd ⟨h1, h2⟩ hc'
      · rw [if_neg hi] at hx
        simp only [Option.map_eq_some_iff] at hx
        obtain ⟨x', hx', rfl⟩ := hx
        split at ht
        · simp at ht
        rename_i hcx
        rw [if_neg hcx]
        by_cases hj : j = b
        · subst hj
          obtain ⟨h1, h2, h3⟩ := r.sep i j x' _ o' hx' hb hij ht (by simp) hz1 hz2 e
          simp at h2
        · rw [if_neg hj] at hy
          simp only [Option.map_eq_some_iff] at hy
          obtain ⟨y', hy', rfl⟩ := hy
          split at hd <;> rename_i hc'
          · simp at hd
          · rw [if_neg hc']; exact r.sep i j x' y' o' hx' hy' hij ht hd hz1 hz2 e
  have fr : ∀ w' : World, w'.os = w.os → w'.tape = w.tape → w'.output = w.output → w'.heap.size = w.heap.size → (∀ x, x ≠ ρ.blk b ∨ ρ.sz b = 0 → w'.heap[x]? = w.heap[x]?) →
      Fr ρ h w ρ ((if o then kill b h else h).set b ⟨.tip o, c'⟩) w' := by
    intro w' e1 e2 e3 e4 hw
    refine ⟨e1, e2, e3, by omega, fun x hx ht => hw x ?_, fun x hx => ?_, fun x hx => ?_⟩
    · by_cases hz : ρ.sz b = 0
      · exact Or.inr hz
      · exact Or.inl fun e => ht ⟨b, _, o, hb, rfl, hz, e.symm⟩
    · obtain ⟨i, y, o', hi, ht, hz, e⟩ := hx
      refine Or.inr ?_
      rw [hget i] at hi
      split at hi
      · rename_i e'; subst e'; exact ⟨i, _, o, hb, rfl, hz, e⟩
      · simp only [Option.map_eq_some_iff] at hi
        obtain ⟨y', hy', rfl⟩ := hi
        split at ht
        · simp at ht
        · exact ⟨i, y', o', hy', ht, hz, e⟩
    · obtain ⟨i, y, hi, ⟨hd, hx'⟩, hz, e⟩ := hx
      refine Or.inr ?_
      rw [hget i] at hi
      split at hi
      · rename_i e'; subst e'; exact ⟨i, _, hb, ⟨by simp, by simp⟩, hz, e⟩
      · simp only [Option.map_eq_some_iff] at hi
        obtain ⟨y', hy', rfl⟩ := hi
        split at hd <;> rename_i hc'
        · simp at hd
        · rw [if_neg hc'] at hx'; exact ⟨i, y', hy', ⟨hd, hx'⟩, hz, e⟩
  by_cases hv : vs = []
  · subst hv
    have : us = [] := by simpa [Rs] using hu
    subst this
    have hcl : c'.list = c.list := List.ext_getElem? fun j => by rw [sp.2.2 j, if_neg (by simp only [List.length_nil]; omega)]
    refine ⟨w, by simp [storeCells], abs w (fun _ _ => rfl) (fun _ => rfl) ?_, fr w rfl rfl rfl rfl (fun _ _ => rfl), hlen⟩
    refine ⟨by rw [ACells.len_list, hcl, ← ACells.len_list]; exact hl.1, fun hz => ?_⟩
    obtain ⟨arr, T, fz, h1, h2, h3⟩ := hl.2 hz
    exact ⟨arr, T, fz, h1, h2, fun j v hj => h3 j v (by rw [ACells.get_list] at hj ⊢; rw [← hcl]; exact hj)⟩
  · have hle := sp.2.1 hv
    have hz : ρ.sz b ≠ 0 := by
      have := hl.1; rw [ACells.len_list] at this
      have : 0 < vs.length := List.length_pos_iff.2 hv
      omega
    obtain ⟨arr, T, fz, h1, h2, h3⟩ := hl.2 hz
    have hcl : c.list.length ≤ ρ.sz b := by rw [← ACells.len_list]; exact hl.1
    have hg : ρ.blk b < w.heap.size := (Array.getElem?_eq_some_iff.1 h1).1
    have hrun := run_storeCells_env (P := P) us (ρ.base b + off) 0 arr w h1 (fun _ => by omega) (fun q q1 q2 => by
      have := (r.own b _ o hb rfl hz).2 q (by omega) (by omega)
      simp only [World.frozen?, h1] at this
      simpa using this) hone
    rw [Nat.add_zero] at hrun
    have hs := spliceA_spec us arr (ρ.base b + off) (fun _ => by omega)
    have hsz : (spliceA arr (ρ.base b + off) us).size = arr.size := by simpa using hs.1
    refine ⟨_, hrun, abs _ (fun x hx => ?_) (putBlk_frozen h1) ?_, fr _ rfl rfl rfl (by simp [World.putBlk]) (fun x hx => ?_), hlen⟩
    · exact putBlk_ne (hx.resolve_right hz)
    · refine ⟨by rw [ACells.len_list, sp.1]; exact hcl, fun _ => ⟨_, T, fz, putBlk_get hg, by omega, fun j v hj => ?_⟩⟩
      rw [ACells.get_list, sp.2.2 j] at hj
      have hsj : (spliceA arr (ρ.base b + off) us)[ρ.base b + j]? = if off ≤ j ∧ j < off + us.length then us[j - off]? else arr[ρ.base b + j]? := by
        have := hs.2.2 (ρ.base b + j)
        simp only [Array.getElem?_toList] at this
        rw [this]
        by_cases hj' : off ≤ j ∧ j < off + us.length
        · rw [if_pos hj', if_pos (by omega), show ρ.base b + j - (ρ.base b + off) = j - off from by omega]
        · rw [if_neg hj', if_neg (by omega)]
      rw [hsj]
      by_cases hj' : off ≤ j ∧ j < off + vs.length
      · rw [if_pos hj'] at hj
        rw [if_pos (by omega)]
        exact Rs_get hu hj
      · rw [if_neg hj'] at hj
        rw [if_neg (by omega)]
        exact h3 j v (by rw [ACells.get_list]; exact hj)
    · exact putBlk_ne (hx.resolve_right hz)

-- ------------------------------------------------------------------ new blocks

def Env.upd (ρ : Env) (i b o s : Nat) : Env :=
  { blk := fun j => if j = i then b else ρ.blk j, base := fun j => if j = i then o else ρ.base j, sz := fun j => if j = i then s else ρ.sz j }

theorem Env.upd_agree (ρ : Env) (i b o s : Nat) : Agree i ρ (ρ.upd i b o s) := fun j hj => by
  simp only [Env.upd, if_neg (show j ≠ i by omega), and_self]

theorem getElem?_snoc {α : Type} {l : List α} {x y : α} {i : Nat} (h : (l ++ [x])[i]? = some y) : (i < l.length ∧ l[i]? = some y) ∨ (i = l.length ∧ y = x) := by
  by_cases hi : i < l.length
  · rw [List.getElem?_append_left hi] at h; exact Or.inl ⟨hi, h⟩
  · rw [List.getElem?_append_right (by omega)] at h
    have : i - l.length = 0 := by
      have := (List.getElem?_eq_some_iff.1 h).1; simp at this; omega
    rw [this] at h; simp at h
    exact Or.inr ⟨by omega, h.symm⟩

theorem push_get {w : World} {o : Obj} {x : Nat} (h : x < w.heap.size) : (World.alloc w o).heap[x]? = w.heap[x]? := by
  show (w.heap.push o)[x]? = _
  rw [Array.getElem?_push, if_neg (by omega)]

theorem push_new {w : World} {o : Obj} : (World.alloc w o).heap[w.heap.size]? = some o := by
  show (w.heap.push o)[w.heap.size]? = _
  rw [Array.getElem?_push, if_pos rfl]

/-- A new block, all of whose cells are known, or those at its begin. -/
theorem Rep.alloc {B : Nat} {ρ : Env} {h : AHeap} {w : World} (r : Rep B ρ h w) (hB : B ≤ w.heap.size) {c : ACells} {arr : Array Value} {T : TypeId} {fz : Nat × Nat} (hlt : c.lt h.length = true)
    (hfz : ∀ q, q < arr.size → ¬ (fz.1 ≤ q ∧ q < fz.2)) (hsz : c.len ≤ arr.size) (hc : ∀ j v, c.get? j = some v → ∃ y, arr[j]? = some y ∧ R ρ v y) :
    Rep B (ρ.upd h.length w.heap.size 0 arr.size) (h ++ [.new c]) (World.alloc w (.cells arr T fz)) ∧
    Fr ρ h w (ρ.upd h.length w.heap.size 0 arr.size) (h ++ [.new c]) (World.alloc w (.cells arr T fz)) := by
  have ag := Env.upd_agree ρ h.length w.heap.size 0 arr.size
  have hup : (ρ.upd h.length w.heap.size 0 arr.size).blk h.length = w.heap.size ∧ (ρ.upd h.length w.heap.size 0 arr.size).base h.length = 0 ∧ (ρ.upd h.length w.heap.size 0 arr.size).sz h.length = arr.size := by simp [Env.upd]
  generalize ρ.upd h.length w.heap.size 0 arr.size = ρ' at *
  have hlow : ∀ i x, h[i]? = some x → x.st ≠ .dead → ρ.sz i ≠ 0 → ρ.blk i < w.heap.size := by
    intro i x hi hd hz
    obtain ⟨a, _, _, h1, _⟩ := (r.lies i x hi hd).2 hz
    exact (Array.getElem?_eq_some_iff.1 h1).1
  constructor
  · constructor
    · intro i x hx hd
      have hm : h.length ≤ (h ++ [ABlk.new c]).length := by simp
      rcases getElem?_snoc hx with ⟨_, hx⟩ | ⟨_, rfl⟩
      · exact ACells.lt_mono hm (r.wf i x hx hd)
      · exact ACells.lt_mono hm hlt
    · intro i x t hx ht
      rcases getElem?_snoc hx with ⟨_, hx⟩ | ⟨_, rfl⟩
      · have := r.old i x t hx ht; simp; omega
      · simp at ht
    · intro i x hx hd
      rcases getElem?_snoc hx with ⟨hi, hx⟩ | ⟨rfl, rfl⟩
      · obtain ⟨a1, a2, a3⟩ := ag i hi
        have hl := r.lies i x hx hd
        refine ⟨by rw [a3]; exact hl.1, fun hz => ?_⟩
        rw [a3] at hz
        obtain ⟨arr', T', fz', h1, h2, h3⟩ := hl.2 hz
        refine ⟨arr', T', fz', by rw [a1, push_get (hlow i x hx hd hz)]; exact h1, by rw [a2, a3]; exact h2, fun j v hj => ?_⟩
        obtain ⟨y, hy, hr⟩ := h3 j v hj
        exact ⟨y, by rw [a2]; exact hy, R_agree ag v y (ACells.get_lt (r.wf i x hx hd) hj) hr⟩
      · refine ⟨by rw [hup.2.2]; exact hsz, fun hz => ⟨arr, T, fz, by rw [hup.1]; exact push_new, by rw [hup.2.1, hup.2.2]; omega, fun j v hj => ?_⟩⟩
        obtain ⟨y, hy, hr⟩ := hc j v hj
        exact ⟨y, by rw [hup.2.1, Nat.zero_add]; exact hy, R_agree ag v y (ACells.get_lt hlt hj) hr⟩
    · intro i x o hx ht hz
      rcases getElem?_snoc hx with ⟨hi, hx⟩ | ⟨rfl, rfl⟩
      · obtain ⟨a1, a2, a3⟩ := ag i hi
        rw [a3] at hz
        have := r.own i x o hx ht hz
        refine ⟨by rw [a1]; exact this.1, fun q h1 h2 => ?_⟩
        rw [a2] at h1; rw [a2, a3] at h2
        rw [a1, World.frozen_of_block (w := w) (push_get (hlow i x hx (by rw [ht]; simp) hz))]
        exact this.2 q h1 h2
      · refine ⟨by rw [hup.1]; exact hB, fun q h1 h2 => ?_⟩
        rw [hup.2.1, hup.2.2] at h2
        rw [hup.1]
        simp only [World.frozen?, push_new]
        have := hfz q (by omega)
        simpa using this
    · intro i x hx ht hz
      rcases getElem?_snoc hx with ⟨hi, hx⟩ | ⟨rfl, rfl⟩
      · obtain ⟨a1, a2, a3⟩ := ag i hi
        rw [a3] at hz; rw [a1]
        exact r.ext i x hx ht hz
      · simp at ht
    · intro i j x y o hx hy hij ht hd hz1 hz2 e
      rcases getElem?_snoc hx with ⟨hi, hx⟩ | ⟨rfl, rfl⟩
      · obtain ⟨a1, a2, a3⟩ := ag i hi
        rw [a3] at hz1; rw [a1] at e
        rcases getElem?_snoc hy with ⟨hj, hy⟩ | ⟨rfl, rfl⟩
        · obtain ⟨b1, b2, b3⟩ := ag j hj
          rw [b3] at hz2; rw [b1] at e
          rw [a2, b2]
          exact r.sep i j x y o hx hy hij ht hd hz1 hz2 e
        · rw [hup.1] at e
          have := hlow i x hx (by rw [ht]; simp) hz1
          omega
      · rcases getElem?_snoc hy with ⟨hj, hy⟩ | ⟨rfl, rfl⟩
        · obtain ⟨b1, b2, b3⟩ := ag j hj
          rw [b3] at hz2; rw [b1, hup.1] at e
          have := hlow j y hy hd hz2
          omega
        · exact absurd rfl hij
  · refine ⟨rfl, rfl, rfl, by show _ ≤ (w.heap.push _).size; simp, fun x hx _ => push_get hx, fun x hx => ?_, fun x hx => ?_⟩
    · obtain ⟨i, y, o, hi, ht, hz, e⟩ := hx
      rcases getElem?_snoc hi with ⟨hil, hi⟩ | ⟨rfl, rfl⟩
      · obtain ⟨a1, a2, a3⟩ := ag i hil
        rw [a3] at hz; rw [a1] at e
        exact Or.inr ⟨i, y, o, hi, ht, hz, e⟩
      · rw [hup.1] at e; omega
    · obtain ⟨i, y, hi, ht, hz, e⟩ := hx
      rcases getElem?_snoc hi with ⟨hil, hi⟩ | ⟨rfl, rfl⟩
      · obtain ⟨a1, a2, a3⟩ := ag i hil
        rw [a3] at hz; rw [a1] at e
        exact Or.inr ⟨i, y, hi, ht, hz, e⟩
      · rw [hup.1] at e; omega

end Go.Proofs.YtdpbbagllhfjbaaDoorW.AI
/-! Operations, one by one. -/
namespace Go.Proofs.YtdpbbagllhfjbaaDoorW.AI
open Go
set_option linter.unusedVariables false
set_option linter.unusedSimpArgs false

section
variable {X : Ctx} {B : Nat} {ρg : Env} {gl : AHeap}

def Post (X : Ctx) (B : Nat) (ρg : Env) (gl : AHeap) (ρ : Env) (h : AHeap) (w : World) (v : AV) (h' : AHeap) (x : Value) (w' : World) : Prop :=
  ∃ ρ', Agree h.length ρ ρ' ∧ R ρ' v x ∧ v.lt h'.length = true ∧ St B ρg gl X.gid ρ' h' w' ∧ Fr ρ h w ρ' h' w' ∧ h.length ≤ h'.length

def Out (X : Ctx) (B : Nat) (ρg : Env) (gl : AHeap) (ρ : Env) (h : AHeap) (w : World) (A : Act) (o : Oper) (v : AV) (h' : AHeap) : Prop :=
  ∃ nx x w', (execOp A.eval o).run X.P w = .ok nx w' ∧ (nx = .value x ∨ (nx = .skip ∧ x = undef)) ∧ Post X B ρg gl ρ h w v h' x w'

variable {ρ : Env} {h h' : AHeap} {w : World} {nt : Nat} {a : Acts} {A : Act} {v : AV} {o : Oper}

theorem post_float (hst : St B ρg gl X.gid ρ h w) {x : Value} (hl : v.lt h.length = true) (hr : R ρ v x) : Post X B ρg gl ρ h w v h x w :=
  ⟨ρ, Agree.refl _ _, hr, hl, hst, Fr.refl _ _ _, Nat.le_refl _⟩

theorem post_mem (hst : St B ρg gl X.gid ρ h w) {ρ' : Env} {w' : World} {x : Value} (ag : Agree h.length ρ ρ') (hr : R ρ' v x) (hl : v.lt h'.length = true) (rep : Rep B ρ' h' w') (fr : Fr ρ h w ρ' h' w') (hlen : h.length ≤ h'.length) :
    Post X B ρg gl ρ h w v h' x w' :=
  ⟨ρ', ag, hr, hl, ⟨rep, hst.grep.globals hst.gext hst.rep hst.le fr, hst.gext, Nat.le_trans hst.le fr.size,
    fun i hi => by obtain ⟨h1, h2, h3⟩ := hst.pre i hi; obtain ⟨a1, a2, _⟩ := ag i h1; exact ⟨by omega, a1.trans h2, a2.trans h3⟩, hst.gpre⟩, fr, hlen⟩

theorem out_value (hst : St B ρg gl X.gid ρ h w) {x : Value} (hrun : (execOp A.eval o).run X.P w = .ok (.value x) w) (hl : v.lt h.length = true) (hr : R ρ v x) : Out X B ρg gl ρ h w A o v h :=
  ⟨_, x, w, hrun, Or.inl rfl, post_float hst hl hr⟩

theorem s_move (hst : St B ρg gl X.gid ρ h w) (hG : gl.length = X.G) (ha : AR ρ h.length nt a A) {p : Operand} {x : MX} (ho : o.op = .move p ∨ o.op = .assign p) (hc : chkX X p x = true) {r : AV × AHeap × List Nat} {call : CallT}
    (hr : aop call (.mv x) a h = some r) : Out X B ρg gl ρ h w A o r.1 r.2.1 := by
  simp only [aop, Option.map_eq_some_iff] at hr
  obtain ⟨v, h1, rfl⟩ := hr
  obtain ⟨e1, e2⟩ := aeval_sound ha (fun i hi => hst.pre i (by omega)) hc h1
  refine out_value hst (x := A.eval p) ?_ e1 e2
  rcases ho with ho | ho <;> simp [execOp, ho]

theorem s_pick (hst : St B ρg gl X.gid ρ h w) (hG : gl.length = X.G) (ha : AR ρ h.length nt a A) {c p q : Operand} {c' x y : MX} (ho : o.op = .pick c p q) (hc : chkX X c c' = true) (hx : chkX X p x = true) (hy : chkX X q y = true) {r : AV × AHeap × List Nat} {call : CallT}
    (hr : aop call (.pick c' x y) a h = some r) : Out X B ρg gl ρ h w A o r.1 r.2.1 := by
  simp only [aop, Option.bind_eq_some_iff] at hr
  obtain ⟨cv, h0, hr⟩ := hr
  obtain ⟨e1, e2⟩ := aeval_sound ha (fun i hi => hst.pre i (by omega)) hc h0
  split at hr
  · simp only [Option.map_eq_some_iff] at hr
    obtain ⟨v, h1, rfl⟩ := hr
    simp only [R] at e2
    obtain ⟨f1, f2⟩ := aeval_sound ha (fun i hi => hst.pre i (by omega)) hx h1
    exact out_value hst (x := A.eval p) (by simp [execOp, ho, e2, asBool]) f1 f2
  · simp only [Option.map_eq_some_iff] at hr
    obtain ⟨v, h1, rfl⟩ := hr
    simp only [R] at e2
    obtain ⟨f1, f2⟩ := aeval_sound ha (fun i hi => hst.pre i (by omega)) hy h1
    exact out_value hst (x := A.eval q) (by simp [execOp, ho, e2, asBool]) f1 f2
  · cases hr

theorem s_un (hst : St B ρg gl X.gid ρ h w) (hG : gl.length = X.G) (ha : AR ρ h.length nt a A) {op : UnOp} {t : Nat} {p : Operand} {x : MX} (ho : o.op = .unOp op t p) (hc : chkX X p x = true) {r : AV × AHeap × List Nat} {call : CallT}
    (hr : aop call (.un op x) a h = some r) : Out X B ρg gl ρ h w A o r.1 r.2.1 := by
  simp only [aop, Option.bind_eq_some_iff, Option.map_eq_some_iff] at hr
  obtain ⟨xv, h0, v, h1, rfl⟩ := hr
  obtain ⟨e1, e2⟩ := aeval_sound ha (fun i hi => hst.pre i (by omega)) hc h0
  obtain ⟨u, f1, f2, f3⟩ := aun_sound h1 e2 X.P w
  exact out_value hst (x := u) (by simp [execOp, ho, f1]) (AV.lt_mono (Nat.zero_le _) _ f3) f2

theorem s_ci (hst : St B ρg gl X.gid ρ h w) (hG : gl.length = X.G) (ha : AR ρ h.length nt a A) {s d : Nat} {k : IntKind} {p : Operand} {x : MX} (ho : o.op = .convert s d p) (hc : chkX X p x = true)
    (hs : (X.P.underlying s).isSome = true) (hd : X.P.underlying d = some (.int k)) {r : AV × AHeap × List Nat} {call : CallT}
    (hr : aop call (.ci k x) a h = some r) : Out X B ρg gl ρ h w A o r.1 r.2.1 := by
  simp only [aop, Option.bind_eq_some_iff] at hr
  obtain ⟨xv, h0, hr⟩ := hr
  obtain ⟨e1, e2⟩ := aeval_sound ha (fun i hi => hst.pre i (by omega)) hc h0
  split at hr
  · simp only [Option.some.injEq] at hr; subst hr
    simp only [R] at e2
    rw [Option.isSome_iff_exists] at hs
    obtain ⟨sd, hs⟩ := hs
    refine out_value hst (x := .int k (k.wrap _)) ?_ rfl rfl
    simp only [execOp, ho, convert, Sem.run_bind, run_underlying hs, run_underlying hd, Result.andThen_ok, e2, Conv.intToInt, Sem.run_pure]
  · cases hr

theorem s_cid (hst : St B ρg gl X.gid ρ h w) (hG : gl.length = X.G) (ha : AR ρ h.length nt a A) {s d : Nat} {p : Operand} {x : MX} (ho : o.op = .convert s d p) (hc : chkX X p x = true)
    (hs : (X.P.underlying s).isSome = true) (hd : X.P.underlying d = some .string) {r : AV × AHeap × List Nat} {call : CallT}
    (hr : aop call (.cid x) a h = some r) : Out X B ρg gl ρ h w A o r.1 r.2.1 := by
  simp only [aop, Option.bind_eq_some_iff] at hr
  obtain ⟨xv, h0, hr⟩ := hr
  obtain ⟨e1, e2⟩ := aeval_sound ha (fun i hi => hst.pre i (by omega)) hc h0
  split at hr
  · simp only [Option.some.injEq] at hr; subst hr
    simp only [R] at e2
    rw [Option.isSome_iff_exists] at hs
    obtain ⟨sd, hs⟩ := hs
    refine out_value hst (x := .string _) ?_ rfl rfl
    simp only [execOp, ho, convert, Sem.run_bind, run_underlying hs, run_underlying hd, Result.andThen_ok, e2, Sem.run_pure]
  · cases hr

theorem s_ld (hst : St B ρg gl X.gid ρ h w) (hG : gl.length = X.G) (ha : AR ρ h.length nt a A) {t : Nat} {agg : Option Nat} {p : Operand} {x : MX} (ho : o.op = .load t p) (hc : chkX X p x = true) (ht : chkAgg X t agg = true) {r : AV × AHeap × List Nat} {call : CallT}
    (hr : aop call (.ld agg x) a h = some r) : Out X B ρg gl ρ h w A o r.1 r.2.1 := by
  simp only [aop, Option.bind_eq_some_iff] at hr
  obtain ⟨xv, h0, hr⟩ := hr
  obtain ⟨e1, e2⟩ := aeval_sound ha (fun i hi => hst.pre i (by omega)) hc h0
  split at hr
  case h_2 => cases hr
  rename_i b off
  simp only [Option.bind_eq_some_iff] at hr
  obtain ⟨c, hc', hr⟩ := hr
  obtain ⟨blk, hb1, hb2, rfl⟩ := cellsAt_some hc'
  simp only [R] at e2
  simp only [Option.map_eq_some_iff] at hr
  obtain ⟨v, hv, rfl⟩ := hr
  obtain ⟨u, f1, f2⟩ := run_loadVar_env (hst.rep.lies b blk hb1 hb2) ht hv
  refine out_value hst (x := u) ?_ ?_ f2
  · simp [execOp, ho, Instr.loadAt, e2, Instr.sureAddr, f1]
  · have wf := hst.rep.wf b blk hb1 hb2
    cases agg with
    | none => exact ACells.get_lt wf hv
    | some n =>
      simp only [loadA, Option.map_eq_some_iff] at hv
      obtain ⟨vs, h1, rfl⟩ := hv
      obtain ⟨g1, g2⟩ := loadN_get h1
      simp only [AV.lt]
      refine AV.lts_iff.2 fun y hy => ?_
      obtain ⟨j, hj⟩ := List.mem_iff_getElem?.1 hy
      have hjl : j < n := by have := (List.getElem?_eq_some_iff.1 hj).1; omega
      exact ACells.get_lt wf ((g2 j hjl).symm.trans hj)

theorem s_st (hst : St B ρg gl X.gid ρ h w) (hG : gl.length = X.G) (ha : AR ρ h.length nt a A) {t n : Nat} {p q : Operand} {x y : MX} (ho : o.op = .store t p q) (hc : chkX X p x = true) (hd : chkX X q y = true) (ht : szIs X t n = true) {r : AV × AHeap × List Nat} {call : CallT}
    (hr : aop call (.st n x y) a h = some r) : Out X B ρg gl ρ h w A o r.1 r.2.1 := by
  simp only [aop, Option.bind_eq_some_iff] at hr
  obtain ⟨pv, h0, xv, h1, hr⟩ := hr
  obtain ⟨e1, e2⟩ := aeval_sound ha (fun i hi => hst.pre i (by omega)) hc h0
  obtain ⟨f1, f2⟩ := aeval_sound ha (fun i hi => hst.pre i (by omega)) hd h1
  split at hr
  case h_2 => cases hr
  rename_i b off
  split at hr
  case isFalse => cases hr
  rename_i hn
  simp only [Option.map_eq_some_iff] at hr
  obtain ⟨h', hch, rfl⟩ := hr
  simp only [R] at e2
  obtain ⟨o', c, c', hb, hcc, he⟩ := change_spec hch
  obtain ⟨sp, hcell⟩ := storeL_splice hcc
  have hcs := R_cells f2 hcell
  have hxlt : ∀ u ∈ xv.cells, u.lt h.length = true := by
    intro u hu
    cases xv with
    | agg cs => exact AV.lts_iff.1 (show AV.lts h.length cs = true from by simpa [AV.lt] using f1) u hu
    | _ => simp only [AV.cells, List.mem_singleton] at hu; subst hu; exact f1
  obtain ⟨w', g1, g2, g3, g4⟩ := hst.rep.change hch (fun c c' hcc => storeL_splice hcc) hcs hxlt X.P
  refine ⟨.skip, undef, w', ?_, Or.inr ⟨rfl, rfl⟩, post_mem hst (Agree.refl _ _) trivial rfl g2 g3 (by show h.length ≤ h'.length; omega)⟩
  have hlen : (A.eval q).cells.size = n := by have := Rs_length hcs; simp at this; omega
  have hsz : (sizeOf t).run X.P w = .ok n w := run_sizeOf' (by simpa [szIs] using ht)
  simp only [execOp, ho, Instr.storeAt, e2, Instr.sureAddr, Sem.run_bind, Sem.run_pure, Result.andThen_ok, storeVar, hsz, hlen, ne_eq, not_true, if_false, g1]

theorem s_fa (hst : St B ρg gl X.gid ρ h w) (hG : gl.length = X.G) (ha : AR ρ h.length nt a A) {s f off : Nat} {p : Operand} {x : MX} {fields : Array Field} {fd : Field} (ho : o.op = .fieldAddr s p f) (hc : chkX X p x = true)
    (hs : X.P.underlying s = some (.struct fields)) (hf : fields[f]? = some fd) (hoff : fd.offset = off) {n : Nat} (hn : (X.P.info? fd.type).map (·.size) = some n) (hn0 : n ≠ 0) {r : AV × AHeap × List Nat} {call : CallT}
    (hr : aop call (.fa off x) a h = some r) : Out X B ρg gl ρ h w A o r.1 r.2.1 := by
  simp only [aop, Option.bind_eq_some_iff] at hr
  obtain ⟨xv, h0, hr⟩ := hr
  obtain ⟨e1, e2⟩ := aeval_sound ha (fun i hi => hst.pre i (by omega)) hc h0
  split at hr
  · simp only [Option.some.injEq] at hr; subst hr
    rename_i b off'
    simp only [R] at e2
    refine out_value hst (x := .pointer (some (ρ.addr b (off' + off)))) ?_ e1 rfl
    have hsz : (sizeOf fd.type).run X.P w = .ok n w := run_sizeOf' hn
    simp [execOp, ho, Instr.fieldAt, run_underlying hs, hf, e2, Instr.sureAddr, fieldPlace, hsz, hn0, Env.addr_add, hoff]
  · cases hr

theorem s_nc (hst : St B ρg gl X.gid ρ h w) (hG : gl.length = X.G) (ha : AR ρ h.length nt a A) {p : Operand} {x : MX} (ho : o.op = .nilCheck p) (hc : chkX X p x = true) {r : AV × AHeap × List Nat} {call : CallT}
    (hr : aop call (.nc x) a h = some r) : Out X B ρg gl ρ h w A o r.1 r.2.1 := by
  simp only [aop, Option.bind_eq_some_iff] at hr
  obtain ⟨xv, h0, hr⟩ := hr
  obtain ⟨e1, e2⟩ := aeval_sound ha (fun i hi => hst.pre i (by omega)) hc h0
  split at hr
  · simp only [Option.some.injEq] at hr; subst hr
    rename_i b off'
    refine out_value hst (x := A.eval p) ?_ e1 e2
    simp only [R] at e2
    simp [execOp, ho, e2]
  · simp only [Option.some.injEq] at hr; subst hr
    refine out_value hst (x := A.eval p) ?_ e1 e2
    simp only [R] at e2
    obtain ⟨vs, e3, _⟩ := e2
    simp [execOp, ho, e3]
  · cases hr

theorem s_mf (hst : St B ρg gl X.gid ρ h w) (hG : gl.length = X.G) (ha : AR ρ h.length nt a A) {f : Nat} {caps : Array Operand} {xs : List MX} (ho : o.op = .makeFunc (.func f) #[] caps) (hc : chkXs X caps.toList xs = true) {r : AV × AHeap × List Nat} {call : CallT}
    (hr : aop call (.mf f xs) a h = some r) : Out X B ρg gl ρ h w A o r.1 r.2.1 := by
  simp only [aop, Option.bind_eq_some_iff, Option.map_eq_some_iff] at hr
  obtain ⟨vs, h0, rfl⟩ := hr
  obtain ⟨e1, e2⟩ := aevals_sound ha (fun i hi => hst.pre i (by omega)) hc h0
  refine out_value hst (x := .func (.func f) #[] (caps.map A.eval)) ?_ (by simpa [AV.lt] using e1) ?_
  · simp [execOp, ho, Instr.makeFunc]
  · simp only [R]
    exact ⟨_, rfl, by simpa using e2⟩

theorem s_ex (hst : St B ρg gl X.gid ρ h w) (hG : gl.length = X.G) (ha : AR ρ h.length nt a A) {i : Nat} {p : Operand} {x : MX} (ho : o.op = .extract p i) (hc : chkX X p x = true) {r : AV × AHeap × List Nat} {call : CallT}
    (hr : aop call (.ex i x) a h = some r) : Out X B ρg gl ρ h w A o r.1 r.2.1 := by
  simp only [aop, Option.bind_eq_some_iff] at hr
  obtain ⟨xv, h0, hr⟩ := hr
  obtain ⟨e1, e2⟩ := aeval_sound ha (fun i hi => hst.pre i (by omega)) hc h0
  split at hr
  · simp only [Option.map_eq_some_iff] at hr
    obtain ⟨v, h1, rfl⟩ := hr
    simp only [R] at e2
    obtain ⟨vs', e3, e4⟩ := e2
    obtain ⟨u, f1, f2⟩ := Rs_get e4 h1
    refine out_value hst (x := u) ?_ ?_ f2
    · have : vs'[i]? = some u := by simpa using f1
      simp [execOp, ho, e3, Instr.extract, this]
    · exact AV.lts_iff.1 (by simpa [AV.lt] using e1) v (List.mem_of_getElem? h1)
  · cases hr

/-- A part of a flat value. -/
theorem run_part {X : Ctx} {w : World} {ρ : Env} {t : Nat} {agg : Option Nat} (ht : chkAgg X t agg = true) {cs : List AV} {vs : Array Value} (hr : Rs ρ cs vs.toList) {off : Nat} {v : AV} (hv : AI.apart cs off agg = some v) :
    ∃ u, (part t vs off).run X.P w = .ok u w ∧ R ρ v u ∧ (∀ n, AV.lts n cs = true → v.lt n = true) := by
  cases agg with
  | none =>
    simp only [chkAgg] at ht
    simp only [AI.apart] at hv
    obtain ⟨u, h1, h2⟩ := Rs_get hr hv
    have h1 : vs[off]? = some u := by simpa using h1
    exact ⟨u, by simp [part, run_isAgg ht, h1], h2, fun n hn => AV.lts_iff.1 hn v (List.mem_of_getElem? hv)⟩
  | some n =>
    simp only [chkAgg, Bool.and_eq_true, szIs, decide_eq_true_eq] at ht
    simp only [AI.apart] at hv
    split at hv
    · simp only [Option.some.injEq] at hv; subst hv
      refine ⟨.agg (vs.extract off (off + n)), by simp [part, run_isAgg ht.1, run_sizeOf' ht.2], ?_, fun m hm => ?_⟩
      · simp only [R]
        refine ⟨_, rfl, ?_⟩
        have := Rs_take n (Rs_drop off hr)
        simpa [List.take_drop, Nat.add_comm] using this
      · simp only [AV.lt]
        exact AV.lts_iff.2 fun y hy => AV.lts_iff.1 hm y (List.mem_of_mem_drop (List.mem_of_mem_take hy))
    · cases hv

theorem s_fld (hst : St B ρg gl X.gid ρ h w) (hG : gl.length = X.G) (ha : AR ρ h.length nt a A) {s f off : Nat} {agg : Option Nat} {p : Operand} {x : MX} {fields : Array Field} {fd : Field} (ho : o.op = .field s p f) (hc : chkX X p x = true)
    (hs : X.P.underlying s = some (.struct fields)) (hf : fields[f]? = some fd) (hoff : fd.offset = off) (ht : chkAgg X fd.type agg = true) {r : AV × AHeap × List Nat} {call : CallT}
    (hr : aop call (.fld off agg x) a h = some r) : Out X B ρg gl ρ h w A o r.1 r.2.1 := by
  simp only [aop, Option.bind_eq_some_iff] at hr
  obtain ⟨xv, h0, hr⟩ := hr
  obtain ⟨e1, e2⟩ := aeval_sound ha (fun i hi => hst.pre i (by omega)) hc h0
  split at hr
  · simp only [Option.map_eq_some_iff] at hr
    obtain ⟨v, h1, rfl⟩ := hr
    simp only [R] at e2
    obtain ⟨vs, e3, e4⟩ := e2
    obtain ⟨u, f1, f2, f3⟩ := run_part (w := w) ht e4 h1
    refine out_value hst (x := u) ?_ (f3 _ (by simpa [AV.lt] using e1)) f2
    simp [execOp, ho, Instr.field, run_underlying hs, hf, e3, asAgg, hoff, f1]
  · cases hr

theorem asN_sound {ρ : Env} {x : AV} {n : Nat} {v : Value} (h : asN x = some n) (hr : R ρ x v) : ∃ k m, v = .int k m ∧ 0 ≤ m ∧ m.toNat = n := by
  cases x <;> simp only [asN] at h <;> first | (cases h; done) | skip
  split at h
  · rename_i k m hm
    simp only [Option.some.injEq] at h
    simp only [R] at hr
    exact ⟨k, m, hr, hm, h⟩
  · cases h

theorem s_ixa (hst : St B ρg gl X.gid ρ h w) (hG : gl.length = X.G) (ha : AR ρ h.length nt a A) {t e len esz : Nat} {agg : Option Nat} {p q : Operand} {x y : MX} (ho : o.op = .index t p q) (hc : chkX X p x = true) (hd : chkX X q y = true)
    (hs : X.P.underlying t = some (.array len e)) (he : szIs X e esz = true) (ht : chkAgg X e agg = true) {r : AV × AHeap × List Nat} {call : CallT}
    (hr : aop call (.ixa len esz agg x y) a h = some r) : Out X B ρg gl ρ h w A o r.1 r.2.1 := by
  simp only [aop, Option.bind_eq_some_iff] at hr
  obtain ⟨xv, h0, iv, h1, i, h2, hr⟩ := hr
  obtain ⟨e1, e2⟩ := aeval_sound ha (fun i hi => hst.pre i (by omega)) hc h0
  obtain ⟨f1, f2⟩ := aeval_sound ha (fun i hi => hst.pre i (by omega)) hd h1
  obtain ⟨k, m, g1, g2, g3⟩ := asN_sound h2 f2
  split at hr
  · split at hr
    · rename_i hi
      simp only [Option.map_eq_some_iff] at hr
      obtain ⟨v, h3, rfl⟩ := hr
      simp only [R] at e2
      obtain ⟨vs, e3, e4⟩ := e2
      obtain ⟨u, q1, q2, q3⟩ := run_part (w := w) ht e4 h3
      have hsz : (sizeOf e).run X.P w = .ok esz w := run_sizeOf' (by simpa [szIs] using he)
      refine out_value hst (x := u) ?_ (q3 _ (by simpa [AV.lt] using e1)) q2
      have hi' : 0 ≤ m ∧ m < (len : Int) := by omega
      simp [execOp, ho, Instr.index, g1, asIntOf, run_underlying hs, e3, hi', hsz, g3, q1]
    · cases hr
  · cases hr

theorem s_ixs (hst : St B ρg gl X.gid ρ h w) (hG : gl.length = X.G) (ha : AR ρ h.length nt a A) {t : Nat} {p q : Operand} {x y : MX} (ho : o.op = .index t p q) (hc : chkX X p x = true) (hd : chkX X q y = true)
    (hs : X.P.underlying t = some .string) {r : AV × AHeap × List Nat} {call : CallT}
    (hr : aop call (.ixs x y) a h = some r) : Out X B ρg gl ρ h w A o r.1 r.2.1 := by
  simp only [aop, Option.bind_eq_some_iff] at hr
  obtain ⟨xv, h0, iv, h1, i, h2, hr⟩ := hr
  obtain ⟨e1, e2⟩ := aeval_sound ha (fun i hi => hst.pre i (by omega)) hc h0
  obtain ⟨f1, f2⟩ := aeval_sound ha (fun i hi => hst.pre i (by omega)) hd h1
  obtain ⟨k, m, g1, g2, g3⟩ := asN_sound h2 f2
  split at hr
  · rename_i s
    simp only [Option.map_eq_some_iff] at hr
    obtain ⟨b, h3, rfl⟩ := hr
    simp only [R] at e2
    refine out_value hst (x := .int .u8 b.toNat) ?_ rfl rfl
    have hb : s[i]? = some b := by
      have hlt : i < s.data.toList.length := (List.getElem?_eq_some_iff.1 h3).1
      have hlt' : i < s.size := by simpa using hlt
      rw [getElem?_pos s i hlt']
      have := (List.getElem?_eq_some_iff.1 h3).2
      rw [← this]; simp [ByteArray.getElem_eq_getElem_data]
    simp [execOp, ho, Instr.index, g1, asIntOf, run_underlying hs, e2, g2, g3, hb]
  · cases hr

end
end Go.Proofs.YtdpbbagllhfjbaaDoorW.AI
/-! Operations: two operands; equality. -/
namespace Go.Proofs.YtdpbbagllhfjbaaDoorW.AI
open Go
set_option linter.unusedVariables false
set_option linter.unusedSimpArgs false

def flatF (P : Program) (g : Nat → Option (List Nat)) : List Field → Nat → Option (List Nat)
  | [], _ => some []
  | f :: fs, off => if f.name ≠ "_" ∧ f.offset = off then (g f.type).bind fun sh => if (P.info? f.type).map (·.size) = some sh.length then (flatF P g fs (off + sh.length)).map (sh ++ ·) else none else none

def flatL (P : Program) : Nat → Nat → Option (List Nat)
  | 0, _ => none
  | d + 1, t => match P.underlying t with
    | some (.int _) => some [0]
    | some .bool => some [1]
    | some .string => some [2]
    | some (.struct fs) => if P.stoodInHeld t then none else flatF P (flatL P d) fs.toList 0
    | _ => none

theorem scEqs_append : ∀ {s1 s2 : List Nat} {xs ys : List AV} {r : Bool}, scEqs (s1 ++ s2) xs ys = some r →
    ∃ r1 r2, scEqs s1 (xs.take s1.length) (ys.take s1.length) = some r1 ∧ scEqs s2 (xs.drop s1.length) (ys.drop s1.length) = some r2 ∧ r = (r1 && r2)
  | [], s2, xs, ys, r, h => ⟨true, r, by simp [scEqs], by simpa using h, by simp⟩
  | c :: s1, s2, xs, ys, r, h => by
    cases xs <;> cases ys <;> simp only [List.cons_append, scEqs] at h <;> first | (cases h; done) | skip
    rename_i x xs y ys
    simp only [Option.bind_eq_some_iff, Option.map_eq_some_iff] at h
    obtain ⟨b, h1, r', h2, rfl⟩ := h
    obtain ⟨r1, r2, g1, g2, rfl⟩ := scEqs_append h2
    refine ⟨b && r1, r2, ?_, by simpa using g2, by rw [Bool.and_assoc]⟩
    simp only [List.length_cons, List.take_succ_cons, scEqs, h1, Option.bind_some, g1, Option.map_some]

theorem scEq_run {P : Program} {w : World} {ρ : Env} {c : Nat} {x y : AV} {u v : Value} {r : Bool} (h : scEq c x y = some r) (hx : R ρ x u) (hy : R ρ y v) {t D : Nat}
    (ht : (c = 0 ∧ ∃ k, P.underlying t = some (.int k)) ∨ (c = 1 ∧ P.underlying t = some .bool) ∨ (c = 2 ∧ P.underlying t = some .string)) : (Op.equalIn (D + 1) t u v).run P w = .ok r w := by
  unfold scEq at h
  split at h
  · split at h
    · rename_i hk; subst hk
      simp only [Option.some.injEq] at h; subst h
      simp only [R] at hx hy; subst hx; subst hy
      rcases ht with ⟨_, k, ht⟩ | ⟨h1, _⟩ | ⟨h1, _⟩
      · exact run_equalIn_int w D t _ k _ _ ht
      · cases h1
      · cases h1
    · cases h
  · simp only [Option.some.injEq] at h; subst h
    simp only [R] at hx hy; subst hx; subst hy
    rcases ht with ⟨h1, _⟩ | ⟨_, ht⟩ | ⟨h1, _⟩
    · cases h1
    · exact run_equalIn_bool' w D t _ _ ht
    · cases h1
  · simp only [Option.some.injEq] at h; subst h
    simp only [R] at hx hy; subst hx; subst hy
    rcases ht with ⟨h1, _⟩ | ⟨h1, _⟩ | ⟨_, ht⟩
    · cases h1
    · cases h1
    · exact run_equalIn_string w D t _ _ ht
  · cases h

theorem scEqs_length : ∀ {sh : List Nat} {xs ys : List AV} {r : Bool}, scEqs sh xs ys = some r → xs.length = sh.length ∧ ys.length = sh.length
  | [], xs, ys, r, h => by cases xs <;> cases ys <;> simp [scEqs] at h ⊢
  | c :: sh, xs, ys, r, h => by
    cases xs <;> cases ys <;> simp only [scEqs] at h <;> first | (cases h; done) | skip
    simp only [Option.bind_eq_some_iff, Option.map_eq_some_iff] at h
    obtain ⟨b, _, r', h2, _⟩ := h
    obtain ⟨e1, e2⟩ := scEqs_length h2
    simp [e1, e2]

/-- Of a type that is no struct: one cell. -/
theorem flatL_leaf {P : Program} {d t : Nat} {sh : List Nat} (h : flatL P (d + 1) t = some sh) (hn : ∀ fs, P.underlying t ≠ some (.struct fs)) :
    ∃ c, sh = [c] ∧ ((c = 0 ∧ ∃ k, P.underlying t = some (.int k)) ∨ (c = 1 ∧ P.underlying t = some .bool) ∨ (c = 2 ∧ P.underlying t = some .string)) := by
  unfold flatL at h
  split at h <;> rename_i hu
  · simp only [Option.some.injEq] at h; exact ⟨0, h.symm, Or.inl ⟨rfl, _, hu⟩⟩
  · simp only [Option.some.injEq] at h; exact ⟨1, h.symm, Or.inr (Or.inl ⟨rfl, hu⟩)⟩
  · simp only [Option.some.injEq] at h; exact ⟨2, h.symm, Or.inr (Or.inr ⟨rfl, hu⟩)⟩
  · exact absurd hu (hn _)
  · cases h

theorem flat_eq {X : Ctx} {w : World} {ρ : Env} : ∀ (d D t : Nat) (sh : List Nat), d ≤ D → flatL X.P d t = some sh → (fs : Array Field) → X.P.underlying t = some (.struct fs) → ∀ (xs ys : List AV) (us vs : Array Value) (r : Bool),
    Rs ρ xs us.toList → Rs ρ ys vs.toList → scEqs sh xs ys = some r → (Op.equalIn D t (.agg us) (.agg vs)).run X.P w = .ok r w := by
  intro d
  induction d with
  | zero => intro D t sh _ h; simp [flatL] at h
  | succ d ih =>
    intro D t sh hd h fs hu xs ys us vs r hx hy hr
    obtain ⟨D, rfl⟩ : ∃ m, D = m + 1 := ⟨D - 1, by omega⟩
    simp only [flatL, hu] at h
    split at h
    · cases h
    rename_i hp
    have hf : X.P.fieldsOf t = fs := by simp [Program.fieldsOf, hu]
    rw [run_equalIn_struct (P := X.P) w D t us vs (by rw [hf]; exact hu) (by simpa using hp), hf]
    -- field by field
    have key : ∀ (l : List Field) (off : Nat) (sh : List Nat) (r : Bool), flatF X.P (flatL X.P d) l off = some sh → scEqs sh (xs.drop off) (ys.drop off) = some r → (Op.eqFields D us vs l).run X.P w = .ok r w := by
      intro l
      induction l with
      | nil =>
        intro off sh r h hr
        simp only [flatF, Option.some.injEq] at h; subst h
        have : r = true := by
          generalize xs.drop off = p at hr
          generalize ys.drop off = q at hr
          cases p <;> cases q <;> simp [scEqs] at hr
          exact hr.symm ▸ rfl
        subst this
        rfl
      | cons f l ihl =>
        intro off sh r h hr
        simp only [flatF] at h
        split at h
        case isFalse => cases h
        rename_i hf
        obtain ⟨hname, hoff⟩ := hf
        simp only [Option.bind_eq_some_iff] at h
        obtain ⟨s1, h1, h⟩ := h
        split at h
        case isFalse => cases h
        rename_i hsz
        simp only [Option.map_eq_some_iff] at h
        obtain ⟨s2, h2, rfl⟩ := h
        obtain ⟨r1, r2, g1, g2, rfl⟩ := scEqs_append hr
        rw [List.drop_drop] at g2
        have g2' := ihl (off + s1.length) s2 r2 h2 (by rw [List.drop_drop] at g2; exact g2)
        -- this field
        have one : ∃ p q, (part f.type us f.offset).run X.P w = .ok p w ∧ (part f.type vs f.offset).run X.P w = .ok q w ∧ (Op.equalIn D f.type p q).run X.P w = .ok r1 w := by
          obtain ⟨e1, e2⟩ := scEqs_length g1
          rw [hoff]
          cases d with
          | zero => simp [flatL] at h1
          | succ d =>
            by_cases hst : ∃ gs, X.P.underlying f.type = some (.struct gs)
            · obtain ⟨gs, hst⟩ := hst
              have ha : aggIs X f.type true = true := by simp [aggIs, hst]
              refine ⟨.agg (us.extract off (off + s1.length)), .agg (vs.extract off (off + s1.length)), ?_, ?_, ?_⟩
              · simp [part, run_isAgg ha, run_sizeOf' hsz]
              · simp [part, run_isAgg ha, run_sizeOf' hsz]
              · refine ih D f.type s1 (by omega) h1 gs hst _ _ _ _ r1 ?_ ?_ g1
                · have := Rs_take s1.length (Rs_drop off hx)
                  simpa [List.take_drop, Nat.add_comm] using this
                · have := Rs_take s1.length (Rs_drop off hy)
                  simpa [List.take_drop, Nat.add_comm] using this
            · obtain ⟨c, rfl, hc⟩ := flatL_leaf h1 (fun gs hg => hst ⟨gs, hg⟩)
              have ha : aggIs X f.type false = true := by
                rcases hc with ⟨_, k, hc⟩ | ⟨_, hc⟩ | ⟨_, hc⟩ <;> simp [aggIs, hc]
              obtain ⟨D, rfl⟩ : ∃ m, D = m + 1 := ⟨D - 1, by omega⟩
              simp only [List.length_cons, List.length_nil, Nat.zero_add] at g1 e1 e2
              have hxo : ∃ x, xs[off]? = some x ∧ (xs.drop off).take 1 = [x] := by
                have : off < xs.length := by simp at e1; omega
                exact ⟨xs[off], List.getElem?_eq_getElem this, by rw [List.take_one, List.head?_drop, List.getElem?_eq_getElem this]; rfl⟩
              have hyo : ∃ x, ys[off]? = some x ∧ (ys.drop off).take 1 = [x] := by
                have : off < ys.length := by simp at e2; omega
                exact ⟨ys[off], List.getElem?_eq_getElem this, by rw [List.take_one, List.head?_drop, List.getElem?_eq_getElem this]; rfl⟩
              obtain ⟨x, hx1, hx2⟩ := hxo
              obtain ⟨y, hy1, hy2⟩ := hyo
              rw [hx2, hy2] at g1
              simp only [scEqs, Option.map_some, Option.bind_eq_some_iff, Option.some.injEq, Bool.and_true] at g1
              obtain ⟨b, g1, rfl⟩ := g1
              obtain ⟨u, hu1, hu2⟩ := Rs_get hx hx1
              obtain ⟨v, hv1, hv2⟩ := Rs_get hy hy1
              have hu1 : us[off]? = some u := by simpa using hu1
              have hv1 : vs[off]? = some v := by simpa using hv1
              exact ⟨u, v, by simp [part, run_isAgg ha, hu1], by simp [part, run_isAgg ha, hv1], scEq_run g1 hu2 hv2 hc⟩
        obtain ⟨p, q, o1, o2, o3⟩ := one
        rw [Op.eqFields, if_pos hname]
        simp only [Sem.run_bind, o1, o2, o3, Result.andThen_ok]
        cases r1
        · simp
        · simpa using g2'
    exact key fs.toList 0 sh r h (by simpa using hr)

def eqTy (X : Ctx) (t : Nat) : List Nat → Bool
  | [] => true
  | [1] => match X.P.underlying t with | some .bool => true | _ => false
  | [2] => match X.P.underlying t with | some (.pointer _) => true | _ => false
  | [3] => match X.P.underlying t with | some (.slice _) => true | _ => false
  | [4] => match X.P.underlying t with | some (.func _ _ _) => true | _ => false
  | 5 :: sh => decide (flatL X.P 8 t = some sh) && (match X.P.underlying t with | some (.struct _) => true | _ => false) && !X.P.eqGuardType X.P.depth t
  | _ => false


theorem nilOf_sound {ρ : Env} {x : AV} {b : Bool} {v : Value} (h : nilOf x = some b) (hs : isSlice x = true) (hr : R ρ x v) : ∃ a n c, v = .slice a n c ∧ a.isNone = b ∧ (b = true → n = 0 ∧ c = 0) := by
  cases x <;> simp only [isSlice, Bool.false_eq_true] at hs <;> simp only [nilOf] at h
  · simp only [Option.some.injEq] at h; subst h; simp only [R] at hr; exact ⟨_, _, _, hr, rfl, fun _ => ⟨rfl, rfl⟩⟩
  · simp only [Option.some.injEq] at h; subst h; simp only [R] at hr; obtain ⟨q, e, _⟩ := hr; exact ⟨_, _, _, e, rfl, fun h => by cases h⟩
  · rename_i b' off n e mn
    simp only [R] at hr
    split at h
    · cases h
    rename_i hc
    simp only [Option.some.injEq] at h; subst h
    rcases hr with ⟨q, c, e, _⟩ | ⟨h1, h2, e⟩
    · exact ⟨_, _, _, e, rfl, fun h => by cases h⟩
    · exact absurd (by simp [h1, h2]) hc

def plainV : Value → Bool
  | .bool _ => true
  | .pointer _ => true
  | .slice _ _ _ => true
  | .func _ _ _ => true
  | .nilFunc => true
  | .agg _ => true
  | _ => false

theorem binOp_eql {u v : Value} (h : plainV u = true) (t : TypeId) : binOp .eql t u v = (do pure (.bool (← Op.equal t u v))) := by
  cases u <;> simp only [plainV, Bool.false_eq_true] at h <;> cases v <;> rfl

theorem binOp_neq {u v : Value} (h : plainV u = true) (t : TypeId) : binOp .neq t u v = (do pure (.bool (!(← Op.equal t u v)))) := by
  cases u <;> simp only [plainV, Bool.false_eq_true] at h <;> cases v <;> rfl

section
variable {P : Program} (w : World) (D : Nat) {t : TypeId}
theorem eq_ptr_nil {a : Option Addr} {e : TypeId} (hu : P.underlying t = some (.pointer e)) : (Op.equalIn (D + 1) t (.pointer none) (.pointer a)).run P w = .ok a.isNone w := by
  simp [Op.equalIn, run_underlying hu]
theorem eq_ptr_some {a : Addr} {e : TypeId} (hu : P.underlying t = some (.pointer e)) : (Op.equalIn (D + 1) t (.pointer (some a)) (.pointer none)).run P w = .ok false w := by
  simp [Op.equalIn, run_underlying hu]
theorem eq_sl_nil {a : Option Addr} {n c : Nat} {e : TypeId} (hu : P.underlying t = some (.slice e)) : (Op.equalIn (D + 1) t (.slice none 0 0) (.slice a n c)).run P w = .ok a.isNone w := by
  simp [Op.equalIn, run_underlying hu]
theorem eq_sl_some {a : Option Addr} {n c : Nat} {e : TypeId} (hu : P.underlying t = some (.slice e)) : (Op.equalIn (D + 1) t (.slice a n c) (.slice none 0 0)).run P w = .ok a.isNone w := by
  cases a <;> simp [Op.equalIn, run_underlying hu]
theorem eq_fn_nil {ps rs : Array TypeId} {v : Bool} (hu : P.underlying t = some (.func ps rs v)) : (Op.equalIn (D + 1) t .nilFunc .nilFunc).run P w = .ok true w := by
  simp [Op.equalIn, run_underlying hu]
theorem eq_fn_l {ps rs : Array TypeId} {v : Bool} {f : Fn} {x y : Array Value} (hu : P.underlying t = some (.func ps rs v)) : (Op.equalIn (D + 1) t .nilFunc (.func f x y)).run P w = .ok false w := by
  simp [Op.equalIn, run_underlying hu]
theorem eq_fn_r {ps rs : Array TypeId} {v : Bool} {f : Fn} {x y : Array Value} (hu : P.underlying t = some (.func ps rs v)) : (Op.equalIn (D + 1) t (.func f x y) .nilFunc).run P w = .ok false w := by
  simp [Op.equalIn, run_underlying hu]
end

theorem aeq_sound {X : Ctx} {w : World} {ρ : Env} {e : List Nat} {x y : AV} {b : Bool} (h : aeq e x y = some b) {t : Nat} (ht : eqTy X t e = true) {u v : Value} (hx : R ρ x u) (hy : R ρ y v) :
    (Op.equal t u v).run X.P w = .ok b w ∧ (∀ op p q, (eqGuard op t p q u v).run X.P w = .ok () w) ∧ plainV u = true := by
  unfold Op.equal Op.maxDepth
  unfold aeq at h
  split at h
  · simp only [Option.some.injEq] at h; subst h
    simp only [R] at hx hy; subst hx; subst hy
    simp only [eqTy] at ht
    split at ht <;> rename_i hu
    · exact ⟨run_equalIn_bool' w 9999 t _ _ hu, fun op p q => by cases op <;> rfl, rfl⟩
    · cases ht
  · simp only [Option.some.injEq] at h; subst h
    simp only [R] at hx hy; subst hx; subst hy
    simp only [eqTy] at ht
    split at ht <;> rename_i hu
    · exact ⟨eq_ptr_nil w 9999 hu, fun op p q => by cases op <;> rfl, rfl⟩
    · cases ht
  · simp only [Option.some.injEq] at h; subst h
    simp only [R] at hx hy; subst hx; subst hy
    simp only [eqTy] at ht
    split at ht <;> rename_i hu
    · exact ⟨eq_ptr_nil w 9999 hu, fun op p q => by cases op <;> rfl, rfl⟩
    · cases ht
  · simp only [Option.some.injEq] at h; subst h
    simp only [R] at hx hy; subst hx; subst hy
    simp only [eqTy] at ht
    split at ht <;> rename_i hu
    · exact ⟨eq_ptr_some w 9999 hu, fun op p q => by cases op <;> rfl, rfl⟩
    · cases ht
  · split at h
    · rename_i hs
      simp only [R] at hx; subst hx
      obtain ⟨a, n, c, e1, e2, e3⟩ := nilOf_sound h hs hy
      subst e1; subst e2
      simp only [eqTy] at ht
      split at ht <;> rename_i hu
      · exact ⟨eq_sl_nil w 9999 hu, fun op p q => by cases op <;> rfl, rfl⟩
      · cases ht
    · cases h
  · split at h
    · rename_i hs
      simp only [R] at hy; subst hy
      obtain ⟨a, n, c, e1, e2, e3⟩ := nilOf_sound h hs hx
      subst e1; subst e2
      simp only [eqTy] at ht
      split at ht <;> rename_i hu
      · exact ⟨eq_sl_some w 9999 hu, fun op p q => by cases op <;> rfl, rfl⟩
      · cases ht
    · cases h
  · simp only [Option.some.injEq] at h; subst h
    simp only [R] at hx hy; subst hx; subst hy
    simp only [eqTy] at ht
    split at ht <;> rename_i hu
    · exact ⟨eq_fn_nil w 9999 hu, fun op p q => by cases op <;> rfl, rfl⟩
    · cases ht
  · simp only [Option.some.injEq] at h; subst h
    simp only [R] at hx hy; subst hx
    obtain ⟨vs, rfl, _⟩ := hy
    simp only [eqTy] at ht
    split at ht <;> rename_i hu
    · exact ⟨eq_fn_l w 9999 hu, fun op p q => by cases op <;> rfl, rfl⟩
    · cases ht
  · simp only [Option.some.injEq] at h; subst h
    simp only [R] at hx hy; subst hy
    obtain ⟨vs, rfl, _⟩ := hx
    simp only [eqTy] at ht
    split at ht <;> rename_i hu
    · exact ⟨eq_fn_r w 9999 hu, fun op p q => by cases op <;> rfl, rfl⟩
    · cases ht
  · rename_i sh xs ys
    simp only [R] at hx hy
    obtain ⟨us, rfl, hx⟩ := hx
    obtain ⟨vs, rfl, hy⟩ := hy
    have ht' : (decide (flatL X.P 8 t = some sh) && (match X.P.underlying t with | some (.struct _) => true | _ => false) && !X.P.eqGuardType X.P.depth t) = true := by
      unfold eqTy at ht
      split at ht <;> first | (rename_i e; injection e with e1 e2; subst e2; exact ht) | (rename_i e; injection e; done) | simp_all
    simp only [Bool.and_eq_true, decide_eq_true_eq, Bool.not_eq_true'] at ht'
    obtain ⟨⟨h1, h2⟩, h3⟩ := ht'
    split at h2 <;> rename_i hu
    · exact ⟨flat_eq 8 10000 t sh (by omega) h1 _ hu xs ys us vs b hx hy h, fun op p q => run_eqGuard_agg w op t p q us vs h3, rfl⟩
    · cases h2
  · cases h

section
variable {X : Ctx} {B : Nat} {ρg : Env} {gl : AHeap} {ρ : Env} {h h' : AHeap} {w : World} {nt : Nat} {a : Acts} {A : Act} {v : AV} {o : Oper}

theorem aeq_lt {e : List Nat} {x y : AV} {op : BinOp} {r : AV} : (match op with | .eql => (aeq e x y).map .bool | .neq => (aeq e x y).map fun b => .bool !b | _ => none) = some r →
    ∃ b, aeq e x y = some b ∧ ((op = .eql ∧ r = .bool b) ∨ (op = .neq ∧ r = .bool (!b))) := by
  intro h
  cases op <;> simp only at h <;> first | (cases h; done) | skip
  · simp only [Option.map_eq_some_iff] at h; obtain ⟨b, h1, rfl⟩ := h; exact ⟨b, h1, Or.inl ⟨rfl, rfl⟩⟩
  · simp only [Option.map_eq_some_iff] at h; obtain ⟨b, h1, rfl⟩ := h; exact ⟨b, h1, Or.inr ⟨rfl, rfl⟩⟩

theorem abin_lt {op : BinOp} {e : List Nat} {x y r : AV} (h : abin op e x y = some r) : r.lt 0 = true := by
  unfold abin at h
  split at h
  · rename_i k a k' b
    cases op <;> simp only [abinInt] at h <;> (repeat' split at h) <;> first | (cases h; done) | (simp only [Option.some.injEq] at h; subst h; rfl)
  · rename_i s t
    cases op <;> simp only [abinStr] at h <;> (repeat' split at h) <;> first | (cases h; done) | (simp only [Option.some.injEq] at h; subst h; rfl)
  · obtain ⟨b, _, ⟨_, rfl⟩ | ⟨_, rfl⟩⟩ := aeq_lt h <;> rfl

theorem s_bin (hst : St B ρg gl X.gid ρ h w) (hG : gl.length = X.G) (ha : AR ρ h.length nt a A) {op : BinOp} {e : List Nat} {t t' : Nat} {p q : Operand} {x y : MX} (ho : o.op = .binOp op t p q t') (hc : chkX X p x = true) (hd : chkX X q y = true)
    (ht : eqTy X t e = true) {r : AV × AHeap × List Nat} {call : CallT} (hr : aop call (.bin op e x y) a h = some r) : Out X B ρg gl ρ h w A o r.1 r.2.1 := by
  simp only [aop, Option.bind_eq_some_iff, Option.map_eq_some_iff] at hr
  obtain ⟨xv, h0, yv, h1, v, h2, rfl⟩ := hr
  obtain ⟨e1, e2⟩ := aeval_sound ha (fun i hi => hst.pre i (by omega)) hc h0
  obtain ⟨f1, f2⟩ := aeval_sound ha (fun i hi => hst.pre i (by omega)) hd h1
  have hl := AV.lt_mono (Nat.zero_le h.length) _ (abin_lt h2)
  have hex : (execOp A.eval o).run X.P w = ((eqGuard op t p q (A.eval p) (A.eval q)).run X.P w).andThen fun _ w => ((binOp op t (A.eval p) (A.eval q)).run X.P w).andThen fun v w => .ok (.value v) w := by
    simp [execOp, ho]
  unfold abin at h2
  split at h2
  · simp only [R] at e2 f2
    obtain ⟨u, g1, g2⟩ := abinInt_sound h2 X.P w t
    refine out_value hst (x := u) ?_ hl (g2 ρ)
    rw [hex, e2, f2]
    have : ∀ k n z, (eqGuard op t p q (.int k n) z).run X.P w = .ok () w := by intro k n z; cases op <;> rfl
    simp only [this, Result.andThen_ok, g1]
  · simp only [R] at e2 f2
    obtain ⟨u, g1, g2⟩ := abinStr_sound h2 X.P w t
    refine out_value hst (x := u) ?_ hl (g2 ρ)
    rw [hex, e2, f2]
    have : ∀ n z, (eqGuard op t p q (.string n) z).run X.P w = .ok () w := by intro n z; cases op <;> rfl
    simp only [this, Result.andThen_ok, g1]
  · rename_i n1 n2
    obtain ⟨b, h3, h4⟩ := aeq_lt h2
    obtain ⟨g1, g2, g3⟩ := aeq_sound (w := w) h3 ht e2 f2
    refine out_value hst (x := (if op = .neq then .bool (!b) else .bool b)) ?_ hl ?_
    · rw [hex, g2]
      simp only [Result.andThen_ok]
      rcases h4 with ⟨rfl, rfl⟩ | ⟨rfl, rfl⟩
      · rw [binOp_eql g3]; simp [g1]
      · rw [binOp_neq g3]; simp [g1]
    · rcases h4 with ⟨rfl, rfl⟩ | ⟨rfl, rfl⟩ <;> simp [R]

end
end Go.Proofs.YtdpbbagllhfjbaaDoorW.AI
/-! Operations: addresses, cuts, new values. -/
namespace Go.Proofs.YtdpbbagllhfjbaaDoorW.AI
open Go
set_option linter.unusedVariables false
set_option linter.unusedSimpArgs false

section
variable {X : Ctx} {B : Nat} {ρg : Env} {gl : AHeap} {ρ : Env} {h h' : AHeap} {w : World} {nt : Nat} {a : Acts} {A : Act} {v : AV} {o : Oper}

theorem s_ia (hst : St B ρg gl X.gid ρ h w) (hG : gl.length = X.G) (ha : AR ρ h.length nt a A) {t e esz : Nat} {arr : Option Nat} {p q : Operand} {x y : MX} (ho : o.op = .indexAddr t p q) (hc : chkX X p x = true) (hd : chkX X q y = true)
    (hs : (match arr with | some n => X.P.underlying t = some (.array n e) | none => X.P.underlying t = some (.slice e))) (he : szIs X e esz = true) {r : AV × AHeap × List Nat} {call : CallT}
    (hr : aop call (.ia arr esz x y) a h = some r) : Out X B ρg gl ρ h w A o r.1 r.2.1 := by
  simp only [aop, Option.bind_eq_some_iff] at hr
  obtain ⟨xv, h0, iv, h1, i, h2, hr⟩ := hr
  obtain ⟨e1, e2⟩ := aeval_sound ha (fun i hi => hst.pre i (by omega)) hc h0
  obtain ⟨f1, f2⟩ := aeval_sound ha (fun i hi => hst.pre i (by omega)) hd h1
  obtain ⟨k, m, g1, g2, g3⟩ := asN_sound h2 f2
  have hsz : (sizeOf e).run X.P w = .ok esz w := run_sizeOf' (by simpa [szIs] using he)
  split at hr
  · split at hr
    · rename_i len b off hi
      simp only [Option.some.injEq] at hr; subst hr
      simp only [R] at e2
      refine out_value hst (x := .pointer (some (ρ.addr b (off + i * esz)))) ?_ e1 rfl
      have hi' : 0 ≤ m ∧ m < (len : Int) := by omega
      simp only at hs
      simp [execOp, ho, Instr.indexAt, g1, asIntOf, run_underlying hs, e2, Instr.sureAddr, hi', hsz, g3, Env.addr_add]
    · cases hr
  · split at hr
    · rename_i b off n c hi
      simp only [Option.some.injEq] at hr; subst hr
      simp only [R] at e2
      obtain ⟨q', e3, e4, e5⟩ := e2
      have hq := e4 (by omega)
      refine out_value hst (x := .pointer (some (ρ.addr b (off + i * esz)))) ?_ e1 rfl
      have hi' : 0 ≤ m ∧ m < (n : Int) := by omega
      simp only at hs
      subst hq
      simp [execOp, ho, Instr.indexAt, g1, asIntOf, run_underlying hs, e3, hi', hsz, g3, addr_add, Env.addr, Nat.add_assoc]
    · cases hr
  · split at hr
    · rename_i b off n e' mn hi
      simp only [Option.some.injEq] at hr; subst hr
      simp only [R] at e2
      rcases e2 with ⟨q', c, e3, e4, e5⟩ | ⟨_, e3, _⟩
      · have hq := (e5 (by omega)).1
        refine out_value hst (x := .pointer (some (ρ.addr b (off + i * esz)))) ?_ e1 rfl
        have hi' : 0 ≤ m ∧ m < (n : Int) := by omega
        simp only at hs
        subst hq
        simp [execOp, ho, Instr.indexAt, g1, asIntOf, run_underlying hs, e3, hi', hsz, g3, addr_add, Env.addr, Nat.add_assoc]
      · omega
    · cases hr
  · cases hr

def chkO (X : Ctx) : Option Operand → Option MX → Bool
  | none, none => true
  | some o, some x => chkX X o x
  | _, _ => false

def IsN (A : Act) (p : Option Operand) : Option Nat → Prop
  | none => p = none
  | some n => ∃ q k m, p = some q ∧ A.eval q = .int k m ∧ 0 ≤ m ∧ m.toNat = n

theorem optN_sound (hst : St B ρg gl X.gid ρ h w) (hG : gl.length = X.G) (ha : AR ρ h.length nt a A) {p : Option Operand} {x : Option MX} (hc : chkO X p x = true) {n : Option Nat} (hn : optN a x = some n) : IsN A p n := by
  cases x with
  | none => simp only [optN, Option.some.injEq] at hn; subst hn; cases p <;> simp [chkO, IsN] at hc ⊢
  | some x =>
    cases p with
    | none => simp [chkO] at hc
    | some p =>
      simp only [chkO] at hc
      simp only [optN, Option.bind_eq_some_iff, Option.map_eq_some_iff] at hn
      obtain ⟨v, h1, m, h2, rfl⟩ := hn
      obtain ⟨e1, e2⟩ := aeval_sound ha (fun i hi => hst.pre i (by omega)) hc h1
      obtain ⟨k, z, g1, g2, g3⟩ := asN_sound h2 e2
      exact ⟨p, k, z, rfl, g1, g2, g3⟩

theorem run_sliceBound {P : Program} {w : World} {k : IntKind} {m : Int} {y n : Nat} {c : BoundsCode} (h0 : 0 ≤ m) (hn : m.toNat = n) (hy : n ≤ y) : (Instr.sliceBound (.int k m) y c).run P w = .ok n w := by
  have : 0 ≤ m ∧ m ≤ (y : Int) := by omega
  simp [Instr.sliceBound, asIntOf, this, hn]

theorem bounds_some {len cap : Nat} {lo hi : Option Nat} {l u : Nat} (h : bounds len cap lo hi = some (l, u)) : u = hi.getD len ∧ l = lo.getD 0 ∧ u ≤ cap ∧ l ≤ u := by
  simp only [bounds] at h
  split at h
  · rename_i hc
    simp only [Option.some.injEq, Prod.mk.injEq] at h
    obtain ⟨rfl, rfl⟩ := h
    exact ⟨rfl, rfl, hc.1, hc.2⟩
  · cases h

/-- The three bounds of a cut, as the machine finds them. -/
theorem run_bounds {P : Program} {w : World} {A : Act} {isS : Bool} {len cap : Nat} {plo phi pmx : Option Operand} {lo hi mx : Option Nat} {l u : Nat}
    (hlo : IsN A plo lo)
    (hhi : IsN A phi hi)
    (hmx : IsN A pmx mx)
    (hm : mx.getD cap ≤ cap) (hx : mx.isSome = true → hi.isSome = true) (hu : u = hi.getD len) (hl : l = lo.getD 0) (h1 : u ≤ mx.getD cap) (h2 : l ≤ u) :
    (Instr.sliceBounds isS len cap (plo.map A.eval) (phi.map A.eval) (pmx.map A.eval)).run P w = .ok (l, u, mx.getD cap) w := by
  cases lo <;> cases hi <;> cases mx <;> simp only [IsN] at hlo hhi hmx <;> simp only [Option.isSome_some, Option.isSome_none, Bool.false_eq_true, imp_false, not_true, true_implies] at hx <;> simp only [Option.getD_some, Option.getD_none] at * <;> subst hu <;> subst hl
  · subst hlo; subst hhi; subst hmx; simp [Instr.sliceBounds]
  · subst hlo; subst hmx
    obtain ⟨q, k, m, rfl, e1, e2, e3⟩ := hhi
    simp [Instr.sliceBounds, e1, run_sliceBound e2 e3 h1]
  · subst hlo
    obtain ⟨q, k, m, rfl, e1, e2, e3⟩ := hhi
    obtain ⟨q', k', m', rfl, f1, f2, f3⟩ := hmx
    simp [Instr.sliceBounds, e1, f1, run_sliceBound f2 f3 hm, run_sliceBound e2 e3 h1]
  · subst hhi; subst hmx
    obtain ⟨q, k, m, rfl, e1, e2, e3⟩ := hlo
    simp [Instr.sliceBounds, e1, run_sliceBound e2 e3 h2]
  · subst hmx
    obtain ⟨q, k, m, rfl, e1, e2, e3⟩ := hlo
    obtain ⟨q', k', m', rfl, f1, f2, f3⟩ := hhi
    simp [Instr.sliceBounds, e1, f1, run_sliceBound e2 e3 h2, run_sliceBound f2 f3 h1]
  · obtain ⟨q, k, m, rfl, e1, e2, e3⟩ := hlo
    obtain ⟨q', k', m', rfl, f1, f2, f3⟩ := hhi
    obtain ⟨q2, k2, m2, rfl, g1, g2, g3⟩ := hmx
    simp [Instr.sliceBounds, e1, f1, g1, run_sliceBound e2 e3 h2, run_sliceBound f2 f3 h1, run_sliceBound g2 g3 hm]

theorem s_slc (hst : St B ρg gl X.gid ρ h w) (hG : gl.length = X.G) (ha : AR ρ h.length nt a A) {t e esz : Nat} {arr : Option Nat} {p : Operand} {x : MX} {plo phi pmx : Option Operand} {lo hi mx : Option MX} (ho : o.op = .slice t p plo phi pmx) (hc : chkX X p x = true)
    (hlo : chkO X plo lo = true) (hhi : chkO X phi hi = true) (hmx : chkO X pmx mx = true) (hx : mx.isSome = true → hi.isSome = true)
    (hs : (match arr with | some n => X.P.underlying t = some (.array n e) | none => X.P.underlying t = some (.slice e))) (he : szIs X e esz = true) {r : AV × AHeap × List Nat} {call : CallT}
    (hr : aop call (.slc arr esz x lo hi mx) a h = some r) : Out X B ρg gl ρ h w A o r.1 r.2.1 := by
  simp only [aop, Option.bind_eq_some_iff] at hr
  obtain ⟨xv, h0, nlo, h1, nhi, h2, nmx, h3, hr⟩ := hr
  obtain ⟨e1, e2⟩ := aeval_sound ha (fun i hi => hst.pre i (by omega)) hc h0
  have slo := optN_sound hst hG ha hlo h1
  have shi := optN_sound hst hG ha hhi h2
  have smx := optN_sound hst hG ha hmx h3
  have hx' : nmx.isSome = true → nhi.isSome = true := by
    intro hm
    cases mx with
    | none => simp only [optN, Option.some.injEq] at h3; subst h3; simp at hm
    | some mx =>
      have := hx rfl
      cases hi with
      | none => simp at this
      | some hi => simp only [optN, Option.bind_eq_some_iff, Option.map_eq_some_iff] at h2; obtain ⟨_, _, _, _, rfl⟩ := h2; rfl
  have hsz : (sizeOf e).run X.P w = .ok esz w := run_sizeOf' (by simpa [szIs] using he)
  split at hr
  · -- an array
    rename_i len b off
    simp only at hs
    have : ∃ l u, (match nmx with | none => bounds len len nlo nhi | some m => if m ≤ len then bounds len m nlo nhi else none) = some (l, u) ∧ r = (.sl b (off + l * esz) (u - l) (nmx.getD len - l), h, []) := by
      simp only [Option.map_eq_some_iff] at hr
      obtain ⟨⟨l, u⟩, q1, q2⟩ := hr
      exact ⟨l, u, q1, q2.symm⟩
    obtain ⟨l, u, hb, rfl⟩ := this
    have hbb : nmx.getD len ≤ len ∧ u = nhi.getD len ∧ l = nlo.getD 0 ∧ u ≤ nmx.getD len ∧ l ≤ u := by
      cases nmx with
      | none => simp only at hb; have := bounds_some hb; simp only [Option.getD_none]; omega
      | some m => simp only at hb; split at hb
                  · have := bounds_some hb; simp only [Option.getD_some]; omega
                  · cases hb
    obtain ⟨q1, q2, q3, q4, q5⟩ := hbb
    have hrun := run_bounds (P := X.P) (w := w) (isS := false) (len := len) (cap := len) slo shi smx q1 hx' q2 q3 q4 q5
    simp only [R] at e2
    refine out_value hst (x := .slice (some (if nmx.getD len = l then ρ.addr b off else ρ.addr b (off + l * esz))) (u - l) (nmx.getD len - l)) ?_ e1 ?_
    · simp [execOp, ho, Instr.sliceAt, run_underlying hs, e2, Instr.sureAddr, hrun, hsz, Env.addr_add]
    · simp only [R]
      by_cases hml : nmx.getD len = l
      · rw [if_pos hml]
        exact ⟨_, rfl, fun hne => by omega, by omega⟩
      · rw [if_neg hml]
        exact ⟨_, rfl, fun _ => rfl, by omega⟩
  · -- nil
    simp only at hs
    simp only [Option.bind_eq_some_iff] at hr
    obtain ⟨⟨l, u⟩, hb, hr⟩ := hr
    obtain ⟨q1, q2, q3, q4⟩ := bounds_some hb
    have hm0 : nmx.getD 0 = 0 ∧ r = (.nils, h, []) := by
      cases nmx with
      | none => simp only [Option.some.injEq] at hr; exact ⟨rfl, hr.symm⟩
      | some m =>
        simp only at hr
        split at hr
        · rename_i hm; simp only [Option.some.injEq] at hr; exact ⟨by simpa using hm, hr.symm⟩
        · cases hr
    obtain ⟨hm0, rfl⟩ := hm0
    have hrun := run_bounds (P := X.P) (w := w) (isS := true) (len := 0) (cap := 0) slo shi smx (by omega) hx' q1 q2 (by omega) q4
    simp only [R] at e2
    have hl0 : l = 0 := by omega
    have hu0 : u = 0 := by omega
    subst hl0; subst hu0
    refine out_value hst (x := .slice none 0 0) ?_ rfl rfl
    simp [execOp, ho, Instr.sliceAt, Instr.slice, run_underlying hs, e2, hrun, hsz, hm0]
  · -- a slice whose capacity is known
    rename_i b off n c
    simp only at hs
    have : ∃ l u, (match nmx with | none => bounds n c nlo nhi | some m => if m ≤ c then bounds n m nlo nhi else none) = some (l, u) ∧ r = (.sl b (off + l * esz) (u - l) (nmx.getD c - l), h, []) := by
      simp only [Option.map_eq_some_iff] at hr
      obtain ⟨⟨l, u⟩, q1, q2⟩ := hr
      exact ⟨l, u, q1, q2.symm⟩
    obtain ⟨l, u, hb, rfl⟩ := this
    simp only [R] at e2
    obtain ⟨q', e3, e4, e5⟩ := e2
    have hbb : nmx.getD c ≤ c ∧ u = nhi.getD n ∧ l = nlo.getD 0 ∧ u ≤ nmx.getD c ∧ l ≤ u := by
      cases nmx with
      | none => simp only at hb; have := bounds_some hb; simp only [Option.getD_none]; omega
      | some m => simp only at hb; split at hb
                  · have := bounds_some hb; simp only [Option.getD_some]; omega
                  · cases hb
    obtain ⟨q1, q2, q3, q4, q5⟩ := hbb
    have hrun := run_bounds (P := X.P) (w := w) (isS := true) (len := n) (cap := c) slo shi smx q1 hx' q2 q3 q4 q5
    refine out_value hst (x := .slice (some (if nmx.getD c = l then q' else q'.add (l * esz))) (u - l) (nmx.getD c - l)) ?_ e1 ?_
    · simp only [execOp, ho, Instr.sliceAt, Instr.slice, Sem.run_bind, run_underlying hs, Result.andThen_ok, e3, hrun, hsz, Sem.run_pure, Option.map_some]
      split <;> rfl
    · simp only [R]
      by_cases hml : nmx.getD c = l
      · rw [if_pos hml]
        exact ⟨_, rfl, fun hne => by omega, by omega⟩
      · rw [if_neg hml]
        exact ⟨_, rfl, fun _ => by rw [e4 (by omega), addr_add, Nat.add_assoc], by omega⟩
  · -- a slice that grew
    rename_i b off n e' mn
    simp only at hs
    split at hr
    case isFalse => cases hr
    rename_i he'; subst he'
    simp only [R] at e2
    split at hr
    · simp only [Option.map_eq_some_iff] at hr
      obtain ⟨⟨l, u⟩, hb, rfl⟩ := hr
      obtain ⟨q2, q3, q4, q5⟩ := bounds_some hb
      rcases e2 with ⟨q', c, e3, e4, e5⟩ | ⟨e3, e4, e5⟩
      · have hrun := run_bounds (P := X.P) (w := w) (isS := true) (len := n) (cap := c) (mx := none) slo shi smx (Nat.le_refl _) hx' q2 q3 (by simp only [Option.getD_none]; omega) q5
        simp only [Option.getD_none] at hrun
        refine out_value hst (x := .slice (some (if c = l then ⟨ρ.blk b, q', none⟩ else ⟨ρ.blk b, q' + l * e', none⟩)) (u - l) (c - l)) ?_ e1 ?_
        · simp only [execOp, ho, Instr.sliceAt, Instr.slice, Sem.run_bind, run_underlying hs, Result.andThen_ok, e3, hrun, hsz, Sem.run_pure, Option.map_some, addr_add]
          split <;> rfl
        · simp only [R]
          refine Or.inl ?_
          by_cases hml : c = l
          · rw [if_pos hml]
            exact ⟨_, _, rfl, by omega, fun hne => by omega⟩
          · rw [if_neg hml]
            refine ⟨_, _, rfl, by omega, fun hne => ?_⟩
            obtain ⟨g1, g2⟩ := e5 (by omega)
            refine ⟨by rw [g1, Nat.add_assoc], ?_⟩
            have : (c - l) * e' + l * e' = c * e' := by rw [← Nat.add_mul]; congr 1; omega
            omega
      · have hrun := run_bounds (P := X.P) (w := w) (isS := true) (len := n) (cap := 0) (mx := none) slo shi smx (Nat.le_refl _) hx' q2 q3 (by simp only [Option.getD_none]; omega) q5
        simp only [Option.getD_none] at hrun
        have hl0 : l = 0 := by omega
        have hu0 : u = 0 := by omega
        subst e4; subst hl0; subst hu0
        refine out_value hst (x := .slice none 0 0) ?_ e1 ?_
        · simp only [execOp, ho, Instr.sliceAt, Instr.slice, Sem.run_bind, run_underlying hs, Result.andThen_ok, e5, hrun, hsz, Sem.run_pure, Option.map_none, if_true]
        · simp [R, e3]
    · split at hr
      case isFalse => cases hr
      rename_i m hm
      simp only [Option.map_eq_some_iff] at hr
      obtain ⟨⟨l, u⟩, hb, rfl⟩ := hr
      obtain ⟨q2, q3, q4, q5⟩ := bounds_some hb
      rcases e2 with ⟨q', c, e3, e4, e5⟩ | ⟨e3, e4, e5⟩
      · have hrun := run_bounds (P := X.P) (w := w) (isS := true) (len := n) (cap := c) (mx := some m) slo shi smx (by simp only [Option.getD_some]; omega) hx' q2 q3 (by simp only [Option.getD_some]; omega) q5
        simp only [Option.getD_some] at hrun
        refine out_value hst (x := .slice (some (if m = l then ⟨ρ.blk b, q', none⟩ else ⟨ρ.blk b, q' + l * e', none⟩)) (u - l) (m - l)) ?_ e1 ?_
        · simp only [execOp, ho, Instr.sliceAt, Instr.slice, Sem.run_bind, run_underlying hs, Result.andThen_ok, e3, hrun, hsz, Sem.run_pure, Option.map_some, addr_add]
          split <;> rfl
        · simp only [R]
          by_cases hml : m = l
          · rw [if_pos hml]
            exact ⟨_, rfl, fun hne => by omega, by omega⟩
          · rw [if_neg hml]
            exact ⟨_, rfl, fun _ => by rw [(e5 (by omega)).1, Nat.add_assoc], by omega⟩
      · rw [e3] at hm; simp at hm
  · cases hr

theorem s_slstr (hst : St B ρg gl X.gid ρ h w) (hG : gl.length = X.G) (ha : AR ρ h.length nt a A) {t : Nat} {p : Operand} {x : MX} {plo phi : Option Operand} {lo hi : Option MX} (ho : o.op = .slice t p plo phi none) (hc : chkX X p x = true)
    (hlo : chkO X plo lo = true) (hhi : chkO X phi hi = true) (hs : X.P.underlying t = some .string) {r : AV × AHeap × List Nat} {call : CallT}
    (hr : aop call (.slstr x lo hi) a h = some r) : Out X B ρg gl ρ h w A o r.1 r.2.1 := by
  simp only [aop, Option.bind_eq_some_iff] at hr
  obtain ⟨xv, h0, nlo, h1, nhi, h2, hr⟩ := hr
  obtain ⟨e1, e2⟩ := aeval_sound ha (fun i hi => hst.pre i (by omega)) hc h0
  have slo := optN_sound hst hG ha hlo h1
  have shi := optN_sound hst hG ha hhi h2
  split at hr
  · rename_i s
    simp only [Option.map_eq_some_iff] at hr
    obtain ⟨⟨l, u⟩, hb, rfl⟩ := hr
    obtain ⟨q2, q3, q4, q5⟩ := bounds_some hb
    have hrun := run_bounds (P := X.P) (w := w) (isS := false) (len := s.size) (cap := s.size) (mx := none) (pmx := none) slo shi rfl (Nat.le_refl _) (by simp) q2 q3 q4 q5
    simp only [R] at e2
    refine out_value hst (x := .string (s.extract l u)) ?_ rfl rfl
    simp only [Option.map_none] at hrun
    simp [execOp, ho, Instr.sliceAt, Instr.slice, run_underlying hs, e2, hrun]
  · cases hr

-- ------------------------------------------------------------------ new blocks

/-- Whether cells are those of a value. -/
def chkC (c : ACells) (v : Value) : Bool := chkVs c.list v.cells.toList && c.list.all AV.isCell

theorem chkC_lt {c : ACells} {v : Value} (h : chkC c v = true) {n : Nat} : c.lt n = true := by
  simp only [chkC, Bool.and_eq_true, List.all_eq_true] at h
  exact ACells.lt_mono (Nat.zero_le _) (ACells.lt_list.2 fun x hx => ⟨AV.lts_iff.1 (chkVs_lt _ _ h.1) x hx, h.2 x hx⟩)

theorem s_new (hst : St B ρg gl X.gid ρ h w) {c : ACells} {arr : Array Value} {T : TypeId} (hlt : c.lt h.length = true) (hr : Rs ρ c.list arr.toList) {w' : World} (hw : w' = World.alloc w (.cells arr T)) {v : AV} {x : Value}
    (hv : R (ρ.upd h.length w.heap.size 0 arr.size) v x) (hvl : v.lt (h.length + 1) = true) : Post X B ρg gl ρ h w v (h ++ [.new c]) x w' := by
  subst hw
  have hlen := Rs_length hr
  obtain ⟨r1, r2⟩ := hst.rep.alloc hst.le (T := T) (fz := (0, 0)) (arr := arr) hlt (fun q _ hq => by simp at hq) (by rw [ACells.len_list, hlen]; simp) (fun j v hj => by
    rw [ACells.get_list] at hj
    obtain ⟨y, h1, h2⟩ := Rs_get hr hj
    exact ⟨y, by simpa using h1, h2⟩)
  exact post_mem hst (Env.upd_agree _ _ _ _ _) hv (by simpa using hvl) r1 r2 (by simp)

theorem upd_ptr (ρ : Env) (n b s : Nat) : R (ρ.upd n b 0 s) (.ptr n 0) (.pointer (some ⟨b, 0, none⟩)) := by
  simp [R, Env.addr, Env.upd]

theorem s_al (hst : St B ρg gl X.gid ρ h w) {t : Nat} {z : ACells} {zv : Value} (ho : o.op = .alloc t) (hz : (X.P.info? t).bind (·.zero) = some zv) (hc : chkC z zv = true) {r : AV × AHeap × List Nat} {call : CallT}
    (hr : aop call (.al z) a h = some r) : Out X B ρg gl ρ h w A o r.1 r.2.1 := by
  simp only [aop, Option.some.injEq] at hr; subst hr
  simp only [chkC, Bool.and_eq_true] at hc
  rw [Option.bind_eq_some_iff] at hz
  obtain ⟨i, hi, hz⟩ := hz
  refine ⟨_, .pointer (some ⟨w.heap.size, 0, none⟩), World.alloc w (.cells zv.cells t), ?_, Or.inl rfl, s_new hst (chkC_lt (by simpa [chkC] using hc)) (chkVs_R ρ _ _ hc.1) rfl (upd_ptr _ _ _ _) (by simp [AV.lt])⟩
  simp [execOp, ho, Instr.alloc, zeroValue, run_typeInfo' hi, hz, newVar, newRow]

theorem toInts_list {k : IntKind} : ∀ {l : List AV} {m : List Int}, toInts k l = some m → l = m.map (AV.int k)
  | [], m, h => by simp only [toInts, Option.some.injEq] at h; subst h; rfl
  | x :: l, m, h => by
    cases x <;> simp only [toInts] at h <;> first | (cases h; done) | skip
    split at h
    · rename_i hk; subst hk
      simp only [Option.map_eq_some_iff] at h
      obtain ⟨m', h1, rfl⟩ := h
      rw [toInts_list h1]; rfl
    · cases h

theorem mkCells_list {ik : Option IntKind} {l : List AV} {c : ACells} (h : mkCells ik l = some c) : c.list = l ∧ ∀ v ∈ l, v.isCell = true := by
  cases ik with
  | some k =>
    simp only [mkCells, Option.map_eq_some_iff] at h
    obtain ⟨m, h1, rfl⟩ := h
    have := toInts_list h1
    subst this
    exact ⟨rfl, fun v hv => by obtain ⟨n, _, rfl⟩ := List.mem_map.1 hv; rfl⟩
  | none =>
    simp only [mkCells] at h
    split at h
    · rename_i hc
      simp only [Option.some.injEq] at h; subst h
      exact ⟨rfl, by simpa using hc⟩
    · cases h

theorem cells_lt {n : Nat} {x : AV} (h : x.lt n = true) : ∀ u ∈ x.cells, u.lt n = true := by
  intro u hu
  cases x with
  | agg cs => exact AV.lts_iff.1 (show AV.lts n cs = true from by simpa [AV.lt] using h) u hu
  | _ => simp only [AV.cells, List.mem_singleton] at hu; subst hu; exact h

theorem s_bx (hst : St B ρg gl X.gid ρ h w) (hG : gl.length = X.G) (ha : AR ρ h.length nt a A) {t n : Nat} {ik : Option IntKind} {p : Operand} {x : MX} (ho : o.op = .box t p) (hc : chkX X p x = true) {r : AV × AHeap × List Nat} {call : CallT}
    (hr : aop call (.bx ik n x) a h = some r) : Out X B ρg gl ρ h w A o r.1 r.2.1 := by
  simp only [aop, Option.bind_eq_some_iff] at hr
  obtain ⟨xv, h0, c, h1, hr⟩ := hr
  obtain ⟨e1, e2⟩ := aeval_sound ha (fun i hi => hst.pre i (by omega)) hc h0
  split at hr
  case isFalse => cases hr
  simp only [Option.some.injEq] at hr; subst hr
  obtain ⟨f1, f2⟩ := mkCells_list h1
  have hcs := R_cells e2 f2
  rw [← f1] at hcs
  refine ⟨_, .pointer (some ⟨w.heap.size, 0, none⟩), World.alloc w (.cells (A.eval p).cells t), ?_, Or.inl rfl, s_new hst (ACells.lt_list.2 (by rw [f1]; exact fun x hx => ⟨cells_lt e1 x hx, f2 x hx⟩)) hcs rfl (upd_ptr _ _ _ _) (by simp [AV.lt])⟩
  simp [execOp, ho, Instr.box, newVar, newRow]

end
end Go.Proofs.YtdpbbagllhfjbaaDoorW.AI
/-! Operations: literals, makes, lengths, appends, copies. -/
namespace Go.Proofs.YtdpbbagllhfjbaaDoorW.AI
open Go
set_option linter.unusedVariables false
set_option linter.unusedSimpArgs false

theorem Rs_set {ρ : Env} : ∀ {as : List AV} {vs : List Value} (i : Nat) {a : AV} {v : Value}, Rs ρ as vs → R ρ a v → Rs ρ (as.set i a) (vs.set i v)
  | [], vs, i, a, v, h, _ => by simp only [Rs] at h; subst h; simp [Rs]
  | x :: xs, vs, i, a, v, h, hr => by
    simp only [Rs] at h
    obtain ⟨u, us, rfl, h1, h2⟩ := h
    cases i with
    | zero => simp only [List.set_cons_zero, Rs]; exact ⟨v, us, rfl, hr, h2⟩
    | succ i => simp only [List.set_cons_succ, Rs]; exact ⟨u, _, rfl, h1, Rs_set i h2 hr⟩

theorem Rs_spliceL {ρ : Env} : ∀ {vs : List AV} {us : List Value} {z : List AV} {arr : Array Value} {off : Nat}, Rs ρ z arr.toList → Rs ρ vs us → Rs ρ (spliceL z off vs) (spliceA arr off us).toList
  | [], us, z, arr, off, hz, hv => by simp only [Rs] at hv; subst hv; exact hz
  | v :: vs, us, z, arr, off, hz, hv => by
    simp only [Rs] at hv
    obtain ⟨u, us', rfl, h1, h2⟩ := hv
    simp only [spliceL, spliceA]
    refine Rs_spliceL ?_ h2
    have := Rs_set off hz h1
    simpa using this

theorem Rs_splice {ρ : Env} {as bs vs : List AV} {us ws xs : List Value} {off : Nat} (h1 : Splice as bs off vs) (h2 : Splice us ws off xs) (ha : Rs ρ as us) (hv : Rs ρ vs xs) : Rs ρ bs ws := by
  have l1 := Rs_length ha
  have l2 := Rs_length hv
  refine Rs_of_get (by rw [h1.1, h2.1, l1]) fun i a v hi hj => ?_
  rw [h1.2.2 i] at hi
  rw [h2.2.2 i] at hj
  by_cases hc : off ≤ i ∧ i < off + vs.length
  · rw [if_pos hc] at hi
    rw [if_pos (by omega)] at hj
    obtain ⟨v', e1, e2⟩ := Rs_get hv hi
    rw [hj] at e1; cases e1; exact e2
  · rw [if_neg hc] at hi
    rw [if_neg (by omega)] at hj
    obtain ⟨v', e1, e2⟩ := Rs_get ha hi
    rw [hj] at e1; cases e1; exact e2

theorem spliceL_mem {x : AV} : ∀ (vs : List AV) (z : List AV) (off : Nat), x ∈ spliceL z off vs → x ∈ z ∨ x ∈ vs
  | [], z, off, h => Or.inl h
  | v :: vs, z, off, h => by
    rcases spliceL_mem vs (z.set off v) (off + 1) h with h1 | h1
    · rcases List.mem_or_eq_of_mem_set h1 with h2 | h2
      · exact Or.inl h2
      · exact Or.inr (by simp [h2])
    · exact Or.inr (by simp [h1])

theorem foldl_splice (off : Nat) : ∀ (vs : List Value) (k : Nat) (arr : Array Value), (vs.zipIdx k).foldl (fun cs (x : Value × Nat) => cs.setIfInBounds (off + x.2) x.1) arr = spliceA arr (off + k) vs
  | [], k, arr => rfl
  | v :: vs, k, arr => by
    simp only [List.zipIdx_cons, List.foldl_cons, spliceA]
    rw [foldl_splice off vs (k + 1)]
    rfl

theorem fill_step (off : Nat) (v : Value) (cells : Array Value) : (v.cells.zipIdx.foldl (fun cs (x : Value × Nat) => cs.setIfInBounds (off + x.2) x.1) cells) = spliceA cells off v.cells.toList := by
  rw [← Array.foldl_toList, Array.toList_zipIdx, foldl_splice off _ 0, Nat.add_zero]

section
variable {X : Ctx} {B : Nat} {ρg : Env} {gl : AHeap} {ρ : Env} {h h' : AHeap} {w : World} {nt : Nat} {a : Acts} {A : Act} {v : AV} {o : Oper}

def chkParts (X : Ctx) (place : Nat → Option (Nat × Nat)) : List (Nat × Operand) → List (Nat × Nat × MX) → Bool
  | [], [] => true
  | (i, p) :: ps, (off, n, x) :: xs => decide (place i = some (off, n)) && chkX X p x && chkParts X place ps xs
  | _, _ => false

theorem fillA_sound (hst : St B ρg gl X.gid ρ h w) (hG : gl.length = X.G) (ha : AR ρ h.length nt a A) {place : Nat → Option (Nat × Nat)} : ∀ {ps : List (Nat × Operand)} {xs : List (Nat × Nat × MX)} {qs : List (Nat × Nat × AV)} {z cs : List AV} {arr : Array Value},
    chkParts X place ps xs = true → partsOf a xs = some qs → fillA z qs = some cs → Rs ρ z arr.toList → AV.lts h.length z = true → ∃ arr', Instr.fill place arr (ps.map fun (i, x) => (i, A.eval x)) = some arr' ∧ Rs ρ cs arr'.toList ∧ AV.lts h.length cs = true
  | [], [], qs, z, cs, arr, _, hq, hf, hr, hl => by
    simp only [partsOf, Option.some.injEq] at hq; subst hq
    simp only [fillA, Option.some.injEq] at hf; subst hf
    exact ⟨arr, rfl, hr, hl⟩
  | [], _ :: _, _, _, _, _, hc, _, _, _, _ => by simp [chkParts] at hc
  | _ :: _, [], _, _, _, _, hc, _, _, _, _ => by simp [chkParts] at hc
  | (i, p) :: ps, (off, n, x) :: xs, qs, z, cs, arr, hc, hq, hf, hr, hl => by
    simp only [chkParts, Bool.and_eq_true, decide_eq_true_eq] at hc
    obtain ⟨⟨c1, c2⟩, c3⟩ := hc
    simp only [partsOf, Option.bind_eq_some_iff, Option.map_eq_some_iff] at hq
    obtain ⟨v, q1, qs', q2, rfl⟩ := hq
    obtain ⟨e1, e2⟩ := aeval_sound ha (fun i hi => hst.pre i (by omega)) c2 q1
    simp only [fillA] at hf
    split at hf
    case isFalse => cases hf
    rename_i hn
    -- the cells of the part
    have hcs : Rs ρ v.cells (A.eval p).cells.toList := R_cells e2 (by simpa using hn.2.2)
    have hlen := Rs_length hcs
    have hlz := Rs_length hr
    obtain ⟨arr', g1, g2, g3⟩ := fillA_sound hst hG ha c3 q2 hf (Rs_spliceL (off := off) hr hcs) (AV.lts_iff.2 fun y hy => by
      rcases spliceL_mem _ _ _ hy with h1 | h1
      · exact AV.lts_iff.1 hl y h1
      · exact cells_lt e1 y h1)
    refine ⟨arr', ?_, g2, g3⟩
    simp only [List.map_cons, Instr.fill, c1]
    have h1 : (A.eval p).cells.size = n := by have : (A.eval p).cells.toList.length = n := by omega
                                              simpa using this
    have h2 : ¬ (off + (A.eval p).cells.size > arr.size) := by
      have : arr.toList.length = arr.size := by simp
      omega
    simp only [h1, ne_eq, not_true, decide_false, Bool.false_or, decide_eq_true_eq, if_neg (h1 ▸ h2)]
    rw [fill_step]
    exact g1


theorem storeL_lt {n : Nat} {c c' : ACells} {off : Nat} {vs : List AV} (h : storeL c off vs = some c') (hc : c.lt n = true) (hv : ∀ v ∈ vs, v.lt n = true) : c'.lt n = true :=
  ACells.lt_list.2 fun x hx => by
    rcases (storeL_splice h).1.mem hx with h1 | h1
    · exact ACells.lt_list.1 hc x h1
    · exact ⟨hv x h1, (storeL_splice h).2 x h1⟩

theorem fillC_sound (hst : St B ρg gl X.gid ρ h w) (hG : gl.length = X.G) (ha : AR ρ h.length nt a A) {place : Nat → Option (Nat × Nat)} : ∀ {ps : List (Nat × Operand)} {xs : List (Nat × Nat × MX)} {qs : List (Nat × Nat × AV)} {z cs : ACells} {arr : Array Value},
    chkParts X place ps xs = true → partsOf a xs = some qs → fillC z qs = some cs → Rs ρ z.list arr.toList → z.lt h.length = true → ∃ arr', Instr.fill place arr (ps.map fun (i, x) => (i, A.eval x)) = some arr' ∧ Rs ρ cs.list arr'.toList ∧ cs.lt h.length = true
  | [], [], qs, z, cs, arr, _, hq, hf, hr, hl => by
    simp only [partsOf, Option.some.injEq] at hq; subst hq
    simp only [fillC, Option.some.injEq] at hf; subst hf
    exact ⟨arr, rfl, hr, hl⟩
  | [], _ :: _, _, _, _, _, hc, _, _, _, _ => by simp [chkParts] at hc
  | _ :: _, [], _, _, _, _, hc, _, _, _, _ => by simp [chkParts] at hc
  | (i, p) :: ps, (off, n, x) :: xs, qs, z, cs, arr, hc, hq, hf, hr, hl => by
    simp only [chkParts, Bool.and_eq_true, decide_eq_true_eq] at hc
    obtain ⟨⟨c1, c2⟩, c3⟩ := hc
    simp only [partsOf, Option.bind_eq_some_iff, Option.map_eq_some_iff] at hq
    obtain ⟨v, q1, qs', q2, rfl⟩ := hq
    obtain ⟨e1, e2⟩ := aeval_sound ha (fun i hi => hst.pre i (by omega)) c2 q1
    simp only [fillC] at hf
    split at hf
    case isFalse => cases hf
    rename_i hn
    simp only [Option.bind_eq_some_iff] at hf
    obtain ⟨z', hz', hf⟩ := hf
    obtain ⟨sp, hcell⟩ := storeL_splice hz'
    have hcs : Rs ρ v.cells (A.eval p).cells.toList := R_cells e2 hcell
    have hlen := Rs_length hcs
    have hlz := Rs_length hr
    have hzl := ACells.len_list z
    have hsz : (A.eval p).cells.toList.length = (A.eval p).cells.size := by simp
    have hsa : arr.toList.length = arr.size := by simp
    have sp2 := spliceA_spec (A.eval p).cells.toList arr off (fun _ => by omega)
    obtain ⟨arr', g1, g2, g3⟩ := fillC_sound hst hG ha c3 q2 hf (Rs_splice sp sp2 hr hcs) (storeL_lt hz' hl (cells_lt e1))
    refine ⟨arr', ?_, g2, g3⟩
    simp only [List.map_cons, Instr.fill, c1]
    have h1 : (A.eval p).cells.size = n := by omega
    have h2 : ¬ (off + (A.eval p).cells.size > arr.size) := by omega
    simp only [h1, ne_eq, not_true, decide_false, Bool.false_or, decide_eq_true_eq, if_neg (h1 ▸ h2)]
    rw [fill_step]
    exact g1

def placeOf (X : Ctx) (t : Nat) (i : Nat) : Option (Nat × Nat) :=
  match X.P.underlying t with
  | some (.struct fs) => match fs[i]? with
    | some f => ((X.P.info? f.type).map (·.size)).map fun n => (f.offset, n)
    | none => none
  | some (.array _ e) => ((X.P.info? e).map (·.size)).map fun n => (i * n, n)
  | _ => none

theorem mapM_places {P : Program} {w : World} : ∀ (fs : List Field), (∀ f ∈ fs, ∃ n, (P.info? f.type).map (·.size) = some n) →
    (fs.mapM (m := Sem) fun f => do pure (f.offset, ← sizeOf f.type)).run P w = .ok (fs.map fun f => (f.offset, ((P.info? f.type).map (·.size)).getD 0)) w
  | [], _ => rfl
  | f :: fs, h => by
    obtain ⟨n, hn⟩ := h f (by simp)
    simp only [List.mapM_cons, Sem.run_bind, run_sizeOf' hn, Result.andThen_ok, Sem.run_pure]
    rw [mapM_places fs fun g hg => h g (by simp [hg])]
    simp [hn]

theorem s_bld (hst : St B ρg gl X.gid ρ h w) (hG : gl.length = X.G) (ha : AR ρ h.length nt a A) {t : Nat} {ps : Array (Nat × Operand)} {z : List AV} {xs : List (Nat × Nat × MX)} {zv : Value} (ho : o.op = .build t ps)
    (hz : (X.P.info? t).bind (·.zero) = some zv) (hzc : chkVs z zv.cells.toList = true) (hc : chkParts X (placeOf X t) ps.toList xs = true)
    (hk : (match X.P.underlying t with | some (.struct fs) => fs.toList.all (fun f => ((X.P.info? f.type).map (·.size)).isSome) | some (.array _ e) => ((X.P.info? e).map (·.size)).isSome | _ => false) = true)
    {r : AV × AHeap × List Nat} {call : CallT} (hr : aop call (.bld z xs) a h = some r) : Out X B ρg gl ρ h w A o r.1 r.2.1 := by
  simp only [aop, Option.bind_eq_some_iff, Option.map_eq_some_iff] at hr
  obtain ⟨qs, h0, cs, h1, rfl⟩ := hr
  obtain ⟨arr', g1, g2, g3⟩ := fillA_sound hst hG ha hc h0 h1 (chkVs_R ρ _ _ hzc) (AV.lts_mono (Nat.zero_le _) _ (chkVs_lt _ _ hzc))
  rw [Option.bind_eq_some_iff] at hz
  obtain ⟨i, hi, hz⟩ := hz
  have hzr : (zeroValue t).run X.P w = .ok zv w := by simp [zeroValue, run_typeInfo' hi, hz]
  refine out_value hst (x := .agg arr') ?_ (by simpa [AV.lt] using g3) (by simp only [R]; exact ⟨_, rfl, g2⟩)
  have hps : (ps.map fun x => (x.1, A.eval x.2)).toList = ps.toList.map fun x => (x.1, A.eval x.2) := by simp
  split at hk
  · rename_i fs hu
    have hall : ∀ f ∈ fs.toList, ∃ n, (X.P.info? f.type).map (·.size) = some n := by
      intro f hf
      have := List.all_eq_true.1 hk f hf
      exact Option.isSome_iff_exists.1 this
    have hm : (fs.mapM (m := Sem) fun f => do pure (f.offset, ← sizeOf f.type)).run X.P w = .ok (fs.toList.map fun f => (f.offset, ((X.P.info? f.type).map (·.size)).getD 0)).toArray w := by
      rw [Array.mapM_eq_mapM_toList]
      simp only [Sem.run_map, mapM_places fs.toList hall, Result.andThen_ok]
    have hpl : (fun i => (fs.toList.map fun f => (f.offset, ((X.P.info? f.type).map (·.size)).getD 0)).toArray[i]?) = placeOf X t := by
      funext i
      simp only [placeOf, hu, List.getElem?_toArray, List.getElem?_map, Array.getElem?_toList]
      cases hf : fs[i]? with
      | none => rfl
      | some f =>
        obtain ⟨n, hn⟩ := hall f (by rw [← Array.getElem?_toList] at hf; exact List.mem_of_getElem? hf)
        simp [hn]
    simp only [execOp, ho, Instr.build, Sem.run_bind, hzr, run_underlying hu, Result.andThen_ok, hm, hpl]
    rw [hps, g1]
    simp
  · rename_i n e hu
    obtain ⟨m, hm⟩ := Option.isSome_iff_exists.1 hk
    have hpl : (fun i => some (i * m, m)) = placeOf X t := by
      funext i
      simp only [placeOf, hu, hm, Option.map_some]
    simp only [execOp, ho, Instr.build, Sem.run_bind, hzr, run_underlying hu, Result.andThen_ok, run_sizeOf' hm, hpl]
    rw [hps, g1]
    simp
  · cases hk

theorem getElem?_replicate_flatten {α : Type} (l : List α) (hl : 0 < l.length) : ∀ (n j : Nat), ((List.replicate n l).flatten)[j]? = if j < n * l.length then l[j % l.length]? else none
  | 0, j => by simp
  | n + 1, j => by
    rw [List.replicate_succ, List.flatten_cons]
    by_cases hj : j < l.length
    · rw [List.getElem?_append_left hj, if_pos (by rw [Nat.add_mul]; omega), Nat.mod_eq_of_lt hj]
    · rw [List.getElem?_append_right (by omega), getElem?_replicate_flatten l hl n]
      have h1 : (j - l.length) % l.length = j % l.length := (Nat.mod_eq_sub_mod (by omega)).symm
      have h2 : (j - l.length < n * l.length) ↔ (j < (n + 1) * l.length) := by rw [Nat.add_mul]; omega
      by_cases hc : j < (n + 1) * l.length
      · rw [if_pos hc, if_pos (h2.2 hc), h1]
      · rw [if_neg hc, if_neg (fun h => hc (h2.1 h))]

theorem repl_list (z : ACells) (n : Nat) : (repl z n).list = (List.replicate n z.list).flatten := by
  cases z with
  | ints k l => simp [repl, ACells.list, List.map_flatten, List.map_replicate]
  | vals l => rfl

/-- Rows of zeros. -/
theorem Rs_zeros {ρ : Env} {z : ACells} {zv : Value} (hc : chkVs z.list zv.cells.toList = true) {n len : Nat} (hn : z.list.length = n) (h0 : 0 < n) {m : Nat} (hm : m = len * n) :
    Rs ρ (repl z len).list ((Array.range m).map (fun i => zv.cells[i % zv.cells.size]!)).toList := by
  have hr := chkVs_R ρ _ _ hc
  have hl := Rs_length hr
  have hsz : zv.cells.size = n := by have : zv.cells.toList.length = zv.cells.size := by simp
                                     omega
  have hlen : (List.replicate len z.list).flatten.length = len * n := by simp [hn]
  subst hm
  refine Rs_of_get (by rw [repl_list, hlen]; simp) fun i a v hi hj => ?_
  rw [repl_list, getElem?_replicate_flatten _ (by omega)] at hi
  split at hi
  · rename_i hlt
    rw [hn] at hi hlt
    simp only [Array.toList_map, Array.toList_range, List.getElem?_map, List.getElem?_range hlt, Option.map_some, Option.some.injEq] at hj
    obtain ⟨u, h1, h2⟩ := Rs_get hr hi
    have hu : zv.cells[i % zv.cells.size]! = u := by
      rw [hsz]
      have h1' : zv.cells[i % n]? = some u := by simpa using h1
      rw [getElem!_def, h1']
    rw [← hj, hu]; exact h2
  · cases hi

theorem repl_lt {z : ACells} {n m : Nat} (h : z.lt m = true) : (repl z n).lt m = true :=
  ACells.lt_list.2 fun v hv => by
    rw [repl_list, List.mem_flatten] at hv
    obtain ⟨l, h1, h2⟩ := hv
    rw [List.eq_of_mem_replicate h1] at h2
    exact ACells.lt_list.1 h v h2

theorem s_bsl (hst : St B ρg gl X.gid ρ h w) (hG : gl.length = X.G) (ha : AR ρ h.length nt a A) {t e len esz : Nat} {ps : Array (Nat × Operand)} {z : ACells} {xs : List (Nat × Nat × MX)} {zv : Value} (ho : o.op = .buildSlice t len ps)
    (hs : X.P.underlying t = some (.slice e)) (he : szIs X e esz = true) (h0 : 0 < esz) (hmax : len * esz ≤ 2 ^ 24)
    (hz : (X.P.info? e).bind (·.zero) = some zv) (hzc : chkC z zv = true) (hc : chkParts X (fun i => some (i * esz, esz)) ps.toList xs = true)
    {r : AV × AHeap × List Nat} {call : CallT} (hr : aop call (.bsl z len esz xs) a h = some r) : Out X B ρg gl ρ h w A o r.1 r.2.1 := by
  simp only [aop, Option.bind_eq_some_iff] at hr
  obtain ⟨qs, q0, cs, q1, hr⟩ := hr
  split at hr
  case isFalse => cases hr
  rename_i hzl
  simp only [Option.some.injEq] at hr; subst hr
  simp only [chkC, Bool.and_eq_true] at hzc
  rw [Option.bind_eq_some_iff] at hz
  obtain ⟨i, hi, hz⟩ := hz
  have hzr : (zeroValue e).run X.P w = .ok zv w := by simp [zeroValue, run_typeInfo' hi, hz]
  have hsz : (sizeOf e).run X.P w = .ok esz w := run_sizeOf' (by simpa [szIs] using he)
  have hz0 : z.lt h.length = true := chkC_lt (by simpa [chkC] using hzc)
  have hps : (ps.map fun x => (x.1, A.eval x.2)).toList = ps.toList.map fun x => (x.1, A.eval x.2) := by simp
  have key : ∃ zc : Array Value, (len * esz = 0 ∧ zc = #[] ∨ len * esz ≠ 0 ∧ zc = zv.cells) ∧ Rs ρ (repl z len).list ((Array.range (len * esz)).map (fun i => zc[i % zc.size]!)).toList := by
    by_cases hl : len * esz = 0
    · have : len = 0 := by rcases Nat.mul_eq_zero.1 hl with h | h <;> omega
      subst this
      refine ⟨#[], Or.inl ⟨by simp, rfl⟩, ?_⟩
      rw [repl_list]; simp [Rs]
    · exact ⟨zv.cells, Or.inr ⟨hl, rfl⟩, Rs_zeros hzc.1 (by rw [← ACells.len_list]; exact hzl) h0 rfl⟩
  obtain ⟨zc, k1, k2⟩ := key
  obtain ⟨arr', g1, g2, g3⟩ := fillC_sound hst hG ha hc q0 q1 k2 (repl_lt hz0)
  refine ⟨_, .slice (some ⟨w.heap.size, 0, none⟩) len len, World.alloc w (.cells arr' e), ?_, Or.inl rfl, s_new hst g3 g2 rfl ?_ (by simp [AV.lt])⟩
  · have hmax' : ¬ (len * esz > 2 ^ 24) := by omega
    rcases k1 with ⟨kl, rfl⟩ | ⟨kl, rfl⟩
    · simp only [execOp, ho, Instr.buildSlice, Sem.run_bind, run_underlying hs, Result.andThen_ok, hsz, if_neg hmax', if_pos kl, Sem.run_pure]
      rw [hps, g1]
      simp [newRow]
    · simp only [execOp, ho, Instr.buildSlice, Sem.run_bind, run_underlying hs, Result.andThen_ok, hsz, if_neg hmax', if_neg kl, hzr, Sem.run_pure]
      rw [hps, g1]
      simp [newRow]
  · simp only [R]
    exact ⟨_, rfl, fun _ => by simp [Env.upd], Nat.le_refl _⟩

theorem wrap_i64 {n : Int} (h0 : 0 ≤ n) (h1 : n < 9223372036854775808) : IntKind.i64.wrap n = n := by
  have hm : n % (2 ^ IntKind.i64.bits : Int) = n := Int.emod_eq_of_lt h0 (by show n < 18446744073709551616; omega)
  have hc : ¬ (n ≥ (2 ^ (IntKind.i64.bits - 1) : Int)) := by show ¬ (n ≥ 9223372036854775808); omega
  unfold IntKind.wrap
  simp only [hm]
  rw [if_neg (by simp only [Bool.and_eq_true, decide_eq_true_eq]; exact fun h => hc h.2)]

theorem s_mks (hst : St B ρg gl X.gid ρ h w) (hG : gl.length = X.G) (ha : AR ρ h.length nt a A) {t e bytes : Nat} {p q : Operand} {x y : MX} {z : ACells} {zv : Value} (ho : o.op = .makeSlice t p q) (hc : chkX X p x = true) (hd : chkX X q y = true)
    (hs : X.P.underlying t = some (.slice e)) (he : szIs X e z.list.length = true) (h0 : 0 < z.list.length) (hb : bytesIs X e bytes = true) (hz : (X.P.info? e).bind (·.zero) = some zv) (hzc : chkC z zv = true)
    {r : AV × AHeap × List Nat} {call : CallT} (hr : aop call (.mks z bytes x y) a h = some r) : Out X B ρg gl ρ h w A o r.1 r.2.1 := by
  simp only [aop, Option.bind_eq_some_iff] at hr
  obtain ⟨xv, h1, l, h2, yv, h3, c, h4, hr⟩ := hr
  obtain ⟨e1, e2⟩ := aeval_sound ha (fun i hi => hst.pre i (by omega)) hc h1
  obtain ⟨f1, f2⟩ := aeval_sound ha (fun i hi => hst.pre i (by omega)) hd h3
  obtain ⟨k, m, g1, g2, g3⟩ := asN_sound h2 e2
  obtain ⟨k', m', g1', g2', g3'⟩ := asN_sound h4 f2
  split at hr
  case isFalse => cases hr
  rename_i hcond
  obtain ⟨q1, q2, q3⟩ := hcond
  simp only [Option.some.injEq] at hr; subst hr
  simp only [chkC, Bool.and_eq_true] at hzc
  rw [Option.bind_eq_some_iff] at hz
  obtain ⟨i, hi, hz⟩ := hz
  have hzr : (zeroValue e).run X.P w = .ok zv w := by simp [zeroValue, run_typeInfo' hi, hz]
  have hsz : (sizeOf e).run X.P w = .ok z.list.length w := run_sizeOf' (by simpa [szIs] using he)
  have hbi : i.bytes = bytes := by simp only [bytesIs, decide_eq_true_eq, hi, Option.map_some, Option.some.injEq] at hb; exact hb
  have hz0 : z.lt h.length = true := chkC_lt (by simpa [chkC] using hzc)
  have w1 : IntKind.i64.wrap m = l := by rw [wrap_i64 g2 (by omega)]; omega
  have w2 : IntKind.i64.wrap m' = c := by rw [wrap_i64 g2' (by omega)]; omega
  have key : ∃ zc : Array Value, (c * z.list.length = 0 ∧ zc = #[] ∨ c * z.list.length ≠ 0 ∧ zc = zv.cells) ∧ Rs ρ (repl z c).list ((Array.range (c * z.list.length)).map (fun i => zc[i % zc.size]!)).toList := by
    by_cases hl : c * z.list.length = 0
    · have : c = 0 := by rcases Nat.mul_eq_zero.1 hl with h | h <;> omega
      subst this
      refine ⟨#[], Or.inl ⟨by simp, rfl⟩, ?_⟩
      rw [repl_list]; simp [Rs]
    · exact ⟨zv.cells, Or.inr ⟨hl, rfl⟩, Rs_zeros hzc.1 rfl h0 rfl⟩
  obtain ⟨zc, k1, k2⟩ := key
  refine ⟨_, .slice (some ⟨w.heap.size, 0, none⟩) l c, World.alloc w (.cells _ e), ?_, Or.inl rfl, s_new hst (repl_lt hz0) k2 rfl ?_ (by simp [AV.lt])⟩
  · have hbig : ¬ ((bytes : Int) * (c : Int) > 2 ^ 48) := by
      have : (bytes : Int) * (c : Int) = ((bytes * c : Nat) : Int) := by simp
      rw [this]; omega
    simp only [execOp, ho, Instr.makeSlice, Sem.run_bind, run_underlying hs, Result.andThen_ok, asInt, g1, g1', asIntOf, Sem.run_pure, run_typeInfo' hi, w1, w2]
    simp only [Bool.or_eq_true, decide_eq_true_eq]
    rw [if_neg (by rw [hbi]; simp only [not_or]; exact ⟨⟨⟨by omega, hbig⟩, by omega⟩, by omega⟩)]
    rcases k1 with ⟨kl, rfl⟩ | ⟨kl, rfl⟩
    · simp only [Int.toNat_natCast, run_askRoom, Result.andThen_ok, Sem.run_bind, hsz, if_pos kl, newRow]
      simp
    · simp only [Int.toNat_natCast, run_askRoom, Result.andThen_ok, Sem.run_bind, hsz, if_neg kl, hzr, newRow]
      simp
  · simp only [R]
    exact ⟨_, rfl, fun _ => by simp [Env.upd], q1⟩

end
end Go.Proofs.YtdpbbagllhfjbaaDoorW.AI
/-! Operations: lengths, least and greatest, texts of bytes, appends, copies. -/
namespace Go.Proofs.YtdpbbagllhfjbaaDoorW.AI
open Go
set_option linter.unusedVariables false
set_option linter.unusedSimpArgs false

section
variable {X : Ctx} {B : Nat} {ρg : Env} {gl : AHeap} {ρ : Env} {h h' : AHeap} {w : World} {nt : Nat} {a : Acts} {A : Act} {v : AV} {o : Oper}

/-- A call of a builtin. -/
theorem exec_builtin {b : Builtin} {args : Array Operand} {ats : Array TypeId} (ho : o.op = .call { callee := .builtin b, args, argTypes := ats }) :
    ∃ cs, execOp A.eval o = builtin b ats o.type cs (args.map A.eval) := by
  refine ⟨args.map fun x => match x with | .const _ => true | _ => false, ?_⟩
  simp only [execOp, ho, resolve, invoke, pure_bind]
  rfl

theorem s_lens (hst : St B ρg gl X.gid ρ h w) (hG : gl.length = X.G) (ha : AR ρ h.length nt a A) {p : Operand} {t : Nat} {x : MX} (ho : o.op = .call { callee := .builtin .len, args := #[p], argTypes := #[t] }) (hc : chkX X p x = true)
    (hs : X.P.underlying t = some .string) {r : AV × AHeap × List Nat} {call : CallT}
    (hr : aop call (.lens x) a h = some r) : Out X B ρg gl ρ h w A o r.1 r.2.1 := by
  simp only [aop, Option.bind_eq_some_iff] at hr
  obtain ⟨xv, h0, hr⟩ := hr
  obtain ⟨e1, e2⟩ := aeval_sound ha (fun i hi => hst.pre i (by omega)) hc h0
  split at hr
  · simp only [Option.some.injEq] at hr; subst hr
    simp only [R] at e2
    refine out_value hst (x := goInt _) ?_ rfl rfl
    obtain ⟨bcs, hbcs⟩ := exec_builtin (A := A) ho
    rw [hbcs]
    simp [builtin, Builtin.len_, run_underlying hs, e2]
  · cases hr

theorem slen_R {ρ : Env} {x : AV} {n : Nat} {v : Value} (h : slen x = some n) (hr : R ρ x v) : ∃ p c, v = .slice p n c := by
  cases x <;> simp only [slen] at h <;> first | (cases h; done) | skip
  · simp only [Option.some.injEq] at h; subst h; simp only [R] at hr; exact ⟨_, _, hr⟩
  · simp only [Option.some.injEq] at h; subst h; simp only [R] at hr; obtain ⟨q, e, _⟩ := hr; exact ⟨_, _, e⟩
  · simp only [Option.some.injEq] at h; subst h; simp only [R] at hr
    rcases hr with ⟨q, c, e, _⟩ | ⟨_, h2, e⟩
    · exact ⟨_, _, e⟩
    · subst h2; exact ⟨_, _, e⟩

theorem s_len (hst : St B ρg gl X.gid ρ h w) (hG : gl.length = X.G) (ha : AR ρ h.length nt a A) {p : Operand} {t : Nat} {arr : Option Nat} {x : MX} (ho : o.op = .call { callee := .builtin .len, args := #[p], argTypes := #[t] }) (hc : chkX X p x = true)
    (hs : (match arr with
      | some n => (∃ e, X.P.underlying t = some (.array n e)) ∨ (∃ e e', X.P.underlying t = some (.pointer e) ∧ X.P.underlying e = some (.array n e'))
      | none => ∃ e, X.P.underlying t = some (.slice e))) {r : AV × AHeap × List Nat} {call : CallT}
    (hr : aop call (.len arr x) a h = some r) : Out X B ρg gl ρ h w A o r.1 r.2.1 := by
  simp only [aop, Option.bind_eq_some_iff] at hr
  obtain ⟨xv, h0, hr⟩ := hr
  obtain ⟨e1, e2⟩ := aeval_sound ha (fun i hi => hst.pre i (by omega)) hc h0
  split at hr
  · rename_i n
    simp only [Option.some.injEq] at hr; subst hr
    refine out_value hst (x := goInt n) ?_ rfl rfl
    obtain ⟨bcs, hbcs⟩ := exec_builtin (A := A) ho
    rw [hbcs]
    simp only at hs
    rcases hs with ⟨e, hs⟩ | ⟨e, e', hs, hs'⟩
    · simp [builtin, Builtin.len_, run_underlying hs]
    · simp [builtin, Builtin.len_, run_underlying hs, run_underlying hs']
  · simp only [Option.map_eq_some_iff] at hr
    obtain ⟨n, h1, rfl⟩ := hr
    obtain ⟨q, c, e3⟩ := slen_R h1 e2
    simp only at hs
    obtain ⟨e, hs⟩ := hs
    refine out_value hst (x := goInt n) ?_ rfl rfl
    obtain ⟨bcs, hbcs⟩ := exec_builtin (A := A) ho
    rw [hbcs]
    simp [builtin, Builtin.len_, run_underlying hs, e3]

theorem s_mnx (hst : St B ρg gl X.gid ρ h w) (hG : gl.length = X.G) (ha : AR ρ h.length nt a A) {args : Array Operand} {ats : Array Nat} {mx : Bool} {xs : List MX} (ho : o.op = .call { callee := .builtin (if mx then .max else .min), args, argTypes := ats })
    (hc : chkXs X args.toList xs = true) {r : AV × AHeap × List Nat} {call : CallT}
    (hr : aop call (.mnx mx xs) a h = some r) : Out X B ρg gl ρ h w A o r.1 r.2.1 := by
  simp only [aop, Option.bind_eq_some_iff] at hr
  obtain ⟨vs, h0, hr⟩ := hr
  obtain ⟨e1, e2⟩ := aevals_sound ha (fun i hi => hst.pre i (by omega)) hc h0
  split at hr
  · cases hr
  · rename_i v0 vs
    simp only [Option.map_eq_some_iff] at hr
    obtain ⟨u, h1, rfl⟩ := hr
    simp only [Rs] at e2
    obtain ⟨x0, xs', e3, e4, e5⟩ := e2
    obtain ⟨y, f1, f2, f3⟩ := aminmax_sound (P := X.P) (w := w) h1 e4 e5
    have hl : u.lt h.length = true := by
      rcases f3 with rfl | f3
      · exact AV.lts_iff.1 e1 _ (by simp)
      · exact AV.lt_mono (Nat.zero_le _) _ f3
    refine out_value hst (x := y) ?_ hl f2
    obtain ⟨bcs, hbcs⟩ := exec_builtin (A := A) ho
    rw [hbcs]
    have hto : (args.map A.eval).toList = x0 :: xs' := by simpa using e3
    cases mx
    · simp only [Bool.false_eq_true, if_false] at f1 ⊢
      simp only [builtin, Builtin.min_, hto, Sem.run_bind, f1, Result.andThen_ok, Sem.run_pure]
    · simp only [if_true] at f1 ⊢
      simp only [builtin, Builtin.max_, hto, Sem.run_bind, f1, Result.andThen_ok, Sem.run_pure]

/-- The cells of a slice, as the machine reads them. -/
theorem slice_cells (hst : Rep B ρ h w) {x : AV} {e n : Nat} {c : ACells} (hc : sliceCells h e x = some c) (hn : slen x = some n) {v : Value} (hr : R ρ x v) :
    ∃ us : List Value, Rs ρ c.list us ∧ us.length = n * e ∧ c.lt h.length = true ∧ ∃ p cap, v = .slice p n cap ∧ (∀ (P : Program) (w' : World), w'.heap = w.heap → (match p with | some a => loadCells a (n * e) | none => pure #[]).run P w' = .ok us.toArray w') := by
  have go : ∀ b off (cc : ACells), cellsAt h b = some cc → off + n * e ≤ cc.len → c = cc.sub off (n * e) → ∀ (cap : Nat) (q : Addr), n ≤ cap → (cap ≠ 0 → q = ⟨ρ.blk b, ρ.base b + off, none⟩) →
      ∃ us : List Value, Rs ρ c.list us ∧ us.length = n * e ∧ c.lt h.length = true ∧ (∀ (P : Program) (w' : World), w'.heap = w.heap → (loadCells q (n * e)).run P w' = .ok us.toArray w') := by
    intro b off cc hcc hle hsub cap q hcap hq
    obtain ⟨blk, hb1, hb2, rfl⟩ := cellsAt_some hcc
    have hl := hst.lies b blk hb1 hb2
    have hcl : c.list = (blk.c.list.drop off).take (n * e) := by
      subst hsub
      cases blk.c with
      | ints k l => simp [ACells.sub, ACells.list, List.map_take, List.map_drop]
      | vals l => rfl
    have hlen : c.list.length = n * e := by
      rw [hcl]; rw [ACells.len_list] at hle; simp; omega
    have hget : ∀ j, j < n * e → ∃ y, w.cell? (ρ.addr b (off + j)) = some y ∧ ∃ u, c.list[j]? = some u ∧ R ρ u y := by
      intro j hj
      have hcj : ∃ u, blk.c.get? (off + j) = some u := ACells.get_some (by omega)
      obtain ⟨u, hu⟩ := hcj
      obtain ⟨y, h1, h2⟩ := hl.cell hu
      refine ⟨y, h1, u, ?_, h2⟩
      rw [hcl, List.getElem?_take, if_pos hj, List.getElem?_drop, ← ACells.get_list]; exact hu
    have key : ∀ m, m ≤ n * e → ∃ us : List Value, us.length = m ∧ ∀ j u, us[j]? = some u → w.cell? (ρ.addr b (off + j)) = some u ∧ ∃ a, c.list[j]? = some a ∧ R ρ a u := by
      intro m
      induction m with
      | zero => exact fun _ => ⟨[], rfl, fun j u hj => by simp at hj⟩
      | succ m ih =>
        intro hm
        obtain ⟨us, hu1, hu2⟩ := ih (by omega)
        obtain ⟨y, h1, u, h2, h3⟩ := hget m (by omega)
        refine ⟨us ++ [y], by simp [hu1], fun j u' hj => ?_⟩
        by_cases hjm : j < m
        · rw [List.getElem?_append_left (by omega)] at hj
          exact hu2 j u' hj
        · have : j = m := by
            have := (List.getElem?_eq_some_iff.1 hj).1
            simp [hu1] at this; omega
          subst this
          rw [List.getElem?_append_right (by omega)] at hj
          simp [hu1] at hj
          subst hj
          exact ⟨h1, u, h2, h3⟩
    obtain ⟨us, hu1, hu2⟩ := key (n * e) (Nat.le_refl _)
    refine ⟨us, Rs_of_get (by omega) fun i a v ha hv => ?_, hu1, ?_, fun P w' hw => ?_⟩
    · obtain ⟨_, a', ha', hra⟩ := hu2 i v hv
      rw [ha] at ha'; cases ha'; exact hra
    · refine ACells.lt_list.2 fun u hu => ?_
      rw [hcl] at hu
      exact ACells.lt_list.1 (hst.wf b blk hb1 hb2) u (List.mem_of_mem_drop (List.mem_of_mem_take hu))
    · by_cases hz : n * e = 0
      · have : us = [] := List.eq_nil_of_length_eq_zero (by omega)
        subst this
        rw [hz]; simp [loadCells, loadCellsFrom]
      · have hn0 : n ≠ 0 := by rintro rfl; simp at hz
        have hq' := hq (by omega)
        subst hq'
        have : (⟨ρ.blk b, ρ.base b + off, none⟩ : Addr) = ρ.addr b off := rfl
        rw [this]
        refine run_loadCells_env hu1 fun j u hj => ?_
        have := (hu2 j u hj).1
        simp only [World.cell?, hw] at this ⊢
        exact this
  cases x <;> simp only [sliceCells] at hc <;> first | (cases hc; done) | skip
  · rename_i b off n' cap
    simp only [slen, Option.some.injEq] at hn; subst hn
    simp only [Option.bind_eq_some_iff] at hc
    obtain ⟨cc, h1, h2⟩ := hc
    split at h2
    · rename_i hle
      simp only [Option.some.injEq] at h2
      simp only [R] at hr
      obtain ⟨q, e1, e2, e3⟩ := hr
      obtain ⟨us, k1, k2, k3, k4⟩ := go b off cc h1 hle h2.symm cap q e3 e2
      exact ⟨us, k1, k2, k3, _, _, e1, k4⟩
    · cases h2
  · rename_i b off n' e' mn
    simp only [slen, Option.some.injEq] at hn; subst hn
    split at hc
    case isFalse => cases hc
    rename_i hee; subst hee
    simp only [Option.bind_eq_some_iff] at hc
    obtain ⟨cc, h1, h2⟩ := hc
    split at h2
    · rename_i hle
      simp only [Option.some.injEq] at h2
      simp only [R] at hr
      rcases hr with ⟨q, cap, e1, e2, e3⟩ | ⟨e1, e2, e3⟩
      · obtain ⟨us, k1, k2, k3, k4⟩ := go b off cc h1 hle h2.symm cap ⟨ρ.blk b, q, none⟩ e2 (fun hne => by rw [(e3 hne).1])
        exact ⟨us, k1, k2, k3, _, _, e1, k4⟩
      · subst e2
        obtain ⟨us, k1, k2, k3, k4⟩ := go b off cc h1 hle h2.symm 0 ⟨0, 0, none⟩ (Nat.le_refl _) (fun hne => absurd rfl hne)
        have : us = [] := List.eq_nil_of_length_eq_zero (by omega)
        subst this
        exact ⟨[], k1, k2, k3, none, 0, e3, fun P w' _ => by simp⟩
    · cases h2

theorem run_pushBytes {P : Program} {w : World} {ρ : Env} {f : Value → ByteArray → Sem (ForInStep ByteArray)} (hf : ∀ n s, f (.int .u8 n) s = pure (ForInStep.yield (s.push (UInt8.ofNat n.toNat)))) :
    ∀ (l : List Int) (us : List Value) (s : ByteArray), Rs ρ (l.map (AV.int .u8)) us → (forIn us s f).run P w = .ok ⟨(s.data.toList ++ l.map fun n => UInt8.ofNat n.toNat).toArray⟩ w
  | [], us, s, h => by
    simp only [List.map_nil, Rs] at h; subst h
    simp
  | n :: l, us, s, h => by
    simp only [List.map_cons, Rs, R] at h
    obtain ⟨v, vs, rfl, rfl, h2⟩ := h
    simp only [List.forIn_cons, hf, Sem.run_bind, Sem.run_pure, Result.andThen_ok]
    rw [run_pushBytes hf l vs _ h2]
    congr 2
    simp [ByteArray.push]

theorem s_cstr (hst : St B ρg gl X.gid ρ h w) (hG : gl.length = X.G) (ha : AR ρ h.length nt a A) {s d e : Nat} {p : Operand} {x : MX} (ho : o.op = .convert s d p) (hc : chkX X p x = true)
    (hs : X.P.underlying s = some (.slice e)) (hd : X.P.underlying d = some .string) (he : X.P.underlying e = some (.int .u8)) {r : AV × AHeap × List Nat} {call : CallT}
    (hr : aop call (.cstr x) a h = some r) : Out X B ρg gl ρ h w A o r.1 r.2.1 := by
  simp only [aop, Option.bind_eq_some_iff] at hr
  obtain ⟨xv, h0, hr⟩ := hr
  obtain ⟨e1, e2⟩ := aeval_sound ha (fun i hi => hst.pre i (by omega)) hc h0
  split at hr
  · simp only [Option.some.injEq] at hr; subst hr
    simp only [R] at e2
    refine out_value hst (x := .string ByteArray.empty) ?_ rfl rfl
    simp [execOp, ho, convert, run_underlying hs, run_underlying hd, run_underlying he, e2, Conv.bytesToString]
  · simp only [Option.bind_eq_some_iff, Option.map_eq_some_iff] at hr
    obtain ⟨c, h1, st, h2, rfl⟩ := hr
    have hn : ∃ n, slen xv = some n := by cases xv <;> simp [sliceCells] at h1 <;> exact ⟨_, rfl⟩
    obtain ⟨n, hn⟩ := hn
    obtain ⟨us, k1, k2, k3, q, cap, k4, k5⟩ := slice_cells hst.rep h1 hn e2
    unfold bytesOf at h2
    split at h2
    case h_2 => cases h2
    rename_i l
    simp only [Option.some.injEq] at h2; subst h2
    refine out_value hst (x := .string ⟨(l.map fun (n : Int) => UInt8.ofNat n.toNat).toArray⟩) ?_ rfl rfl
    have := k5 X.P w rfl
    rw [Nat.mul_one] at this
    cases q with
    | none =>
      simp only [Sem.run_pure, Result.ok.injEq, and_true] at this
      have hus : us = [] := by simpa using this.symm
      subst hus
      have hl : l = [] := by
        have := Rs_length k1; simp [ACells.list] at this; exact this
      subst hl
      simp [execOp, ho, convert, run_underlying hs, run_underlying hd, run_underlying he, k4, Conv.bytesToString]
      rfl
    | some ad =>
      simp only at this
      simp only [execOp, ho, convert, Sem.run_bind, run_underlying hs, run_underlying hd, run_underlying he, Result.andThen_ok, k4, Conv.bytesToString, this]
      rw [← Array.forIn_toList]
      rw [run_pushBytes (ρ := ρ) (fun n s => rfl) l us ByteArray.empty (by simpa [ACells.list] using k1)]
      simp

end
end Go.Proofs.YtdpbbagllhfjbaaDoorW.AI
/-! Appends. -/
namespace Go.Proofs.YtdpbbagllhfjbaaDoorW.AI
open Go
set_option linter.unusedVariables false
set_option linter.unusedSimpArgs false

theorem growBy_le (n : Nat) : ∀ (r c : Nat), Builtin.growBy n r c ≤ max c (n + (n + 768) / 4)
  | 0, c => by simp only [Builtin.growBy]; omega
  | r + 1, c => by
    simp only [Builtin.growBy]
    split
    · omega
    · have := growBy_le n r (c + (c + 768) / 4)
      omega

theorem nextcap_le {need old : Nat} (h : old < need) : Builtin.nextslicecap need old ≤ 4 * need + 8192 := by
  unfold Builtin.nextslicecap
  split
  · omega
  · split
    · omega
    · have := growBy_le need 4 old
      omega

def World.drew1 (w : World) : World := { w with drawn := w.drawn + 1 }

section
variable {P : Program} {w : World} {ts tx elem size bytes : Nat} {ty : TypeId}

theorem firstCells_slice {p : Option Addr} {n c : Nat} (e m : Nat) : Builtin.firstCells e m (.slice p n c) = (match p with | some a => loadCells a (m * e) | none => pure #[]) := by
  cases p <;> rfl

/-- What is told of an append of a slice's elements: the types. -/
structure AppTy (P : Program) (ts tx elem size bytes : Nat) (zv : Value) : Prop where
  ts : P.underlying ts = some (.slice elem)
  tx : ∃ e, P.underlying tx = some (.slice e)
  size : (P.info? elem).map (·.size) = some size
  bytes : (P.info? elem).map (·.bytes) = some bytes
  zero : (P.info? elem).bind (·.zero) = some zv

theorem append_fits {zv : Value} (T : AppTy P ts tx elem size bytes zv) {base q : Option Addr} {n m cap xc : Nat} {us : List Value} {w' : World} (hfit : n + m ≤ cap)
    (hload : (Builtin.firstCells size m (.slice q m xc)).run P w = .ok us.toArray w) (hstore : (match base with | some a => storeCells (a.add (n * size)) us | none => pure ()).run P w = .ok () w') :
    (Builtin.append_ #[ts, tx] ty #[.slice base n cap, .slice q m xc]).run P w = .ok (.slice base (n + m) cap) w' := by
  obtain ⟨d, h1⟩ := T.tx
  simp only [Builtin.append_, List.getElem?_toArray, List.getElem?_cons_zero, List.getElem?_cons_succ, Sem.run_bind, run_underlying T.ts, Result.andThen_ok, run_sizeOf' T.size, run_underlying h1, Sem.run_pure]
  simp only [Bool.false_eq_true, if_false, Builtin.lenOf, Sem.run_bind, Sem.run_pure, Result.andThen_ok, if_pos hfit, Bool.not_false, if_true, hload]
  cases base with
  | none =>
    simp only [Sem.run_pure, Result.ok.injEq, true_and] at hstore
    subst hstore
    simp
  | some a =>
    simp only at hstore
    simp only [Sem.run_bind, hstore, Result.andThen_ok, Sem.run_pure]

theorem append_grows {zv : Value} (T : AppTy P ts tx elem size bytes zv) {base q : Option Addr} {n m cap xc : Nat} {os us : List Value} (hfit : ¬ n + m ≤ cap) (hroom : room (n + m) bytes = true)
    (hold : ∀ w' : World, w'.heap = w.heap → (Builtin.firstCells size n (.slice base n cap)).run P w' = .ok os.toArray w') (hload : ∀ w' : World, w'.heap = w.heap → (Builtin.firstCells size m (.slice q m xc)).run P w' = .ok us.toArray w') :
    ∃ nc, n + m ≤ nc ∧ (Builtin.append_ #[ts, tx] ty #[.slice base n cap, .slice q m xc]).run P w =
      .ok (.slice (some ⟨w.heap.size, 0, none⟩) (n + m) nc) (World.alloc (World.drew1 w) (.cells (os.toArray ++ us.toArray ++ Builtin.zeroCells zv.cells (nc - (n + m))) elem)) := by
  obtain ⟨d, h1⟩ := T.tx
  have hb := T.bytes
  rw [Option.map_eq_some_iff] at hb
  obtain ⟨i, hi, hb⟩ := hb
  have hzr : ∀ w' : World, (zeroValue elem).run P w' = .ok zv w' := by
    intro w'
    have := T.zero
    rw [hi, Option.bind_some] at this
    simp [zeroValue, run_typeInfo' hi, this]
  simp only [room, decide_eq_true_eq] at hroom
  have hcap : ¬ (Builtin.nextslicecap (n + m) cap * i.bytes > 2 ^ 48) := by
    rw [hb]
    have h3 : Builtin.nextslicecap (n + m) cap ≤ 4 * (n + m) + 8192 := nextcap_le (by omega)
    have := Nat.mul_le_mul_right bytes h3
    omega
  have hneed : ¬ (((n + m : Nat) : Int) > IntKind.i64.max ∧ (False ∨ i.bytes = 0)) := by
    intro hh
    have : ((n + m : Nat) : Int) > 9223372036854775807 := hh.1
    omega
  refine ⟨(Question.appendCap (n + m) cap elem).cut (w.tape w.drawn (.appendCap (n + m) cap elem)), by simp only [Question.cut]; omega, ?_⟩
  simp only [Builtin.append_, List.getElem?_toArray, List.getElem?_cons_zero, List.getElem?_cons_succ, Sem.run_bind, run_underlying T.ts, Result.andThen_ok, run_sizeOf' T.size, run_underlying h1, Sem.run_pure]
  simp only [Bool.false_eq_true, if_false, Builtin.lenOf, Sem.run_bind, Sem.run_pure, Result.andThen_ok, if_neg hfit, Bool.not_false, if_true, run_typeInfo' hi]
  rw [if_neg hneed]
  simp only [Sem.run_bind, run_typeInfo' hi, Result.andThen_ok]
  rw [if_neg hcap]
  simp only [Sem.run_bind, run_choose, Question.forced, Bool.false_eq_true, if_false, Result.andThen_ok, run_typeInfo' hi, run_askRoom]
  have e : ({ w with drawn := w.drawn + 1 } : World) = World.drew1 w := rfl
  rw [e, hold (World.drew1 w) rfl]
  simp only [Result.andThen_ok]
  rw [hload (World.drew1 w) rfl]
  simp only [Result.andThen_ok, hzr, newRow, Sem.run_bind, run_newObj, Sem.run_pure]
  rfl

end

theorem Rep.drew {B : Nat} {ρ : Env} {h : AHeap} {w : World} (r : Rep B ρ h w) : Rep B ρ h (World.drew1 w) := r.same fun _ _ _ _ _ => rfl

theorem Fr.drew (ρ : Env) (h : AHeap) (w : World) : Fr ρ h w ρ h (World.drew1 w) := ⟨rfl, rfl, rfl, Nat.le_refl _, fun _ _ _ => rfl, fun _ h => Or.inr h, fun _ h => Or.inr h⟩

/-- The heap behind an append that may have stayed in place. -/
def superHeap (h : AHeap) (b : Nat) (o : Bool) (c c' : ACells) : AHeap :=
  ((if o then reTip b h.length h else h).set b ⟨.old h.length, c⟩) ++ [⟨.tip true, c'⟩]

theorem reTip_get {b j i : Nat} {h : AHeap} : (reTip b j h)[i]? = (h[i]?).map fun x => if x.st = .old b then { x with st := .old j } else x := by
  simp [reTip]

theorem superHeap_length (h : AHeap) (b : Nat) (o : Bool) (c c' : ACells) : (superHeap h b o c c').length = h.length + 1 := by
  cases o <;> simp [superHeap, reTip]

theorem superHeap_get {h : AHeap} {b : Nat} {o : Bool} {c c' : ACells} (hb : h[b]? = some ⟨.tip o, c⟩) {i : Nat} {x : ABlk} (hx : (superHeap h b o c c')[i]? = some x) :
    (i = h.length ∧ x = ⟨.tip true, c'⟩) ∨ (i = b ∧ x = ⟨.old h.length, c⟩) ∨ (i < h.length ∧ i ≠ b ∧ ∃ y, h[i]? = some y ∧ x.c = y.c ∧ ((x.st = y.st ∧ ¬ (o = true ∧ y.st = .old b)) ∨ (o = true ∧ y.st = .old b ∧ x.st = .old h.length))) := by
  have hlt : b < h.length := (List.getElem?_eq_some_iff.1 hb).1
  have hl : ((if o then reTip b h.length h else h).set b (⟨.old h.length, c⟩ : ABlk)).length = h.length := by cases o <;> simp [reTip]
  rcases getElem?_snoc hx with ⟨h1, h2⟩ | ⟨h1, h2⟩
  · rw [hl] at h1
    by_cases e : i = b
    · subst e
      refine Or.inr (Or.inl ⟨rfl, ?_⟩)
      rw [List.getElem?_set_self (by cases o <;> simp [reTip, hlt])] at h2
      exact (Option.some.inj h2).symm
    · refine Or.inr (Or.inr ⟨h1, e, ?_⟩)
      rw [List.getElem?_set_ne (Ne.symm e)] at h2
      cases o
      · exact ⟨x, by simpa using h2, rfl, Or.inl ⟨rfl, by simp⟩⟩
      · simp only [if_true, reTip_get, Option.map_eq_some_iff] at h2
        obtain ⟨y, h3, rfl⟩ := h2
        refine ⟨y, h3, by split <;> rfl, ?_⟩
        split
        · rename_i hs; exact Or.inr ⟨rfl, hs, rfl⟩
        · rename_i hs; exact Or.inl ⟨rfl, fun hh => hs hh.2⟩
  · rw [hl] at h1
    exact Or.inl ⟨h1, h2⟩

theorem Rep.super {B : Nat} {ρ ρ' : Env} {h : AHeap} {w w' : World} (r : Rep B ρ h w) {b : Nat} {o : Bool} {c c' : ACells} (hb : h[b]? = some ⟨.tip o, c⟩) (ag : Agree h.length ρ ρ')
    (hl : ∀ (i : Nat) (x : ABlk), h[i]? = some x → x.st ≠ .dead → Lies ρ i x.c w') (hl' : Lies ρ' h.length c' w') (hlt : c'.lt h.length = true)
    (hfz : ∀ (i : Nat) (x : ABlk) (o : Bool), h[i]? = some x → x.st = .tip o → ρ.sz i ≠ 0 → ∀ q, ρ.base i ≤ q → q < ρ.base i + ρ.sz i → w'.frozen? ⟨ρ.blk i, q, none⟩ = false)
    (hown : ρ'.sz h.length ≠ 0 → B ≤ ρ'.blk h.length ∧ ∀ q, ρ'.base h.length ≤ q → q < ρ'.base h.length + ρ'.sz h.length → w'.frozen? ⟨ρ'.blk h.length, q, none⟩ = false)
    (hsh : ρ'.sz h.length ≠ 0 → (∀ (i : Nat) (x : ABlk), h[i]? = some x → x.st ≠ .dead → ρ.sz i ≠ 0 → ρ.blk i ≠ ρ'.blk h.length) ∨
      (ρ'.blk h.length = ρ.blk b ∧ ρ.sz b ≠ 0 ∧ ρ.base b + c.len ≤ ρ'.base h.length + c'.len)) :
    Rep B ρ' (superHeap h b o c c') w' := by
  have hblt : b < h.length := (List.getElem?_eq_some_iff.1 hb).1
  constructor
  · intro i x hx hd
    have hm : h.length ≤ (superHeap h b o c c').length := by rw [superHeap_length]; omega
    rcases superHeap_get hb hx with ⟨_, rfl⟩ | ⟨_, rfl⟩ | ⟨_, _, y, hy, hc, hs⟩
    · exact ACells.lt_mono hm hlt
    · exact ACells.lt_mono hm (show c.lt h.length = true from r.wf b _ hb (by simp))
    · rw [hc]
      refine ACells.lt_mono hm (r.wf i y hy ?_)
      rcases hs with ⟨hs, _⟩ | ⟨_, hs, _⟩
      · rw [← hs]; exact hd
      · rw [hs]; simp
  · intro i x t hx ht
    rw [superHeap_length]
    rcases superHeap_get hb hx with ⟨_, rfl⟩ | ⟨_, rfl⟩ | ⟨_, _, y, hy, hc, hs⟩
    · simp at ht
    · simp only [BSt.old.injEq] at ht; omega
    · rcases hs with ⟨hs, _⟩ | ⟨_, _, hs⟩
      · have := r.old i y t hy (hs ▸ ht); omega
      · rw [hs] at ht; simp only [BSt.old.injEq] at ht; omega
  · intro i x hx hd
    have key : ∀ y : ABlk, h[i]? = some y → y.st ≠ .dead → i < h.length → Lies ρ' i y.c w' := by
      intro y hy hyd hi
      obtain ⟨a1, a2, a3⟩ := ag i hi
      have h1 := hl i y hy hyd
      refine ⟨by rw [a3]; exact h1.1, fun hz => ?_⟩
      rw [a3] at hz
      obtain ⟨arr, T, fz, g1, g2, g3⟩ := h1.2 hz
      refine ⟨arr, T, fz, by rw [a1]; exact g1, by rw [a2, a3]; exact g2, fun j v hj => ?_⟩
      obtain ⟨u, q1, q2⟩ := g3 j v hj
      exact ⟨u, by rw [a2]; exact q1, R_agree ag v u (ACells.get_lt (r.wf i y hy hyd) hj) q2⟩
    rcases superHeap_get hb hx with ⟨rfl, rfl⟩ | ⟨rfl, rfl⟩ | ⟨hi, _, y, hy, hc, hs⟩
    · exact hl'
    · exact key ⟨.tip o, c⟩ hb (by simp) hblt
    · rw [hc]
      refine key y hy ?_ hi
      rcases hs with ⟨hs, _⟩ | ⟨_, hs, _⟩
      · rw [← hs]; exact hd
      · rw [hs]; simp
  · intro i x o' hx ht hz
    rcases superHeap_get hb hx with ⟨rfl, rfl⟩ | ⟨rfl, rfl⟩ | ⟨hi, _, y, hy, hc, hs⟩
    · exact hown hz
    · simp at ht
    · rcases hs with ⟨hs, _⟩ | ⟨_, _, hs⟩
      · obtain ⟨a1, a2, a3⟩ := ag i hi
        rw [a3] at hz
        rw [a1, a2, a3]
        exact ⟨(r.own i y o' hy (hs ▸ ht) hz).1, hfz i y o' hy (hs ▸ ht) hz⟩
      · rw [hs] at ht; simp at ht
  · intro i x hx ht hz
    rcases superHeap_get hb hx with ⟨rfl, rfl⟩ | ⟨rfl, rfl⟩ | ⟨hi, _, y, hy, hc, hs⟩
    · simp at ht
    · simp at ht
    · rcases hs with ⟨hs, _⟩ | ⟨_, _, hs⟩
      · obtain ⟨a1, a2, a3⟩ := ag i hi
        rw [a3] at hz
        rw [a1]
        exact r.ext i y hy (hs ▸ ht) hz
      · rw [hs] at ht; simp at ht
  · intro i j x y o' hx hy hij ht hd hz1 hz2 e
    -- what y was
    have hyw : j = h.length ∨ (j < h.length ∧ ∃ y0 : ABlk, h[j]? = some y0 ∧ y0.st ≠ .dead ∧ y.c = y0.c ∧ ((j = b ∧ y.st = .old h.length) ∨ (j ≠ b ∧ o = true ∧ y0.st = .old b ∧ y.st = .old h.length) ∨ (j ≠ b ∧ y.st = y0.st ∧ ¬ (o = true ∧ y0.st = .old b)))) := by
      rcases superHeap_get hb hy with ⟨h1, _⟩ | ⟨rfl, rfl⟩ | ⟨hj, hjb, y0, hy0, hc, hs⟩
      · exact Or.inl h1
      · exact Or.inr ⟨hblt, _, hb, by simp, rfl, Or.inl ⟨rfl, rfl⟩⟩
      · refine Or.inr ⟨hj, y0, hy0, ?_, hc, ?_⟩
        · rcases hs with ⟨hs, _⟩ | ⟨_, hs, _⟩
          · rw [← hs]; exact hd
          · rw [hs]; simp
        · rcases hs with ⟨hs, hn⟩ | ⟨ho, hs, hn⟩
          · exact Or.inr (Or.inr ⟨hjb, hs, hn⟩)
          · exact Or.inr (Or.inl ⟨hjb, ho, hs, hn⟩)
    rcases superHeap_get hb hx with ⟨rfl, rfl⟩ | ⟨rfl, rfl⟩ | ⟨hi, hib, x0, hx0, hc, hs⟩
    · -- the new face
      simp only [BSt.tip.injEq] at ht; subst ht
      rcases hyw with h1 | ⟨hj, y0, hy0, hyd, hyc, hst⟩
      · exact absurd h1.symm hij
      · obtain ⟨a1, a2, a3⟩ := ag j hj
        rw [a3] at hz2; rw [a1] at e
        refine ⟨rfl, ?_⟩
        rcases hsh hz1 with hfr | ⟨hbk, hbz, hle⟩
        · exact absurd e.symm (hfr j y0 hy0 hyd hz2)
        · rw [a2]
          have hbk' : ρ.blk b = ρ.blk j := by rw [← hbk, e]
          rcases hst with ⟨rfl, hst⟩ | ⟨hjb, ho, hs0, hst⟩ | ⟨hjb, hst, hn⟩
          · rw [hb] at hy0; cases hy0
            rw [hyc]; exact ⟨hst, hle⟩
          · obtain ⟨_, _, h3⟩ := r.sep b j _ y0 o hb hy0 (Ne.symm hjb) rfl hyd hbz hz2 hbk'
            rw [hyc]; refine ⟨hst, ?_⟩; simp only at h3 ⊢; omega
          · obtain ⟨h1, h2, _⟩ := r.sep b j _ y0 o hb hy0 (Ne.symm hjb) rfl hyd hbz hz2 hbk'
            exact absurd ⟨h1, h2⟩ hn
    · simp at ht
    · rcases hs with ⟨hs, hn⟩ | ⟨_, _, hs⟩
      · obtain ⟨a1, a2, a3⟩ := ag i hi
        rw [a3] at hz1; rw [a1] at e
        have ht0 : x0.st = .tip o' := hs ▸ ht
        rcases hyw with rfl | ⟨hj, y0, hy0, hyd, hyc, hst⟩
        · rcases hsh hz2 with hfr | ⟨hbk, hbz, _⟩
          · exact absurd e (hfr i x0 hx0 (by rw [ht0]; simp) hz1)
          · rw [hbk] at e
            obtain ⟨_, h2, _⟩ := r.sep i b x0 _ o' hx0 hb hib ht0 (by simp) hz1 hbz e
            simp at h2
        · obtain ⟨b1, b2, b3⟩ := ag j hj
          rw [b3] at hz2; rw [b1] at e
          obtain ⟨h1, h2, h3⟩ := r.sep i j x0 y0 o' hx0 hy0 hij ht0 hyd hz1 hz2 e
          rcases hst with ⟨rfl, hst⟩ | ⟨hjb, ho, hs0, hst⟩ | ⟨hjb, hst, hn'⟩
          · rw [hb] at hy0; cases hy0; simp at h2
          · rw [hs0] at h2; simp only [BSt.old.injEq] at h2; exact absurd h2.symm hib
          · rw [a2, b2, hc, hyc, hst]; exact ⟨h1, h2, h3⟩
      · rw [hs] at ht; simp at ht


section
variable {X : Ctx} {B : Nat} {ρg : Env} {gl : AHeap} {ρ : Env} {h h' : AHeap} {w : World} {nt : Nat} {a : Acts} {A : Act} {v : AV} {o : Oper}

theorem zeroCells_size (z : Array Value) (n : Nat) : (Builtin.zeroCells z n).size = n * z.size := by simp [Builtin.zeroCells]

theorem app_list {x y c : ACells} (h : x.app y = some c) : c.list = x.list ++ y.list := by
  cases x <;> cases y <;> simp only [ACells.app] at h <;> first | (cases h; done) | skip
  · split at h
    · rename_i hk; subst hk
      simp only [Option.some.injEq] at h; subst h
      simp [ACells.list]
    · cases h
  · simp only [Option.map_eq_some_iff] at h
    obtain ⟨m, h1, rfl⟩ := h
    simp [ACells.list, toInts_list h1]
  · simp only [Option.some.injEq] at h; subst h; rfl
  · simp only [Option.some.injEq] at h; subst h; rfl

theorem app_lt {n : Nat} {x y c : ACells} (h : x.app y = some c) (hx : x.lt n = true) (hy : y.lt n = true) : c.lt n = true :=
  ACells.lt_list.2 fun v hv => by
    rw [app_list h, List.mem_append] at hv
    rcases hv with hv | hv
    · exact ACells.lt_list.1 hx v hv
    · exact ACells.lt_list.1 hy v hv

theorem Fr.super {ρ' : Env} {w' : World} {b : Nat} {ob : Bool} {c c' : ACells} (hb : h[b]? = some ⟨.tip ob, c⟩) (ag : Agree h.length ρ ρ') (e1 : w'.os = w.os) (e2 : w'.tape = w.tape) (e3 : w'.output = w.output) (e4 : w.heap.size ≤ w'.heap.size)
    (hk : ∀ x, x < w.heap.size → ¬ Tips ρ h x → w'.heap[x]? = w.heap[x]?) (hn : ρ'.sz h.length ≠ 0 → w.heap.size ≤ ρ'.blk h.length ∨ Tips ρ h (ρ'.blk h.length)) : Fr ρ h w ρ' (superHeap h b ob c c') w' := by
  refine ⟨e1, e2, e3, e4, hk, fun x hx => ?_, fun x hx => ?_⟩
  · obtain ⟨i, y, o', hi, ht, hz, e⟩ := hx
    rcases superHeap_get hb hi with ⟨rfl, rfl⟩ | ⟨_, rfl⟩ | ⟨hil, _, y0, hy0, _, hs⟩
    · rw [← e]; exact hn hz
    · simp at ht
    · obtain ⟨a1, a2, a3⟩ := ag i hil
      rcases hs with ⟨hs, _⟩ | ⟨_, _, hs⟩
      · exact Or.inr ⟨i, y0, o', hy0, hs ▸ ht, by rw [← a3]; exact hz, by rw [← a1]; exact e⟩
      · rw [hs] at ht; simp at ht
  · obtain ⟨i, y, hi, ht, hz, e⟩ := hx
    rcases superHeap_get hb hi with ⟨rfl, rfl⟩ | ⟨hib, rfl⟩ | ⟨hil, _, y0, hy0, _, hs⟩
    · rw [← e]; exact (hn hz).imp id Tips.face
    · subst hib
      obtain ⟨a1, a2, a3⟩ := ag i (List.getElem?_eq_some_iff.1 hb).1
      exact Or.inr ⟨i, _, hb, ⟨by simp, by simp⟩, by rw [← a3]; exact hz, by rw [← a1]; exact e⟩
    · obtain ⟨a1, a2, a3⟩ := ag i hil
      rcases hs with ⟨hs, _⟩ | ⟨_, hs, _⟩
      · exact Or.inr ⟨i, y0, hy0, hs ▸ ht, by rw [← a3]; exact hz, by rw [← a1]; exact e⟩
      · exact Or.inr ⟨i, y0, hy0, ⟨by rw [hs]; simp, by rw [hs]; simp⟩, by rw [← a3]; exact hz, by rw [← a1]; exact e⟩

/-- What is appended: its cells, and that the machine reads them, whatever the draws. -/
structure Src (ρ : Env) (h : AHeap) (xs : ACells) (m e : Nat) (us : List Value) : Prop where
  rs : Rs ρ xs.list us
  len : us.length = m * e
  lt : xs.lt h.length = true

theorem Src.one {ρ : Env} {h : AHeap} {xs : ACells} {m e : Nat} {us : List Value} (s : Src ρ h xs m e us) : ∀ v ∈ us, v.oneCell' = true := by
  intro v hv
  obtain ⟨j, hj⟩ := List.mem_iff_getElem?.1 hv
  have hl := Rs_length s.rs
  have hjl : j < xs.list.length := by have := (List.getElem?_eq_some_iff.1 hj).1; omega
  obtain ⟨u, hu1, hu2⟩ := Rs_get s.rs (List.getElem?_eq_getElem hjl)
  rw [hj] at hu1; cases hu1
  exact R_oneCell hu2 (ACells.lt_list.1 s.lt _ (List.getElem_mem hjl)).2

/-- An append, whoever tells what is appended: by what it answers where it stays in place, and where it grows. -/
theorem append_core (hst : St B ρg gl X.gid ρ h w) {z : ACells} {bytes m : Nat} {s xs : AV} {c : ACells} {us : List Value} (src : Src ρ h c m z.len us) (h0 : 0 < z.len) {sv : Value} (hs : R ρ s sv) (hslt : s.lt h.length = true)
    {zv : Value} (hzv : zv.cells.size = z.len) {elem : TypeId} {run : Value → World → Result Value} {r : AV × AHeap × List Nat} (hr : aappend h z bytes s c m = some r)
    (fits : ∀ base n cap w', sv = .slice base n cap → n + m ≤ cap → (match base with | some a => storeCells (a.add (n * z.len)) us | none => pure ()).run X.P w = .ok () w' → run sv w = .ok (.slice base (n + m) cap) w')
    (grows : ∀ base n cap os, sv = .slice base n cap → ¬ n + m ≤ cap → room (n + m) bytes = true → (∀ w' : World, w'.heap = w.heap → (Builtin.firstCells z.len n (.slice base n cap)).run X.P w' = .ok (List.toArray os) w') →
      ∃ nc, n + m ≤ nc ∧ run sv w = .ok (.slice (some ⟨w.heap.size, 0, none⟩) (n + m) nc) (World.alloc (World.drew1 w) (.cells (List.toArray os ++ us.toArray ++ Builtin.zeroCells zv.cells (nc - (n + m))) elem))) :
    ∃ x w', run sv w = .ok x w' ∧ Post X B ρg gl ρ h w r.1 r.2.1 x w' := by
  -- a new block that holds what was there, and what is appended
  have fresh : ∀ (os : List Value) (oc c' : ACells) (n nc : Nat), Rs ρ oc.list os → os.length = n * z.len → oc.lt h.length = true → c'.list = oc.list ++ c.list → n + m ≤ nc →
      ∀ mn, Post X B ρg gl ρ h w (.gsl h.length 0 (n + m) z.len mn) (h ++ [.new c']) (.slice (some ⟨w.heap.size, 0, none⟩) (n + m) nc) (World.alloc (World.drew1 w) (.cells (os.toArray ++ us.toArray ++ Builtin.zeroCells zv.cells (nc - (n + m))) elem)) := by
    intro os oc c' n nc hos hol holt hcl hnc mn
    have hsz : (os.toArray ++ us.toArray ++ Builtin.zeroCells zv.cells (nc - (n + m))).size = nc * z.len := by
      simp only [Array.size_append, List.size_toArray, zeroCells_size, hol, src.len, hzv]
      rw [← Nat.add_mul, ← Nat.add_mul]; congr 1; omega
    have hrs := Rs_append hos src.rs
    rw [← hcl] at hrs
    have hlen := Rs_length hrs
    have hlt' : c'.lt h.length = true := ACells.lt_list.2 fun v hv => by
      rw [hcl, List.mem_append] at hv
      rcases hv with hv | hv
      · exact ACells.lt_list.1 holt v hv
      · exact ACells.lt_list.1 src.lt v hv
    obtain ⟨r1, r2⟩ := (hst.rep.drew).alloc (show B ≤ (World.drew1 w).heap.size from hst.le) (T := elem) (fz := (0, 0)) (arr := os.toArray ++ us.toArray ++ Builtin.zeroCells zv.cells (nc - (n + m))) hlt' (fun q _ hq => by simp at hq)
      (by rw [ACells.len_list, hlen]; simp [Array.size_append]) (fun j v hj => by
        rw [ACells.get_list] at hj
        obtain ⟨y, h1, h2⟩ := Rs_get hrs hj
        refine ⟨y, ?_, h2⟩
        rw [Array.getElem?_append_left (by have := (List.getElem?_eq_some_iff.1 h1).1; simpa using this)]
        simpa using h1)
    refine post_mem hst (Env.upd_agree _ _ _ _ _) ?_ (by simp [AV.lt]) r1 ((Fr.drew ρ h w).trans r2) (by simp)
    simp only [R]
    refine Or.inl ⟨0, nc, by simp [Env.upd]; rfl, hnc, fun _ => ⟨by simp [Env.upd], ?_⟩⟩
    simp only [Env.upd, if_true, hsz]; omega
  cases s <;> simp only [aappend] at hr <;> first | (cases hr; done) | skip
  · -- nil
    simp only [R] at hs
    by_cases hm : m = 0
    · subst hm
      simp only [if_true, Option.some.injEq] at hr; subst hr
      have hus : us = [] := List.eq_nil_of_length_eq_zero (by rw [src.len]; simp)
      subst hus
      have := fits none 0 0 w hs (by omega) rfl
      exact ⟨_, w, this, post_mem hst (Agree.refl _ _) (by simp [R]) (by simp [AV.lt]) hst.rep (Fr.refl _ _ _) (Nat.le_refl _)⟩
    · rw [if_neg hm] at hr
      split at hr
      case isFalse => cases hr
      rename_i hroom
      simp only [Option.some.injEq] at hr; subst hr
      obtain ⟨nc, g1, g2⟩ := grows none 0 0 [] hs (by omega) (by rw [Nat.zero_add]; exact hroom) (fun w' _ => by simp [Builtin.firstCells])
      have := fresh [] (.vals []) c 0 nc rfl (by simp) rfl (by simp [ACells.list]) g1 false
      rw [Nat.zero_add] at this g2
      exact ⟨_, _, g2, this⟩
  · -- a capacity that is known
    rename_i b off n cap
    simp only [R] at hs
    obtain ⟨q, e1, e2, e3⟩ := hs
    split at hr
    · rename_i hfit
      simp only [Option.map_eq_some_iff] at hr
      obtain ⟨h', hch, rfl⟩ := hr
      obtain ⟨w', g1, g2, g3, g4⟩ := hst.rep.change hch (fun c0 c1 hcc => storeL_splice hcc) src.rs (fun v hv => (ACells.lt_list.1 src.lt v hv).1) X.P
      have hstore : (storeCells (q.add (n * z.len)) us).run X.P w = .ok () w' := by
        by_cases hus : us = []
        · subst hus
          simpa [storeCells] using g1
        · have hcap : cap ≠ 0 := by
            rintro rfl
            have : us.length = 0 := by rw [src.len]; have : m = 0 := by omega
                                       rw [this]; simp
            exact hus (List.eq_nil_of_length_eq_zero this)
          rw [e2 hcap, addr_add, Nat.add_assoc]
          exact g1
      exact ⟨_, w', fits _ n cap w' e1 hfit hstore, post_mem hst (Agree.refl _ _) (by simp only [R]; exact ⟨q, rfl, e2, hfit⟩) (by simpa [AV.lt, g4] using hslt) g2 g3 (by show h.length ≤ h'.length; omega)⟩
    · rename_i hfit
      simp only [Option.bind_eq_some_iff] at hr
      obtain ⟨oc, h1, c', h2, hr⟩ := hr
      split at hr
      case isFalse => cases hr
      rename_i hroom
      simp only [Option.some.injEq] at hr; subst hr
      obtain ⟨os, k1, k2, k3, p, cap', k4, k5⟩ := slice_cells hst.rep h1 (n := n) rfl (v := sv) (by simp only [R]; exact ⟨q, e1, e2, e3⟩)
      rw [e1] at k4
      injection k4 with k41 k42 k43
      subst k41; subst k43
      obtain ⟨nc, g1, g2⟩ := grows _ n cap os e1 hfit hroom (fun w' hw => by rw [firstCells_slice]; exact k5 X.P w' hw)
      exact ⟨_, _, g2, fresh os oc c' n nc k1 k2 k3 (app_list h2) g1 false⟩
  · -- a capacity that is not
    rename_i b off n e mn
    split at hr
    case isFalse => cases hr
    rename_i he; subst he
    split at hr
    case h_2 => cases hr
    rename_i ob cb hb
    split at hr
    case isFalse => cases hr
    rename_i hoff
    simp only [Option.bind_eq_some_iff] at hr
    obtain ⟨c', h2, hr⟩ := hr
    split at hr
    case isFalse => cases hr
    rename_i hroom
    simp only [Option.some.injEq] at hr; subst hr
    have hblt : b < h.length := (List.getElem?_eq_some_iff.1 hb).1
    have hlb : Lies ρ b cb w := hst.rep.lies b _ hb (by simp)
    have hsc : sliceCells h z.len (.gsl b off n z.len mn) = some (cb.sub off (n * z.len)) := by
      simp only [sliceCells, if_true, cellsAt, hb, Option.bind_some]
      rw [if_pos (by omega)]
    obtain ⟨os, k1, k2, k3, p, cap, k4, k5⟩ := slice_cells hst.rep hsc (n := n) rfl (v := sv) hs
    have hsub : (cb.sub off (n * z.len)).list = (cb.list.drop off).take (n * z.len) := by
      cases cb with
      | ints k l => simp [ACells.sub, ACells.list, List.map_take, List.map_drop]
      | vals l => rfl
    have hc'l : c'.list = (cb.list.drop off).take (n * z.len) ++ c.list := by rw [app_list h2, hsub]
    have hll := hlb.1
    rw [ACells.len_list cb] at hoff hll
    have hlc : c.list.length = m * z.len := by have := Rs_length src.rs; rw [this, src.len]
    have hdl : ((cb.list.drop off).take (n * z.len)).length = n * z.len := by simp; omega
    have hc'len : c'.list.length = (n + m) * z.len := by rw [hc'l, List.length_append, hdl, hlc, Nat.add_mul]
    have hlt' : c'.lt h.length = true := app_lt h2 k3 src.lt
    have hs' := hs
    simp only [R] at hs'
    have hlow : ∀ (i : Nat) (x : ABlk), h[i]? = some x → x.st ≠ .dead → ρ.sz i ≠ 0 → ρ.blk i < w.heap.size := by
      intro i x hi hd hz
      obtain ⟨a, _, _, h1, _⟩ := (hst.rep.lies i x hi hd).2 hz
      exact (Array.getElem?_eq_some_iff.1 h1).1
    by_cases hfit : n + m ≤ cap
    · -- in place
      obtain ⟨ρ', hρ'⟩ : ∃ ρ', ρ' = ρ.upd h.length (ρ.blk b) (ρ.base b + off) (ρ.sz b - off) := ⟨_, rfl⟩
      have ag : Agree h.length ρ ρ' := by rw [hρ']; exact Env.upd_agree _ _ _ _ _
      have u1 : ρ'.blk h.length = ρ.blk b ∧ ρ'.base h.length = ρ.base b + off ∧ ρ'.sz h.length = ρ.sz b - off := by rw [hρ']; simp [Env.upd]
      clear hρ'
      -- the store
      have hst' : ∃ w', (match p with | some a => storeCells (a.add (n * z.len)) us | none => pure ()).run X.P w = .ok () w' ∧ (w' = w ∧ us = [] ∨
          (us ≠ [] ∧ ∃ arr T fz, w.heap[ρ.blk b]? = some (.cells arr T fz) ∧ ρ.base b + ρ.sz b ≤ arr.size ∧ ρ.sz b ≠ 0 ∧ off + n * z.len + us.length ≤ ρ.sz b ∧
            w' = World.putBlk w (ρ.blk b) (.cells (spliceA arr (ρ.base b + off + n * z.len) us) T fz))) := by
        by_cases hus : us = []
        · subst hus
          refine ⟨w, ?_, Or.inl ⟨rfl, rfl⟩⟩
          cases p <;> simp [storeCells]
        · have hm0 : m ≠ 0 := by rintro rfl; exact hus (List.eq_nil_of_length_eq_zero (by rw [src.len]; simp))
          rcases hs' with ⟨q, cap', e1, e2, e3⟩ | ⟨e1, e2, e3⟩
          · rw [e1] at k4
            injection k4 with k41 k42 k43
            subst k43; subst k41
            obtain ⟨e4, e5⟩ := e3 (by omega)
            have hle : (n + m) * z.len ≤ cap' * z.len := Nat.mul_le_mul_right _ hfit
            have hul : us.length = m * z.len := src.len
            have hpos : 0 < us.length := List.length_pos_iff.2 hus
            rw [Nat.add_mul] at hle
            have hzb : ρ.sz b ≠ 0 := by omega
            obtain ⟨arr, T, fz, h3, h4, h5⟩ := hlb.2 hzb
            have hrun := run_storeCells_env (P := X.P) us (ρ.base b + off + n * z.len) 0 arr w h3 (fun _ => by omega) (fun q q1 q2 => by
              have := (hst.rep.own b _ ob hb rfl hzb).2 q (by omega) (by omega)
              simp only [World.frozen?, h3] at this
              simpa using this) src.one
            rw [Nat.add_zero] at hrun
            refine ⟨_, ?_, Or.inr ⟨hus, arr, T, fz, h3, h4, hzb, by omega, rfl⟩⟩
            simp only [e4, addr_add]
            exact hrun
          · rw [e3] at k4
            injection k4 with k41 k42 k43
            omega
      obtain ⟨w', hrun, hw'⟩ := hst'
      have hos : w'.os = w.os ∧ w'.tape = w.tape ∧ w'.output = w.output ∧ w'.heap.size = w.heap.size := by
        rcases hw' with ⟨rfl, _⟩ | ⟨_, arr, T, fz, _, _, _, _, rfl⟩
        · exact ⟨rfl, rfl, rfl, rfl⟩
        · exact ⟨rfl, rfl, rfl, by simp [World.putBlk]⟩
      have hfz : ∀ ad, w'.frozen? ad = w.frozen? ad := by
        intro ad
        rcases hw' with ⟨rfl, _⟩ | ⟨_, arr, T, fz, h3, _, _, _, rfl⟩
        · rfl
        · exact putBlk_frozen h3 ad
      -- a block below the elder end
      have hlies : ∀ (i : Nat) (cc : ACells), Lies ρ i cc w → (ρ.sz i ≠ 0 → ρ.sz b ≠ 0 → ρ.blk i = ρ.blk b → ρ.base i + cc.len ≤ ρ.base b + off + n * z.len) → Lies ρ i cc w' := by
        intro i cc hl hle
        rcases hw' with ⟨rfl, _⟩ | ⟨hus, arr, T, fz, h3, h4, h5, h6, rfl⟩
        · exact hl
        · refine ⟨hl.1, fun hz => ?_⟩
          obtain ⟨arr', T', fz', g1, g2, g3⟩ := hl.2 hz
          by_cases e : ρ.blk i = ρ.blk b
          · rw [e, h3] at g1
            injection g1 with g1; injection g1 with g11 g12 g13
            subst g11; subst g12; subst g13
            have hs2 := spliceA_spec us arr (ρ.base b + off + n * z.len) (fun _ => by omega)
            have hsz : (spliceA arr (ρ.base b + off + n * z.len) us).size = arr.size := by simpa using hs2.1
            refine ⟨_, T, fz, by rw [e]; exact putBlk_get (Array.getElem?_eq_some_iff.1 h3).1, by omega, fun j v hj => ?_⟩
            obtain ⟨y, hy, hr⟩ := g3 j v hj
            refine ⟨y, ?_, hr⟩
            have := hs2.2.2 (ρ.base i + j)
            simp only [Array.getElem?_toList] at this
            rw [this, if_neg (by have := ACells.get_none hj; have := hle hz h5 e; omega)]
            exact hy
          · exact ⟨arr', T', fz', by rw [putBlk_ne e]; exact g1, g2, g3⟩
      refine ⟨.slice p (n + m) cap, w', fits p n cap w' k4 hfit hrun, post_mem hst ag ?_ (by show AV.lt (superHeap h b ob cb c').length (.gsl h.length 0 (n + m) z.len mn) = true; rw [superHeap_length]; simp [AV.lt]) ?_ ?_ (by show _ ≤ (superHeap h b ob cb c').length; rw [superHeap_length]; omega)⟩
      · simp only [R]
        rcases hs' with ⟨q, cap', e1, e2, e3⟩ | ⟨e1, e2, e3⟩
        · rw [e1] at k4
          injection k4 with k41 k42 k43
          subst k43; subst k41
          refine Or.inl ⟨q, cap', by rw [u1.1], hfit, fun hne => ?_⟩
          obtain ⟨g1, g2⟩ := e3 hne
          rw [u1.2.1, u1.2.2]
          exact ⟨by omega, by omega⟩
        · rw [e3] at k4
          injection k4 with k41 k42 k43
          subst k41; subst k43
          exact Or.inr ⟨e1, by omega, by rw [show n + m = 0 from by omega]⟩
      · refine Rep.super hst.rep hb ag ?_ ?_ hlt' ?_ ?_ ?_
        · intro i x hi hd
          refine hlies i x.c (hst.rep.lies i x hi hd) fun hz hzb e => ?_
          by_cases hib : i = b
          · subst hib; rw [hb] at hi; cases hi; show ρ.base i + cb.len ≤ _; rw [ACells.len_list cb]; omega
          · obtain ⟨_, _, h3⟩ := hst.rep.sep b i _ x ob hb hi (Ne.symm hib) rfl hd hzb hz e.symm
            rw [ACells.len_list] at h3 ⊢
            simp only [ACells.len_list] at h3
            omega
        · -- the new face
          refine ⟨by
            rw [ACells.len_list, hc'len, u1.2.2]
            rcases hw' with ⟨_, hus⟩ | ⟨hus, arr, T, fz, h3, h4, h5, h6, _⟩
            · have : m * z.len = 0 := by rw [← src.len, hus]; rfl
              rw [Nat.add_mul]; omega
            · rw [src.len] at h6; rw [Nat.add_mul]; omega, fun hz => ?_⟩
          rw [u1.2.2] at hz
          have hzb : ρ.sz b ≠ 0 := by omega
          obtain ⟨arr0, T0, fz0, g1, g2, g3⟩ := hlb.2 hzb
          rw [u1.1, u1.2.1, u1.2.2]
          rcases hw' with ⟨rfl, hus⟩ | ⟨hus, arr, T, fz, h3, h4, h5, h6, rfl⟩
          · refine ⟨arr0, T0, fz0, g1, by omega, fun j v hj => ?_⟩
            have hcn : c.list = [] := List.eq_nil_of_length_eq_zero (by rw [hlc, ← src.len, hus]; rfl)
            rw [ACells.get_list, hc'l, hcn, List.append_nil, List.getElem?_take] at hj
            split at hj
            · rw [List.getElem?_drop, ← ACells.get_list] at hj
              obtain ⟨y, hy, hr⟩ := g3 _ v hj
              exact ⟨y, by rw [Nat.add_assoc]; exact hy, R_agree ag v y (ACells.get_lt (hst.rep.wf b _ hb (by simp)) hj) hr⟩
            · cases hj
          · rw [h3] at g1
            injection g1 with g1; injection g1 with g11 g12 g13
            subst g11; subst g12; subst g13
            have hs2 := spliceA_spec us arr (ρ.base b + off + n * z.len) (fun _ => by omega)
            have hsz : (spliceA arr (ρ.base b + off + n * z.len) us).size = arr.size := by simpa using hs2.1
            refine ⟨_, T, fz, putBlk_get (Array.getElem?_eq_some_iff.1 h3).1, by omega, fun j v hj => ?_⟩
            have hget := hs2.2.2 (ρ.base b + off + j)
            simp only [Array.getElem?_toList] at hget
            rw [hget]
            rw [ACells.get_list, hc'l] at hj
            by_cases hjn : j < n * z.len
            · rw [List.getElem?_append_left (by omega), List.getElem?_take, if_pos hjn, List.getElem?_drop, ← ACells.get_list] at hj
              rw [if_neg (by omega)]
              obtain ⟨y, hy, hr⟩ := g3 _ v hj
              exact ⟨y, by rw [Nat.add_assoc]; exact hy, R_agree ag v y (ACells.get_lt (hst.rep.wf b _ hb (by simp)) hj) hr⟩
            · rw [List.getElem?_append_right (by omega), hdl] at hj
              have hjl : j - n * z.len < c.list.length := (List.getElem?_eq_some_iff.1 hj).1
              rw [if_pos (by rw [src.len]; omega)]
              obtain ⟨y, hy, hr⟩ := Rs_get src.rs hj
              refine ⟨y, by rw [show ρ.base b + off + j - (ρ.base b + off + n * z.len) = j - n * z.len from by omega]; exact hy, R_agree ag v y ?_ hr⟩
              exact (ACells.lt_list.1 src.lt v (List.mem_of_getElem? hj)).1
        · intro i x o' hi ht hz q q1 q2
          rw [hfz]; exact (hst.rep.own i x o' hi ht hz).2 q q1 q2
        · intro hz
          rw [u1.2.2] at hz
          have hzb : ρ.sz b ≠ 0 := by omega
          obtain ⟨g1, g2⟩ := hst.rep.own b _ ob hb rfl hzb
          rw [u1.1, u1.2.1, u1.2.2]
          exact ⟨g1, fun q q1 q2 => by rw [hfz]; exact g2 q (by omega) (by omega)⟩
        · intro hz
          rw [u1.2.2] at hz
          refine Or.inr ⟨u1.1, by omega, ?_⟩
          rw [u1.2.1, ACells.len_list, ACells.len_list, hc'len, Nat.add_mul]; omega
      · refine Fr.super hb ag hos.1 hos.2.1 hos.2.2.1 (by omega) (fun x hx ht => ?_) (fun hz => ?_)
        · rcases hw' with ⟨rfl, _⟩ | ⟨_, arr, T, fz, _, _, h5, _, rfl⟩
          · rfl
          · exact putBlk_ne fun e => ht ⟨b, _, ob, hb, rfl, h5, e.symm⟩
        · rw [u1.2.2] at hz
          exact Or.inr ⟨b, _, ob, hb, rfl, by omega, u1.1.symm⟩
    · -- it grows
      obtain ⟨nc, g1, g2⟩ := grows p n cap os k4 hfit hroom (fun w' hw => by rw [firstCells_slice]; exact k5 X.P w' hw)
      obtain ⟨ρ', ag, q2, q3, q4, q5, q6⟩ := fresh os (cb.sub off (n * z.len)) c' n nc k1 k2 k3 (app_list h2) g1 mn
      refine ⟨_, _, g2, post_mem hst ag q2 (by show AV.lt (superHeap h b ob cb c').length (.gsl h.length 0 (n + m) z.len mn) = true; rw [superHeap_length]; simp [AV.lt]) ?_ ?_ (by show _ ≤ (superHeap h b ob cb c').length; rw [superHeap_length]; omega)⟩
      · have hnew : (h ++ [ABlk.new c'])[h.length]? = some (ABlk.new c') := by simp
        refine Rep.super hst.rep hb ag ?_ (q4.rep.lies h.length _ hnew (by simp)) hlt' ?_ (fun hz => q4.rep.own h.length _ false hnew rfl hz) (fun hz => Or.inl ?_)
        · intro i x hi hd
          exact (hst.rep.lies i x hi hd).same fun hz => push_get (w := World.drew1 w) (hlow i x hi hd hz)
        · intro i x o' hi ht hz q r1 r2
          rw [World.frozen_of_block (w := w) (push_get (w := World.drew1 w) (hlow i x hi (by rw [ht]; simp) hz))]
          exact (hst.rep.own i x o' hi ht hz).2 q r1 r2
        · intro i x hi hd hzi e
          have h1 := q5.fresh (ρ'.blk h.length) ⟨h.length, _, false, hnew, rfl, hz, rfl⟩
          have h3 := hlow i x hi hd hzi
          rcases h1 with h1 | ⟨j, y, oj, hj, hjt, hjz, hje⟩
          · omega
          · have hjl : j < h.length := (List.getElem?_eq_some_iff.1 hj).1
            obtain ⟨a1, a2, a3⟩ := ag j hjl
            have hj' : (h ++ [ABlk.new c'])[j]? = some y := by rw [List.getElem?_append_left hjl]; exact hj
            obtain ⟨_, h4, _⟩ := q4.rep.sep j h.length y _ oj hj' hnew (by omega) hjt (by simp) (by rw [a3]; exact hjz) hz (by rw [a1]; exact hje)
            simp at h4
      · refine Fr.super hb ag q5.os q5.tape q5.output q5.size q5.keep (fun hz => ?_)
        exact q5.fresh _ ⟨h.length, ABlk.new c', false, by simp, rfl, hz, rfl⟩

end
end Go.Proofs.YtdpbbagllhfjbaaDoorW.AI
