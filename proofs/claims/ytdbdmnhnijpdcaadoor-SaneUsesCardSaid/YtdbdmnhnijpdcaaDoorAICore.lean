import Derived.WalkKit
import Derived.KernelRfl
/-! Abstract interpreter: values, heap, code, runs. -/
namespace Go.Proofs.YtdbdmnhnijpdcaaDoorW.AI
open Go
set_option linter.unusedVariables false

inductive AV where
  | int (k : IntKind) (n : Int)
  | bool (b : Bool)
  | str (s : ByteArray)
  | nilp
  | ptr (b off : Nat)
  | nils
  | sl (b off len cap : Nat)
  | gsl (b off len esz : Nat) (mn : Bool)
  | nilf
  | fn (f : Nat) (caps : List AV)
  | agg (cs : List AV)
  | tup (vs : List AV)
  | any
  deriving Inhabited

mutual
def AV.lt (n : Nat) : AV → Bool
  | .ptr b _ => decide (b < n)
  | .sl b _ _ _ => decide (b < n)
  | .gsl b _ _ _ _ => decide (b < n)
  | .fn _ cs => AV.lts n cs
  | .agg cs => AV.lts n cs
  | .tup cs => AV.lts n cs
  | _ => true
def AV.lts (n : Nat) : List AV → Bool
  | [] => true
  | x :: xs => AV.lt n x && AV.lts n xs
end

def AV.isCell : AV → Bool
  | .agg _ => false
  | .tup _ => false
  | .any => false
  | _ => true

/-- The cells of a value. -/
def AV.cells : AV → List AV
  | .agg cs => cs
  | v => [v]

inductive ACells where
  | ints (k : IntKind) (l : List Int)
  | vals (l : List AV)
  deriving Inhabited

def ACells.len : ACells → Nat
  | .ints _ l => l.length
  | .vals l => l.length

def ACells.get? : ACells → Nat → Option AV
  | .ints k l, i => (l[i]?).map (AV.int k)
  | .vals l, i => l[i]?

def ACells.set? : ACells → Nat → AV → Option ACells
  | .ints k l, i, .int k' n => if k = k' ∧ i < l.length then some (.ints k (l.set i n)) else none
  | .ints _ _, _, _ => none
  | .vals l, i, v => if i < l.length ∧ v.isCell = true then some (.vals (l.set i v)) else none

def ACells.sub : ACells → Nat → Nat → ACells
  | .ints k l, i, n => .ints k ((l.drop i).take n)
  | .vals l, i, n => .vals ((l.drop i).take n)

/-- Cells made of a value: all whole numbers of one kind, or whatever cells. -/
def toInts (k : IntKind) : List AV → Option (List Int)
  | [] => some []
  | .int k' n :: l => if k = k' then (toInts k l).map (n :: ·) else none
  | _ => none

def ACells.app : ACells → ACells → Option ACells
  | .ints k l, .ints k' l' => if k = k' then some (.ints k (l ++ l')) else none
  | .vals l, .vals l' => some (.vals (l ++ l'))
  | .ints k l, .vals l' => (toInts k l').map fun l' => .ints k (l ++ l')
  | .vals l, .ints k l' => some (.vals (l ++ l'.map (AV.int k)))

def ACells.lt (n : Nat) : ACells → Bool
  | .ints _ _ => true
  | .vals l => AV.lts n l && l.all AV.isCell

inductive BSt where
  | ext
  | tip (o : Bool)
  | old (t : Nat)
  | dead
  deriving DecidableEq, Inhabited

structure ABlk where
  st : BSt
  c : ACells
  deriving Inhabited

abbrev AHeap := List ABlk

/-- A block of the call's own, without elder faces. -/
abbrev ABlk.new (c : ACells) : ABlk := ⟨.tip false, c⟩

def cellsAt (h : AHeap) (b : Nat) : Option ACells :=
  match h[b]? with
  | some ⟨.dead, _⟩ => none
  | some ⟨_, c⟩ => some c
  | none => none

def loadN (c : ACells) (off : Nat) : Nat → Option (List AV)
  | 0 => some []
  | n + 1 => (c.get? off).bind fun v => (loadN c (off + 1) n).map (v :: ·)

def loadA (c : ACells) (off : Nat) : Option Nat → Option AV
  | none => c.get? off
  | some n => (loadN c off n).map AV.agg

def storeL (c : ACells) (off : Nat) : List AV → Option ACells
  | [] => some c
  | v :: vs => (c.set? off v).bind fun c' => storeL c' (off + 1) vs

def kill (b : Nat) (h : AHeap) : AHeap := h.map fun x => if x.st = .old b then { x with st := .dead } else x
def reTip (b j : Nat) (h : AHeap) : AHeap := h.map fun x => if x.st = .old b then { x with st := .old j } else x

/-- A change of a block that is the call's own. -/
def change (h : AHeap) (b : Nat) (f : ACells → Option ACells) : Option AHeap :=
  match h[b]? with
  | some ⟨.tip o, c⟩ => (f c).map fun c' => (if o then kill b h else h).set b ⟨.tip o, c'⟩
  | _ => none

inductive MX where
  | t (i : Nat)
  | c (v : AV)
  | f (f : Nat)
  | g (i : Nat)
  deriving Inhabited

abbrev Acts := List (Nat × AV)

def look : Acts → Nat → Option AV
  | [], _ => none
  | (i, v) :: a, t => if i = t then some v else look a t

def aeval (a : Acts) : MX → Option AV
  | .t i => match look a i with
    | some .any => none
    | r => r
  | .c v => some v
  | .f f => some (.fn f [])
  | .g i => some (.ptr i 0)

def aevals (a : Acts) : List MX → Option (List AV)
  | [] => some []
  | x :: xs => (aeval a x).bind fun v => (aevals a xs).map (v :: ·)

inductive MOp where
  | mv (x : MX)
  | pick (c x y : MX)
  | bin (op : BinOp) (e : List Nat) (x y : MX)
  | un (op : UnOp) (x : MX)
  | ci (k : IntKind) (x : MX)
  | cid (x : MX)
  | cstr (x : MX)
  | ld (agg : Option Nat) (x : MX)
  | st (n : Nat) (p x : MX)
  | fa (off : Nat) (x : MX)
  | fld (off : Nat) (agg : Option Nat) (x : MX)
  | ixa (len esz : Nat) (agg : Option Nat) (x i : MX)
  | ixs (x i : MX)
  | ia (arr : Option Nat) (esz : Nat) (x i : MX)
  | slc (arr : Option Nat) (esz : Nat) (x : MX) (lo hi mx : Option MX)
  | slstr (x : MX) (lo hi : Option MX)
  | al (z : ACells)
  | bx (ints : Option IntKind) (n : Nat) (x : MX)
  | bld (z : List AV) (parts : List (Nat × Nat × MX))
  | bsl (z : ACells) (len : Nat) (esz : Nat) (parts : List (Nat × Nat × MX))
  | mf (f : Nat) (caps : List MX)
  | mks (z : ACells) (bytes : Nat) (len cap : MX)
  | ex (i : Nat) (x : MX)
  | nc (x : MX)
  | call (f : Nat) (xs : List MX)
  | calld (x : MX) (xs : List MX)
  | len (arr : Option Nat) (x : MX)
  | lens (x : MX)
  | mnx (mx : Bool) (xs : List MX)
  | app (z : ACells) (bytes : Nat) (s x : MX)
  | appz (z : ACells) (bytes : Nat) (s x : MX)
  | bad
  | cpy (esz : Nat) (d s : MX)
  deriving Inhabited

structure MOper where
  dst : Option Nat
  op : MOp
  guard : Option (Nat × Bool)
  deriving Inhabited

inductive MCode where
  | skip
  | reg (ops : List MOper)
  | regd (ops : List (Nat × MOper)) (un : List (Nat × Nat))
  | seq (a b : MCode)
  | cond (c : MX) (x y : MCode)
  | block (id : Nat) (keep : List Nat) (body : MCode)
  | loop (keep : List Nat) (body : MCode)
  | exit (id : Nat)
  | ret
  | goto (l : Nat)
  | scope (keep : List Nat) (l1 : Nat) (r1 : MCode) (l2 : Nat) (r2 body : MCode)
  deriving Inhabited

inductive MRes where
  | tmp (t : Nat)
  | cell (t : Nat) (agg : Option Nat)
  deriving Inhabited

structure MFunc where
  body : MCode
  res : List MRes
  trim : Bool
  deriving Inhabited

-- ------------------------------------------------------------------ plain operations

def abits (op : BinOp) (k : IntKind) (x y : Int) : Int :=
  let a := BitVec.ofInt k.bits x
  let b := BitVec.ofInt k.bits y
  k.wrap (match op with
    | .and => (a &&& b).toNat
    | .or => (a ||| b).toNat
    | .xor => (a ^^^ b).toNat
    | _ => (a &&& ~~~b).toNat)

/-- Whole numbers (0), bools (1), strings (2). -/
def scEq (c : Nat) (x y : AV) : Option Bool :=
  match c, x, y with
  | 0, .int k x, .int k' y => if k = k' then some (x == y) else none
  | 1, .bool x, .bool y => some (x == y)
  | 2, .str x, .str y => some (x.toList == y.toList)
  | _, _, _ => none

def scEqs : List Nat → List AV → List AV → Option Bool
  | [], [], [] => some true
  | c :: cs, x :: xs, y :: ys => (scEq c x y).bind fun b => (scEqs cs xs ys).map fun c => b && c
  | _, _, _ => none

/-- Whether a value is nil: if that is known. -/
def nilOf : AV → Option Bool
  | .nilp => some true
  | .ptr _ _ => some false
  | .nils => some true
  | .sl _ _ _ _ => some false
  | .gsl _ _ n _ mn => if mn && n == 0 then none else some false
  | .nilf => some true
  | .fn _ _ => some false
  | _ => none

def isSlice : AV → Bool
  | .nils => true
  | .sl _ _ _ _ => true
  | .gsl _ _ _ _ _ => true
  | _ => false

/-- Equality: of bools (1), pointers (2), slices and nil (3), functions and nil (4), flat structs (5, and what their cells are). -/
def aeq (e : List Nat) (x y : AV) : Option Bool :=
  match e, x, y with
  | [1], .bool a, .bool b => some (a == b)
  | [2], .nilp, .nilp => some true
  | [2], .nilp, .ptr _ _ => some false
  | [2], .ptr _ _, .nilp => some false
  | [3], .nils, y => if isSlice y then nilOf y else none
  | [3], x, .nils => if isSlice x then nilOf x else none
  | [4], .nilf, .nilf => some true
  | [4], .nilf, .fn _ _ => some false
  | [4], .fn _ _, .nilf => some false
  | 5 :: sh, .agg xs, .agg ys => scEqs sh xs ys
  | _, _, _ => none

def abinInt (op : BinOp) (k : IntKind) (x : Int) (k' : IntKind) (y : Int) : Option AV :=
  match op with
  | .shl => if y < 0 then none else some (.int k (k.wrap (x * 2 ^ (min y.toNat k.bits))))
  | .shr => if y < 0 then none else some (.int k (x.fdiv (2 ^ (min y.toNat k.bits))))
  | _ =>
    if k ≠ k' then none else
    match op with
    | .add => some (.int k (k.wrap (x + y)))
    | .sub => some (.int k (k.wrap (x - y)))
    | .mul => some (.int k (k.wrap (x * y)))
    | .quo => if y = 0 then none else some (.int k (k.wrap (x.tdiv y)))
    | .rem => if y = 0 then none else some (.int k (x.tmod y))
    | .and => some (.int k (abits .and k x y))
    | .or => some (.int k (abits .or k x y))
    | .xor => some (.int k (abits .xor k x y))
    | .andNot => some (.int k (abits .andNot k x y))
    | .eql => some (.bool (x == y))
    | .neq => some (.bool (x != y))
    | .lss => some (.bool (decide (x < y)))
    | .leq => some (.bool (decide (x ≤ y)))
    | .gtr => some (.bool (decide (x > y)))
    | .geq => some (.bool (decide (x ≥ y)))
    | _ => none

def abinStr (op : BinOp) (x y : ByteArray) : Option AV :=
  match op with
  | .add => if x.size + y.size ≤ 9223372036854775807 then some (.str (x ++ y)) else none
  | .eql => some (.bool (x.toList == y.toList))
  | .neq => some (.bool !(x.toList == y.toList))
  | .lss => some (.bool (Op.bytesLess x.toList y.toList))
  | .geq => some (.bool !(Op.bytesLess x.toList y.toList))
  | _ => none

def abin (op : BinOp) (e : List Nat) (x y : AV) : Option AV :=
  match x, y with
  | .int k a, .int k' b => abinInt op k a k' b
  | .str a, .str b => abinStr op a b
  | x, y =>
    match op with
    | .eql => (aeq e x y).map .bool
    | .neq => (aeq e x y).map fun b => .bool !b
    | _ => none

def aun (op : UnOp) (x : AV) : Option AV :=
  match op, x with
  | .neg, .int k n => some (.int k (k.wrap (0 - n)))
  | .xor, .int k n => some (.int k (abits .xor k (if k.signed then -1 else k.max) n))
  | .not, .bool b => some (.bool !b)
  | _, _ => none

def aminmax (mx : Bool) : AV → List AV → Option AV
  | v, [] => some v
  | .int k x, .int k' y :: rest => if k = k' then aminmax mx (.int k (if mx then (if y > x then y else x) else (if y < x then y else x))) rest else none
  | _, _ => none

/-- The n cells of a flat value from a place on. -/
def apart (cs : List AV) (off : Nat) : Option Nat → Option AV
  | none => cs[off]?
  | some n => if off + n ≤ cs.length then some (.agg ((cs.drop off).take n)) else none

def spliceL (z : List AV) (off : Nat) : List AV → List AV
  | [] => z
  | v :: vs => spliceL (z.set off v) (off + 1) vs

def fillA (z : List AV) : List (Nat × Nat × AV) → Option (List AV)
  | [] => some z
  | (off, n, v) :: rest =>
    if v.cells.length = n ∧ off + n ≤ z.length ∧ v.cells.all AV.isCell = true then fillA (spliceL z off v.cells) rest else none

def fillC (z : ACells) : List (Nat × Nat × AV) → Option ACells
  | [] => some z
  | (off, n, v) :: rest =>
    if v.cells.length = n ∧ off + n ≤ z.len then (storeL z off v.cells).bind fun z' => fillC z' rest else none

def partsOf (a : Acts) : List (Nat × Nat × MX) → Option (List (Nat × Nat × AV))
  | [] => some []
  | (o, n, x) :: rest => (aeval a x).bind fun v => (partsOf a rest).map ((o, n, v) :: ·)

def mkCells (ik : Option IntKind) (l : List AV) : Option ACells :=
  match ik with
  | some k => (toInts k l).map (.ints k)
  | none => if l.all AV.isCell then some (.vals l) else none

def asN : AV → Option Nat
  | .int _ n => if 0 ≤ n then some n.toNat else none
  | _ => none

def optN (a : Acts) : Option MX → Option (Option Nat)
  | none => some none
  | some x => (aeval a x).bind fun v => (asN v).map some

/-- The bounds of a cut: low, high. -/
def bounds (len cap : Nat) (lo hi : Option Nat) : Option (Nat × Nat) :=
  let h := hi.getD len
  let l := lo.getD 0
  if h ≤ cap ∧ l ≤ h then some (l, h) else none

def repl (z : ACells) (n : Nat) : ACells :=
  match z with
  | .ints k l => .ints k ((List.replicate n l).flatten)
  | .vals l => .vals ((List.replicate n l).flatten)

def bytesOf : ACells → Option ByteArray
  | .ints .u8 l => some ⟨(l.map fun n => UInt8.ofNat n.toNat).toArray⟩
  | _ => none

/-- A slice's cells: none: not known. -/
def sliceCells (h : AHeap) (esz : Nat) : AV → Option ACells
  | .sl b off n _ => (cellsAt h b).bind fun c => if off + n * esz ≤ c.len then some (c.sub off (n * esz)) else none
  | .gsl b off n e _ => if e = esz then (cellsAt h b).bind fun c => if off + n * esz ≤ c.len then some (c.sub off (n * esz)) else none else none
  | _ => none

def slen : AV → Option Nat
  | .nils => some 0
  | .sl _ _ n _ => some n
  | .gsl _ _ n _ _ => some n
  | _ => none

/-- What is appended. (z: one element of zeros: which kind of cells.) -/
def newCells (h : AHeap) (z : ACells) : AV → Option ACells
  | .nils => some (z.sub 0 0)
  | x => sliceCells h z.len x

def room (n bytes : Nat) : Bool := decide ((4 * n + 8192) * bytes ≤ 281474976710656 ∧ n < 9223372036854775807)

def ACells.list : ACells → List AV
  | .ints k l => l.map (AV.int k)
  | .vals l => l

def aappend (h : AHeap) (z : ACells) (bytes : Nat) (s : AV) (xs : ACells) (m : Nat) : Option (AV × AHeap × List Nat) :=
  match s with
  | .nils => if room m bytes then some (.gsl h.length 0 m z.len (m == 0), h ++ [.new xs], []) else none
  | .sl b off n cap =>
    if n + m ≤ cap then
      (change h b fun c => storeL c (off + n * z.len) xs.list).map fun h' => (.sl b off (n + m) cap, h', [b])
    else
      (sliceCells h z.len s).bind fun old => (old.app xs).bind fun c =>
        if room (n + m) bytes then some (.gsl h.length 0 (n + m) z.len false, h ++ [.new c], []) else none
  | .gsl b off n e mn =>
    if e = z.len then
      match h[b]? with
      | some ⟨.tip o, c⟩ =>
        if off + n * e = c.len then
          ((c.sub off (n * e)).app xs).bind fun c' =>
            if room (n + m) bytes then
              some (.gsl h.length 0 (n + m) e mn, ((if o then reTip b h.length h else h).set b ⟨.old h.length, c⟩) ++ [⟨.tip true, c'⟩], [b])
            else none
        else none
      | _ => none
    else none
  | _ => none

def strCells (s : ByteArray) : ACells := .ints .u8 (s.data.toList.map fun b => (b.toNat : Int))

/-- Calls: what a function answers, the heap, which elder blocks it has changed. -/
abbrev CallT := Nat → List AV → AHeap → Option (AV × AHeap × List Nat)

def aop (call : CallT) (o : MOp) (a : Acts) (h : AHeap) : Option (AV × AHeap × List Nat) :=
  match o with
  | .mv x => (aeval a x).map fun v => (v, h, [])
  | .pick c x y => (aeval a c).bind fun c => match c with
    | .bool true => (aeval a x).map fun v => (v, h, [])
    | .bool false => (aeval a y).map fun v => (v, h, [])
    | _ => none
  | .bin op e x y => (aeval a x).bind fun x => (aeval a y).bind fun y => (abin op e x y).map fun v => (v, h, [])
  | .un op x => (aeval a x).bind fun x => (aun op x).map fun v => (v, h, [])
  | .ci k x => (aeval a x).bind fun x => match x with
    | .int _ n => some (.int k (k.wrap n), h, [])
    | _ => none
  | .cid x => (aeval a x).bind fun x => match x with
    | .str s => some (.str s, h, [])
    | _ => none
  | .cstr x => (aeval a x).bind fun x => match x with
    | .nils => some (.str ByteArray.empty, h, [])
    | x => (sliceCells h 1 x).bind fun c => (bytesOf c).map fun s => (.str s, h, [])
  | .ld agg x => (aeval a x).bind fun x => match x with
    | .ptr b off => (cellsAt h b).bind fun c => (loadA c off agg).map fun v => (v, h, [])
    | _ => none
  | .st n p x => (aeval a p).bind fun p => (aeval a x).bind fun x => match p with
    | .ptr b off => if x.cells.length = n then (change h b fun c => storeL c off x.cells).map fun h' => (.any, h', [b]) else none
    | _ => none
  | .fa off x => (aeval a x).bind fun x => match x with
    | .ptr b o => some (.ptr b (o + off), h, [])
    | _ => none
  | .fld off agg x => (aeval a x).bind fun x => match x with
    | .agg cs => (apart cs off agg).map fun v => (v, h, [])
    | _ => none
  | .ixa len esz agg x i => (aeval a x).bind fun x => (aeval a i).bind fun i => (asN i).bind fun i => match x with
    | .agg cs => if i < len then (apart cs (i * esz) agg).map fun v => (v, h, []) else none
    | _ => none
  | .ixs x i => (aeval a x).bind fun x => (aeval a i).bind fun i => (asN i).bind fun i => match x with
    | .str s => (s.data.toList[i]?).map fun b => (.int .u8 b.toNat, h, [])
    | _ => none
  | .ia arr esz x i => (aeval a x).bind fun x => (aeval a i).bind fun i => (asN i).bind fun i => match arr, x with
    | some len, .ptr b o => if i < len then some (.ptr b (o + i * esz), h, []) else none
    | none, .sl b o n _ => if i < n then some (.ptr b (o + i * esz), h, []) else none
    | none, .gsl b o n e _ => if e = esz ∧ i < n then some (.ptr b (o + i * esz), h, []) else none
    | _, _ => none
  | .slc arr esz x lo hi mx => (aeval a x).bind fun x => (optN a lo).bind fun lo => (optN a hi).bind fun hi => (optN a mx).bind fun mx =>
    match arr, x with
    | some len, .ptr b o => (match mx with | none => bounds len len lo hi | some m => if m ≤ len then bounds len m lo hi else none).map fun (l, u) => (.sl b (o + l * esz) (u - l) (mx.getD len - l), h, [])
    | none, .nils => (bounds 0 0 lo hi).bind fun _ => match mx with | none => some (.nils, h, []) | some m => if m = 0 then some (.nils, h, []) else none
    | none, .sl b o n c => (match mx with | none => bounds n c lo hi | some m => if m ≤ c then bounds n m lo hi else none).map fun (l, u) => (.sl b (o + l * esz) (u - l) (mx.getD c - l), h, [])
    | none, .gsl b o n e mn => if e = esz then match mx with
        | none => (bounds n n lo hi).map fun (l, u) => (.gsl b (o + l * esz) (u - l) e mn, h, [])
        | some m => if m ≤ n ∧ mn = false then (bounds n m lo hi).map fun (l, u) => (.sl b (o + l * esz) (u - l) (m - l), h, []) else none
      else none
    | _, _ => none
  | .slstr x lo hi => (aeval a x).bind fun x => (optN a lo).bind fun lo => (optN a hi).bind fun hi => match x with
    | .str s => (bounds s.size s.size lo hi).map fun (l, u) => (.str (s.extract l u), h, [])
    | _ => none
  | .al z => some (.ptr h.length 0, h ++ [.new z], [])
  | .bx ik n x => (aeval a x).bind fun x => (mkCells ik x.cells).bind fun c => if x.cells.length = n then some (.ptr h.length 0, h ++ [.new c], []) else none
  | .bld z parts => (partsOf a parts).bind fun ps => (fillA z ps).map fun cs => (.agg cs, h, [])
  | .bsl z len esz parts => (partsOf a parts).bind fun ps => (fillC (repl z len) ps).bind fun c => if z.len = esz then some (.sl h.length 0 len len, h ++ [.new c], []) else none
  | .mf f caps => (aevals a caps).map fun vs => (.fn f vs, h, [])
  | .mks z bytes len cap => (aeval a len).bind fun l => (asN l).bind fun l => (aeval a cap).bind fun c => (asN c).bind fun c =>
      if l ≤ c ∧ bytes * c ≤ 281474976710656 ∧ c < 9223372036854775808 then some (.sl h.length 0 l c, h ++ [.new (repl z c)], []) else none
  | .ex i x => (aeval a x).bind fun x => match x with
    | .tup vs => (vs[i]?).map fun v => (v, h, [])
    | _ => none
  | .nc x => (aeval a x).bind fun x => match x with
    | .ptr b o => some (.ptr b o, h, [])
    | .fn f cs => some (.fn f cs, h, [])
    | _ => none
  | .call f xs => (aevals a xs).bind fun vs => call f vs h
  | .calld x xs => (aeval a x).bind fun x => (aevals a xs).bind fun vs => match x with
    | .fn f caps => call f (vs ++ caps) h
    | _ => none
  | .len arr x => (aeval a x).bind fun x => match arr, x with
    | some n, _ => some (.int .i64 n, h, [])
    | none, x => (slen x).map fun (n : Nat) => (AV.int .i64 (n : Int), h, [])
  | .lens x => (aeval a x).bind fun x => match x with
    | .str s => some (.int .i64 s.size, h, [])
    | _ => none
  | .mnx mx xs => (aevals a xs).bind fun vs => match vs with
    | [] => none
    | v :: vs => (aminmax mx v vs).map fun v => (v, h, [])
  | .app z bytes s x => (aeval a s).bind fun s => (aeval a x).bind fun x => (newCells h z x).bind fun xs => (slen x).bind fun m => aappend h z bytes s xs m
  | .appz z bytes s x => (aeval a s).bind fun s => (aeval a x).bind fun x => match x with
    | .int .i64 n => if 0 ≤ n ∧ n * bytes ≤ 281474976710656 then aappend h z bytes s (repl z n.toNat) n.toNat else none
    | _ => none
  | .bad => none
  | .cpy esz d s => (aeval a d).bind fun d => (aeval a s).bind fun s => (slen d).bind fun n => match s with
    | .str s =>
        (match d with
          | .sl b off _ _ => if esz = 1 then (change h b fun c => storeL c off (strCells (s.extract 0 (min s.size n))).list).map fun h' => (.int .i64 (min s.size n : Nat), h', [b]) else none
          | _ => none)
    | s => (slen s).bind fun m => (sliceCells h esz s).bind fun c =>
        (match d with
          | .sl b off _ _ => (change h b fun d => storeL d off (c.sub 0 (min m n * esz)).list).map fun h' => (.int .i64 (min m n : Nat), h', [b])
          | _ => none)

def wadd (base : Nat) (ws new : List Nat) : List Nat := new.foldl (fun ws b => if b < base ∧ b ∉ ws then ws ++ [b] else ws) ws

def putA (a : Acts) (d : Option Nat) (v : AV) : Acts :=
  match d with
  | some d => (d, v) :: a
  | none => a

def guardOf (a : Acts) : Option (Nat × Bool) → Option Bool
  | none => some true
  | some (t, b) => match look a t with
    | some (.bool x) => some (x == b)
    | some (.tup []) => some false
    | _ => none

def aoper (call : CallT) (o : MOper) (a : Acts) (h : AHeap) : Option (AV × AHeap × List Nat) :=
  (guardOf a o.guard).bind fun
    | true => aop call o.op a h
    | false => some (.tup [], h, [])

def aops (call : CallT) (base : Nat) : List MOper → Acts → AHeap → List Nat → Option (Acts × AHeap × List Nat)
  | [], a, h, ws => some (a, h, ws)
  | o :: os, a, h, ws => (aoper call o a h).bind fun (v, h', ws') => aops call base os (putA a o.dst v) h' (wadd base ws ws')

inductive AExit where
  | normal
  | exit (id : Nat)
  | ret
  | goto (l : Nat)
  deriving Inhabited

abbrev AOut := AExit × Acts × AHeap × List Nat

def keepA (keep : List Nat) (a : Acts) : Acts := keep.filterMap fun t => (look a t).map fun v => (t, v)

/-- Which block an operation reads. -/
def readB (o : MOp) (a : Acts) : Option Nat :=
  match o with
  | .ld _ x => match aeval a x with
    | some (.ptr b _) => some b
    | _ => none
  | .cstr x => match aeval a x with
    | some (.sl b _ _ _) => some b
    | some (.gsl b _ _ _ _) => some b
    | _ => none
  | _ => none

structure Rec where
  rb : Option Nat
  st : Bool
  ws : List Nat
  lo : Nat
  hi : Nat

def faceOk (h : AHeap) (b : Nat) : Bool :=
  match h[b]? with
  | some ⟨.ext, _⟩ => true
  | some ⟨.tip _, _⟩ => true
  | _ => false

def recOf (o : MOper) (a : Acts) (h : AHeap) (ws : List Nat) (hi : Nat) : Rec :=
  if guardOf a o.guard = some true then
    match readB o.op a with
    | some b => ⟨some b, faceOk h b, ws, h.length, hi⟩
    | none => ⟨none, true, ws, h.length, hi⟩
  else ⟨none, true, [], h.length, h.length⟩

def aopsR (call : CallT) (base : Nat) : List (Nat × MOper) → Acts → AHeap → List Nat → List Rec → Option (Acts × AHeap × List Nat × List Rec)
  | [], a, h, ws, rs => some (a, h, ws, rs)
  | (_, o) :: os, a, h, ws, rs => (aoper call o a h).bind fun (v, h', ws') =>
    aopsR call base os (putA a o.dst v) h' (wadd base ws ws') (rs ++ [recOf o a h ws' h'.length])

/-- Of each pair (a read, what may come ahead of it or behind it): the one doesn't touch what the other reads. -/
def apartR (rs : List Rec) (un : List (Nat × Nat)) : Bool :=
  un.all fun (j, q) => match rs[j]?, rs[q]? with
    | some r, some s => match r.rb with
      | some b => r.st && !s.ws.contains b && !(decide (s.lo ≤ b) && decide (b < s.hi))
      | none => true
    | _, _ => false

def iter (step : Acts → AHeap → List Nat → Option AOut) (keep : List Nat) : Nat → Acts → AHeap → List Nat → Option AOut
  | 0, _, _, _ => none
  | n + 1, a, h, ws => (step (keepA keep a) h ws).bind fun
    | (.normal, a', h', ws') => iter step keep n a' h' ws'
    | r => some r

/-- A scope with two labels: what comes of jumps. -/
def giter (s1 s2 : Acts → AHeap → List Nat → Option AOut) (keep : List Nat) (l1 l2 : Nat) : Nat → Option AOut → Option AOut
  | 0, _ => none
  | n + 1, o => o.bind fun
    | (.goto l, a, h, ws) => if l = l1 then giter s1 s2 keep l1 l2 n (s1 (keepA keep a) h ws) else if l = l2 then giter s1 s2 keep l1 l2 n (s2 (keepA keep a) h ws) else none
    | r => some r

def aexec (call : CallT) (base n : Nat) : MCode → Acts → AHeap → List Nat → Option AOut
  | .skip, a, h, ws => some (.normal, a, h, ws)
  | .reg ops, a, h, ws => (aops call base ops a h ws).map fun (a, h, ws) => (.normal, a, h, ws)
  | .regd ops un, a, h, ws => (aopsR call base ops a h ws []).bind fun (a, h, ws, rs) => if apartR rs un then some (.normal, a, h, ws) else none
  | .seq x y, a, h, ws => (aexec call base n x a h ws).bind fun
    | (.normal, a, h, ws) => aexec call base n y a h ws
    | r => some r
  | .cond c x y, a, h, ws => (aeval a c).bind fun
    | .bool true => aexec call base n x a h ws
    | .bool false => aexec call base n y a h ws
    | _ => none
  | .block id keep body, a, h, ws => (aexec call base n body a h ws).bind fun
    | (.normal, a, h, ws) => some (.normal, keepA keep a, h, ws)
    | (.exit id', a, h, ws) => if id' = id then some (.normal, keepA keep a, h, ws) else some (.exit id', a, h, ws)
    | r => some r
  | .loop keep body, a, h, ws => iter (aexec call base n body) keep n a h ws
  | .exit id, a, h, ws => some (.exit id, a, h, ws)
  | .ret, a, h, ws => some (.ret, a, h, ws)
  | .goto l, a, h, ws => some (.goto l, a, h, ws)
  | .scope keep l1 r1 l2 r2 body, a, h, ws => giter (aexec call base n r1) (aexec call base n r2) keep l1 l2 n (aexec call base n body a h ws)

def ares1 (a : Acts) (h : AHeap) : MRes → Option AV
  | .tmp t => aeval a (.t t)
  | .cell t agg => (aop (fun _ _ _ => none) (.ld agg (.t t)) a h).map (·.1)

def aresL (a : Acts) (h : AHeap) : List MRes → Option (List AV)
  | [] => some []
  | r :: rs => (ares1 a h r).bind fun v => (aresL a h rs).map (v :: ·)

def ares (a : Acts) (h : AHeap) (rs : List MRes) : Option AV :=
  (aresL a h rs).map fun vs => match vs with
    | [v] => v
    | vs => .tup vs

def argsA (i : Nat) : List AV → Acts
  | [] => []
  | v :: vs => (i, v) :: argsA (i + 1) vs

/-- A function's body on a heap. -/
def abody (call : CallT) (n : Nat) (m : MFunc) (args : List AV) (h : AHeap) : Option (AV × AHeap × List Nat) :=
  (aexec call h.length n m.body (argsA 0 args) h []).bind fun
    | (.exit _, _, _, _) => none
    | (.goto _, _, _, _) => none
    | (_, a, h', ws) => (ares a h' m.res).map fun v => (v, h', ws)

def oldIn (len : Nat) (x : ABlk) : Bool :=
  match x.st with
  | .old t => decide (t < len)
  | _ => true

/-- What was made within a call falls away, if nothing that stays leads there. -/
def trimR (len : Nat) (r : AV × AHeap × List Nat) : AV × AHeap × List Nat :=
  if r.1.lt len && r.2.2.all (fun b => match r.2.1[b]? with
      | some x => x.c.lt len
      | none => false) && (r.2.1.take len).all (oldIn len)
  then (r.1, r.2.1.take len, r.2.2) else r

mutual
def AV.shift (G d : Nat) : AV → AV
  | .ptr b o => .ptr (b + d - G) o
  | .sl b o n c => .sl (b + d - G) o n c
  | .gsl b o n e mn => .gsl (b + d - G) o n e mn
  | .fn f cs => .fn f (AV.shifts G d cs)
  | .agg cs => .agg (AV.shifts G d cs)
  | .tup cs => .tup (AV.shifts G d cs)
  | v => v
def AV.shifts (G d : Nat) : List AV → List AV
  | [] => []
  | x :: xs => AV.shift G d x :: AV.shifts G d xs
end

structure Cfg where
  mp : Nat → Option MFunc
  gl : AHeap
  prim : Nat → List AV → AHeap → Option (Option (AV × AHeap × List Nat))

def acall (C : Cfg) : Nat → CallT
  | 0, _, _, _ => none
  | n + 1, f, args, h =>
    match C.prim f args h with
    | some r => r
    | none =>
      match C.mp f with
      | none => none
      | some m =>
        if AV.lts 0 args then
          (abody (acall C n) n m args C.gl).bind fun (v, h', ws) =>
            if AV.lt 0 v then some (v, h, [])
            else (abody (acall C n) n m args h).map fun r => if m.trim then trimR h.length r else r
        else (abody (acall C n) n m args h).map fun r => if m.trim then trimR h.length r else r

end Go.Proofs.YtdbdmnhnijpdcaaDoorW.AI
