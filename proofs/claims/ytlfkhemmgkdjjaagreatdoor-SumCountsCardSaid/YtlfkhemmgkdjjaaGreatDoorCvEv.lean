/- The evaluator: the loaded program's own code, run over pure values (lists and numbers instead of addresses). Definitions alone; what they say of the machine is proved in the texts behind this one. -/
import Derived.WalkKit
import Derived.KernelRfl
namespace Go.Cv

/-- A pure value. -/
inductive D where
  | bool (b : Bool)
  | int (k : IntKind) (n : Int)
  | str (s : List UInt8)
  | nilp
  | ptr (id n i off : Nat)
  | eptr (cells : List D) (off : Nat)
  | slc (xs : List (List D))
  | emp
  | arr (id n : Nat)
  | asl (id n lo hi : Nat)
  | fn (f : Fn) (first captured : List D)
  | nilfn
  | iface (t : TypeId) (d : D)
  | niface
  | agg (cs : List D)
  | tup (ds : List D)
  | top
  deriving Inhabited

/-- An object that may be written: elements, each a row of cells; the first 'sh' of them are written no more. -/
structure Ob where
  xs : List (List D)
  sh : Nat
  deriving Inhabited

abbrev Heap := List Ob

/-- What is known of a type. -/
inductive TK where
  | other
  | str
  | int (k : IntKind)
  | slice (e : TypeId)
  | struct (fs : List (Nat × Nat × Bool))
  | iface
  | bool
  | ptr (e : TypeId)

structure TI where
  agg : Bool
  size : Nat
  bytes : Nat
  zero : List D
  desc : TK

inductive Out where
  | ret (d : D)
  | pan (d : D)

abbrev CallF := FuncId → List D → Heap → Option (Out × Heap)

structure Env where
  ti : TypeId → Option TI
  code : FuncId → Option Func
  orc : FuncId → Option (List D → Heap → Option (Out × Heap))
  /-- The cells of a package's variable that nothing writes. -/
  glob : Nat → Option (List D)
  /-- Of a loop, told by its function and its first region: which temporaries are read in a later round. -/
  live : FuncId → Nat → Option (List Nat)
  /-- Of an operation: is what it makes to be an object (else a plain list)? -/
  keep : FuncId → Nat → Nat → Bool
  /-- Of a function: is it handed arrays as they are (it may write them)? -/
  byref : FuncId → Bool
  /-- Of a region that draws its order: the pairs of operations that may come in either order, and of which one may write. -/
  pairs : FuncId → Nat → List (Nat × Nat)

/-! ### Temporaries, by a tree -/
inductive Tm where
  | nil
  | node (v : D) (l r : Tm)
  deriving Inhabited

def Tm.get : Tm → Nat → D
  | .nil, _ => .top
  | .node v l r, n => bif Nat.beq n 0 then v else bif Nat.beq (n % 2) 1 then l.get (n / 2) else r.get (n / 2 - 1)

def Tm.set : Tm → Nat → D → Tm
  | .nil, _, _ => .nil
  | .node v l r, n, d => bif Nat.beq n 0 then .node d l r else bif Nat.beq (n % 2) 1 then .node v (l.set (n / 2) d) r else .node v l (r.set (n / 2 - 1) d)

/-- A tree of some depth, its values out of a list. -/
def Tm.ofDepth (f : Nat → D) : Nat → Nat → Nat → Tm
  | 0, _, _ => .nil
  | k + 1, at_, step => .node (f at_) (Tm.ofDepth f k (at_ + step) (step * 2)) (Tm.ofDepth f k (at_ + step * 2) (step * 2))

def depthOf (n : Nat) : Nat :=
  bif Nat.ble n 7 then 3 else bif Nat.ble n 15 then 4 else bif Nat.ble n 31 then 5 else bif Nat.ble n 63 then 6 else bif Nat.ble n 127 then 7 else bif Nat.ble n 255 then 8 else bif Nat.ble n 511 then 9 else 12

/-- The temporaries of a call. -/
structure Ts where
  n : Nat
  t : Tm

def Ts.get (T : Ts) (i : Nat) : D := T.t.get i
def Ts.set (T : Ts) (i : Nat) (d : D) : Option Ts := bif Nat.blt i T.n then some ⟨T.n, T.t.set i d⟩ else none
def Ts.of (n : Nat) (args : List D) : Ts := ⟨n, Tm.ofDepth (fun i => args.getD i .top) (depthOf n) 0 1⟩

/-! ### Values -/
def ofVal0 : Value → D
  | .bool b => .bool b
  | .int k n => .int k n
  | .string s => .str s.data.toList
  | .pointer none => .nilp
  | .slice none 0 0 => .emp
  | .nilFunc => .nilfn
  | .nilIface => .niface
  | _ => .top

def ofVal : Value → D
  | .agg cs => .agg (cs.toList.map ofVal0)
  | v => ofVal0 v

def opd (E : Env) (T : Ts) : Operand → D
  | .tmp t => T.get t
  | .const v => ofVal v
  | .global g => match E.glob g with
    | some cells => .eptr cells 0
    | none => .top
  | .func f => .fn (.func f) [] []

def cellsOf : D → List D
  | .agg cs => cs
  | d => [d]

def leaf : D → Bool
  | .agg _ | .tup _ | .top => false
  | _ => true

/-! Does a value lead to no object? (What a list holds leads to none.) -/
mutual
def idFree : D → Bool
  | .ptr .. | .arr .. | .asl .. => false
  | .fn _ a b => idFreeL a && idFreeL b
  | .iface _ d => idFree d
  | .agg cs => idFreeL cs
  | .tup ds => idFreeL ds
  | _ => true
def idFreeL : List D → Bool
  | [] => true
  | d :: ds => idFree d && idFreeL ds
end

/-! The objects that a value leads to. -/
mutual
def ids : D → List Nat
  | .ptr id _ _ _ | .arr id _ | .asl id _ _ _ => [id]
  | .fn _ a b => idsL a ++ idsL b
  | .iface _ d => ids d
  | .agg cs => idsL cs
  | .tup ds => idsL ds
  | _ => []
def idsL : List D → List Nat
  | [] => []
  | d :: ds => ids d ++ idsL ds
end

/-! The same value, its objects numbered otherwise. -/
mutual
def ren (g : Nat → Nat) : D → D
  | .ptr id n i o => .ptr (g id) n i o
  | .arr id n => .arr (g id) n
  | .asl id n a b => .asl (g id) n a b
  | .fn f a b => .fn f (renL g a) (renL g b)
  | .iface t d => .iface t (ren g d)
  | .agg cs => .agg (renL g cs)
  | .tup ds => .tup (renL g ds)
  | d => d
def renL (g : Nat → Nat) : List D → List D
  | [] => []
  | d :: ds => ren g d :: renL g ds
end

/-! Does a value hold no list that may be a part of another one? -/
mutual
def flat : D → Bool
  | .slc xs => xs.isEmpty
  | .eptr .. | .asl .. => false
  | .fn _ a b => flatL a && flatL b
  | .iface _ d => flat d
  | .agg cs => flatL cs
  | .tup ds => flatL ds
  | _ => true
def flatL : List D → Bool
  | [] => true
  | d :: ds => flat d && flatL ds
end

def rowFree (xs : List (List D)) : Bool := xs.all fun x => idFreeL x

/-- A value as one that leads to no object of arrays: an array as the list of what it holds. -/
def view1 (H : Heap) : D → Option D
  | .emp => some (.slc [])
  | .arr id n => match H[id]? with
    | some ob => if ob.xs.length == n && rowFree ob.xs then some (.slc ob.xs) else none
    | none => none
  | .asl id n lo hi => match H[id]? with
    | some ob => if ob.xs.length == n && rowFree ob.xs then some (.slc ((ob.xs.take hi).drop lo)) else none
    | none => none
  | d => some d

def viewL (H : Heap) : List D → Option (List D)
  | [] => some []
  | d :: ds => match view1 H d, viewL H ds with
    | some x, some xs => some (x :: xs)
    | _, _ => none

def view (H : Heap) : D → Option D
  | .agg cs => (viewL H cs).map .agg
  | .tup ds => (viewT ds).map .tup
  | d => view1 H d
where
  viewT : List D → Option (List D)
    | [] => some []
    | .agg cs :: ds => match viewL H cs, viewT ds with
      | some x, some xs => some (.agg x :: xs)
      | _, _ => none
    | d :: ds => match view1 H d, viewT ds with
      | some x, some xs => some (x :: xs)
      | _, _ => none

/-- The arrays that 'view' turns into lists. -/
def arrs : D → List Nat
  | .arr id _ | .asl id _ _ _ => [id]
  | .agg cs => arrsL cs
  | .tup ds => arrsT ds
  | _ => []
where
  arr1 : D → List Nat
    | .arr id _ | .asl id _ _ _ => [id]
    | _ => []
  arrsL : List D → List Nat
    | [] => []
    | d :: ds => arr1 d ++ arrsL ds
  arrsT : List D → List Nat
    | [] => []
    | .agg cs :: ds => arrsL cs ++ arrsT ds
    | d :: ds => arr1 d ++ arrsT ds

/-- What an array holds now is written no more. -/
def shareAll (H : Heap) : List Nat → Heap
  | [] => H
  | id :: l => match H[id]? with
    | some ob => shareAll (H.set id ⟨ob.xs, ob.xs.length⟩) l
    | none => shareAll H l

def splice (cs : List D) (off : Nat) (xs : List D) : List D := cs.take off ++ xs ++ cs.drop (off + xs.length)

/-! ### Operators -/
/-- A number cut to its kind, without a division where it fits. -/
def wr (k : IntKind) (n : Int) : Int :=
  match k with
  | .i64 => if -9223372036854775808 ≤ n ∧ n ≤ 9223372036854775807 then n else IntKind.wrap k n
  | .u64 => if 0 ≤ n ∧ n ≤ 18446744073709551615 then n else IntKind.wrap k n
  | .u32 => if 0 ≤ n ∧ n ≤ 4294967295 then n else IntKind.wrap k n
  | .u8 => if 0 ≤ n ∧ n ≤ 255 then n else IntKind.wrap k n
  | k => IntKind.wrap k n

def intD (op : BinOp) (k : IntKind) (a b : Int) : Option D :=
  match op with
  | .add => some (.int k (wr k (a + b)))
  | .sub => some (.int k (wr k (a - b)))
  | .mul => some (.int k (wr k (a * b)))
  | .quo => if b = 0 then none else some (.int k (wr k (a.tdiv b)))
  | .rem => if b = 0 then none else some (.int k (a.tmod b))
  | .and => some (.int k (wr k (BitVec.ofInt k.bits a &&& BitVec.ofInt k.bits b).toNat))
  | .or => some (.int k (wr k (BitVec.ofInt k.bits a ||| BitVec.ofInt k.bits b).toNat))
  | .xor => some (.int k (wr k (BitVec.ofInt k.bits a ^^^ BitVec.ofInt k.bits b).toNat))
  | .andNot => some (.int k (wr k (BitVec.ofInt k.bits a &&& ~~~BitVec.ofInt k.bits b).toNat))
  | .eql => some (.bool (a == b))
  | .neq => some (.bool (a != b))
  | .lss => some (.bool (decide (a < b)))
  | .leq => some (.bool (decide (a ≤ b)))
  | .gtr => some (.bool (decide (a > b)))
  | .geq => some (.bool (decide (a ≥ b)))
  | .shl => if b < 0 then none else some (.int k (wr k (a * 2 ^ (min b.toNat k.bits))))
  | .shr => if b < 0 then none else some (.int k (a.fdiv (2 ^ (min b.toNat k.bits))))

def strD (op : BinOp) (x y : List UInt8) : Option D :=
  match op with
  | .add => if ((x.length + y.length : Nat) : Int) > IntKind.i64.max then none else some (.str (x ++ y))
  | .eql => some (.bool (x == y))
  | .neq => some (.bool !(x == y))
  | .lss => some (.bool (Op.bytesLess x y))
  | .leq => some (.bool (Op.bytesLess x y || x == y))
  | .gtr => some (.bool !(Op.bytesLess x y || x == y))
  | .geq => some (.bool !(Op.bytesLess x y))
  | _ => none

/-- 'bt': is the operands' type one of bools? -/
def binD (bt : Bool) (op : BinOp) (x y : D) : Option D :=
  match x, y with
  | .int k a, .int k' b => match op with
    | .shl | .shr => intD op k a b
    | _ => if k = k' then intD op k a b else none
  | .str a, .str b => strD op a b
  | .bool a, .bool b => if bt then (match op with
    | .eql => some (.bool (a == b))
    | .neq => some (.bool !(a == b))
    | _ => none) else none
  | _, _ => none

def eqvD (op : BinOp) (b : Bool) : Option D :=
  match op with
  | .eql => some (.bool b)
  | .neq => some (.bool !b)
  | _ => none

/-- A slice that holds something, against nil; a pointer against nil. -/
def nilD (k : TK) (op : BinOp) (y : Operand) (dx dy : D) : Option D :=
  match k, dx with
  | .slice _, .slc (_ :: _) => match y with
    | .const (.slice none 0 0) => eqvD op false
    | _ => none
  | .ptr _, .nilp => match dy with
    | .nilp => eqvD op true
    | .eptr _ _ => eqvD op false
    | _ => none
  | .ptr _, .eptr _ _ => match dy with
    | .nilp => eqvD op false
    | _ => none
  | .ptr _, .ptr _ _ _ _ => match dy with
    | .nilp => eqvD op false
    | _ => none
  | _, _ => none

def unD (op : UnOp) (x : D) : Option D :=
  match op, x with
  | .neg, .int k n => intD .sub k 0 n
  | .xor, .int k n => intD .xor k (if k.signed then -1 else k.max) n
  | .not, .bool b => some (.bool !b)
  | _, _ => none

/-- The bounds of a cut: low, high; 'cap' is what is known to be there. -/
def boundD (d : Option D) (dflt : Nat) : Option Nat :=
  match d with
  | none => some dflt
  | some (.int _ n) => if 0 ≤ n then some n.toNat else none
  | _ => none

def bytesOfRows : List (List D) → Option (List UInt8)
  | [] => some []
  | [.int .u8 n] :: l => (bytesOfRows l).map (UInt8.ofNat n.toNat :: ·)
  | _ => none

def rowsOfBytes (s : List UInt8) : List (List D) := s.map fun b => [.int .u8 b.toNat]

/-- What is read of a list, an array, a part of one. -/
def rowsOf (H : Heap) : D → Option (List (List D))
  | .slc xs => some xs
  | .emp => some []
  | .arr id n => match H[id]? with
    | some ob => if ob.xs.length == n then some ob.xs else none
    | none => none
  | .asl id n lo hi => match H[id]? with
    | some ob => if ob.xs.length == n then some ((ob.xs.take hi).drop lo) else none
    | none => none
  | _ => none

/-- Has the first row so many cells (and so each)? -/
def headOK (sz : Nat) : List (List D) → Bool
  | [] => true
  | x :: _ => x.length == sz

/-- Does a length's operand fit its type, and is it what it was? -/
def lenOK (E : Env) (H : Heap) (t : TypeId) (x : D) : Bool :=
  match E.ti t with
  | some ⟨_, _, _, _, .str⟩ => match x with | .str _ => true | _ => false
  | some ⟨_, _, _, _, .slice _⟩ => match x with
    | .slc _ | .emp => true
    | .arr id n | .asl id n _ _ => match H[id]? with | some ob => ob.xs.length == n | none => false
    | _ => false
  | _ => false

def lenD : D → Option Nat
  | .slc xs => some xs.length
  | .str s => some s.length
  | .emp => some 0
  | .arr _ n => some n
  | .asl _ _ lo hi => some (hi - lo)
  | _ => none

def sliceD (H : Heap) (x : D) (lo hi mx : Option D) : Option D :=
  match x with
  | .str s => match mx, boundD hi s.length with
    | none, some h => if h ≤ s.length then match boundD lo 0 with
      | some l => if l ≤ h then some (.str ((s.take h).drop l)) else none
      | none => none
      else none
    | _, _ => none
  | .slc xs => match boundD mx xs.length, boundD hi xs.length with
    | some m, some h => if m ≤ xs.length ∧ h ≤ m then match boundD lo 0 with
      | some l => if l ≤ h then (if mx.isSome && m == l then some .emp else some (.slc ((xs.take h).drop l))) else none
      | none => none
      else none
    | _, _ => none
  | .emp => match boundD mx 0, boundD hi 0, boundD lo 0 with
    | some 0, some 0, some 0 => some .emp
    | _, _, _ => none
  | .arr id n => match H[id]? with
    | some ob => if ob.xs.length == n then match boundD mx n, boundD hi n with
      | some m, some h => if m ≤ n ∧ h ≤ m then match boundD lo 0 with
        | some l => if l ≤ h then (if mx.isSome && m == l then some .emp else some (.asl id n l h)) else none
        | none => none
        else none
      | _, _ => none
      else none
    | none => none
  | _ => none

def placeD (d : TK) (f : Nat) : Option (Nat × Nat × Bool) :=
  match d with
  | .struct fs => fs[f]?
  | _ => none

def minD : D → List D → Option D
  | .int k x, .int k' y :: rest => if k = k' then minD (.int k (if y < x then y else x)) rest else none
  | d, [] => some d
  | _, _ => none

def maxD : D → List D → Option D
  | .int k x, .int k' y :: rest => if k = k' then maxD (.int k (if y > x then y else x)) rest else none
  | d, [] => some d
  | _, _ => none

def fillD (places : Nat → Option (Nat × Nat)) (cells : List D) : List (Nat × D) → Option (List D)
  | [] => some cells
  | (i, v) :: rest => match places i with
    | none => none
    | some (off, size) =>
      if (cellsOf v).length = size ∧ off + size ≤ cells.length ∧ (cellsOf v).all leaf then fillD places (splice cells off (cellsOf v)) rest
      else none

/-- A list's rows out of a literal's parts. -/
def fillRows (rows : List (List D)) (size : Nat) : List (Nat × D) → Option (List (List D))
  | [] => some rows
  | (i, v) :: rest =>
    if (cellsOf v).length = size ∧ i < rows.length ∧ (cellsOf v).all leaf then fillRows (rows.set i (cellsOf v)) size rest
    else none

/-- A variable's value out of a row of cells. -/
def cellAt (i : TI) (row : List D) (off : Nat) : Option D :=
  if off + i.size ≤ row.length then (if i.agg then some (.agg ((row.drop off).take i.size)) else if i.size = 1 then row[off]? else none) else none

def loadD (E : Env) (H : Heap) (t : TypeId) (a : D) : Option D :=
  match E.ti t with
  | none => none
  | some i => match a with
    | .ptr id n k off => match H[id]? with
      | some ob => if ob.xs.length == n then (match ob.xs[k]? with | some row => cellAt i row off | none => none) else none
      | none => none
    | .eptr cells off => cellAt i cells off
    | _ => none

def storeD (E : Env) (H : Heap) (t : TypeId) (a v : D) : Option Heap :=
  match E.ti t, a with
  | some i, .ptr id n k off => match H[id]? with
    | some ob =>
      if ob.xs.length == n && ob.sh ≤ k then match ob.xs[k]? with
        | some row =>
          if (cellsOf v).length = i.size ∧ off + i.size ≤ row.length ∧ (cellsOf v).all leaf then
            some (H.set id ⟨ob.xs.set k (splice row off (cellsOf v)), ob.sh⟩)
          else none
        | none => none
      else none
    | none => none
  | _, _ => none

/-- Rows as they go into a list that is read alone: its cells lead to no object. -/
def canonRow (H : Heap) (x : List D) : Option (List D) := viewL H x

def canonRows (H : Heap) : List (List D) → Option (List (List D))
  | [] => some []
  | x :: xs => match canonRow H x, canonRows H xs with
    | some y, some ys => some (y :: ys)
    | _, _ => none

def roomOK (n bytes : Nat) : Bool := n * bytes ≤ 140737488355328 && n ≤ 9223372036854775807

/-- What is appended: a text's bytes, a list's rows. -/
def srcRows (H : Heap) : D → Option (List (List D))
  | .str b => some (rowsOfBytes b)
  | x => rowsOf H x

/-- Does a type fit what is appended? -/
def srcType (E : Env) (tx : TypeId) (sz : Nat) : D → Bool
  | .str _ => sz == 1 && (match E.ti tx with | some ⟨_, _, _, _, .str⟩ => true | _ => false)
  | _ => match E.ti tx with | some ⟨_, _, _, _, .slice _⟩ => true | _ => false

/-- append: the new value, the new heap. -/
def appendD (E : Env) (H : Heap) (st tx : TypeId) (s x : D) : Option (D × Heap) :=
  match E.ti st with
  | some ⟨_, _, _, _, .slice e⟩ => match E.ti e with
    | some ei => match srcRows H x with
      | none => none
      | some ys =>
        if !(headOK ei.size ys && srcType E tx ei.size x && ei.size != 0 && ei.zero.length == ei.size) then none else
        match s with
        | .emp => if ys.isEmpty then some (.emp, H) else
          if roomOK ys.length ei.bytes then some (.arr H.length ys.length, H ++ [⟨ys, 0⟩]) else none
        | .arr id n => match H[id]? with
          | some ob => if ob.xs.length == n && headOK ei.size ob.xs && roomOK (n + ys.length) ei.bytes then
              some (.arr id (n + ys.length), H.set id ⟨ob.xs ++ ys, ob.sh⟩) else none
          | none => none
        | _ => none
    | none => none
  | _ => none

/-- What the program tells of a type. -/
def mkTI (P : Program) (t : TypeId) : Option TI :=
  match P.info? t, P.underlying t with
  | some info, some u => some {
      agg := match u with | .struct _ | .array _ _ => true | _ => false
      size := info.size
      bytes := info.bytes
      zero := match info.zero with | some z => z.cells.toList.map ofVal0 | none => []
      desc := match u with
        | .string => .str
        | .int k => .int k
        | .slice e => .slice e
        | .struct fs => if fs.toList.all (fun f => (P.info? f.type).isSome && (P.underlying f.type).isSome) then .struct (fs.toList.map fun f => (f.offset, P.cellsOf f.type, match P.underlying f.type with | some (.struct _) | some (.array _ _) => true | _ => false)) else .other
        | .interface _ => .iface
        | .bool => .bool
        | .pointer e => .ptr e
        | _ => .other }
  | _, _ => none

/-! ### Calls -/
def obIds (ob : Ob) : List Nat := ob.xs.flatMap idsL
def obRen (g : Nat → Nat) (ob : Ob) : Ob := ⟨ob.xs.map (renL g), ob.sh⟩

def reach (H : Heap) : Nat → List Nat → List Nat → List Nat
  | 0, _, acc => acc
  | _ + 1, [], acc => acc
  | k + 1, id :: todo, acc =>
    if acc.contains id then reach H k todo acc
    else match H[id]? with
      | some ob => reach H k (obIds ob ++ todo) (acc ++ [id])
      | none => reach H k todo acc

def pickObs (H : Heap) : List Nat → Option Heap
  | [] => some []
  | id :: l => match H[id]?, pickObs H l with
    | some ob, some obs => some (ob :: obs)
    | _, _ => none

/-- The first objects of a heap put back into their places. -/
def putBack (H : Heap) : List Nat → List Ob → Heap
  | id :: l, ob :: obs => putBack (H.set id ob) l obs
  | _, _ => H

def nodup : List Nat → Bool
  | [] => true
  | a :: l => !l.contains a && nodup l

/-- What a callee hands back, as plain lists if that is asked: the value, the heap with what is shared now. -/
def plainOut (plain : Bool) (d : D) (H : Heap) : Option (D × Heap) :=
  if plain then (match view H d with
    | some d' => some (d', shareAll H (arrs d))
    | none => none)
  else some (d, H)

/-- A call whose arguments lead to no object: the result, what it brings along ('n': the number of the first new object). -/
def callPure (call : CallF) (plain : Bool) (f : FuncId) (args : List D) (H : Heap) (n : Nat) : Option (D × List Ob) :=
  match viewL H args with
  | none => none
  | some args' =>
    if !idFreeL args' then none else
    match call f args' [] with
    | some (.ret d0, H0) => match plainOut plain d0 H0 with
      | some (d, H1) =>
        if !((args.flatMap arrs.arr1).isEmpty || flat d) then none else
        if idFree d then some (d, [])
        else if (ids d).all (· < H1.length) && H1.all (fun ob => (obIds ob).all (· < H1.length)) && (args.flatMap arrs.arr1).isEmpty then
          some (ren (fun j => n + j) d, H1.map (obRen fun j => n + j))
        else none
      | none => none
    | _ => none

/-- A call out of a heap: the callee sees just the objects that its arguments lead to. -/
def callFull (call : CallF) (plain byref : Bool) (f : FuncId) (args : List D) (H : Heap) : Option (Out × Heap) :=
  match if byref then some args else viewL H args with
  | none => none
  | some args' =>
    let lent := if byref then [] else args.flatMap arrs.arr1
    let l := reach H 1000 (idsL args') []
    if !(lent.all fun a => !l.contains a) then none else
    match pickObs H l with
    | none => none
    | some Hc =>
      let H := shareAll H lent
      let k := l.length
      let g := fun id => l.idxOf id
      if !((idsL args').all l.contains && Hc.all (fun ob => (obIds ob).all l.contains) && nodup l) then none else
      match call f (renL g args') (Hc.map (obRen g)) with
      | none => none
      | some (o, H0) =>
        if H0.length < k then none else
        let g' := fun j => if j < k then l.getD j 0 else H.length + (j - k)
        match o with
        | .pan d => if idFree d && H0.all (fun ob => (obIds ob).all (· < H0.length)) then some (.pan d, putBack H l ((H0.take k).map (obRen g')) ++ (H0.drop k).map (obRen g')) else none
        | .ret d0 => match plainOut plain d0 H0 with
          | none => none
          | some (d, H1) =>
            if (ids d).all (· < k) && (H1.take k).all (fun ob => (obIds ob).all (· < k)) then
              some (.ret (ren g' d), putBack H l ((H1.take k).map (obRen g')))
            else if (ids d).all (· < H1.length) && H1.all (fun ob => (obIds ob).all (· < H1.length)) then
              some (.ret (ren g' d), putBack H l ((H1.take k).map (obRen g')) ++ (H1.drop k).map (obRen g'))
            else none

/-! ### Operations -/
inductive OpR where
  | val (d : D) (H : Heap)
  | pan (d : D) (H : Heap)

def isBool (E : Env) (t : TypeId) : Bool :=
  match E.ti t with
  | some ⟨_, _, _, _, .bool⟩ => true
  | _ => false

/-- An operation that writes nothing: its value, the new objects ('n': the number of the first one). -/
def evPure (E : Env) (call : CallF) (f r i : Nat) (o : Oper) (ρ : Operand → D) (H : Heap) (n : Nat) : Option (D × List Ob) :=
  let v (d : Option D) : Option (D × List Ob) := d.map fun d => (d, [])
  match o.op with
  | .move x | .assign x => some (ρ x, [])
  | .pick c a b => match ρ c with
    | .bool c => some (if c then ρ a else ρ b, [])
    | _ => none
  | .alloc t => match E.ti t with
    | some i => if i.zero.length = i.size ∧ i.size ≠ 0 ∧ i.zero.all leaf then some (.ptr n 1 0 0, [⟨[i.zero], 0⟩]) else none
    | none => none
  | .box _ x => if (cellsOf (ρ x)).all leaf then some (.ptr n 1 0 0, [⟨[cellsOf (ρ x)], 0⟩]) else none
  | .build t parts => match E.ti t with
    | some i => match i.desc with
      | .struct fs => if i.zero.length ≠ i.size ∨ i.size = 0 then none else v ((fillD (fun j => (fs[j]?).map fun p => (p.1, p.2.1)) i.zero (parts.toList.map fun p => (p.1, ρ p.2))).map .agg)
      | _ => none
    | none => none
  | .buildSlice t len parts => match E.ti t with
    | some ⟨_, _, _, _, .slice e⟩ => match E.ti e with
      | some ei => if len * ei.size > 16777216 ∨ ei.zero.length ≠ ei.size ∨ ei.size = 0 ∨ !(ei.zero.all leaf) then none else
        match fillRows (List.replicate len ei.zero) ei.size (parts.toList.map fun p => (p.1, ρ p.2)) with
        | some rows => if E.keep f r i || !rowFree rows then some (.arr n len, [⟨rows, 0⟩])
          else match canonRows H rows with
            | some rows => some (.slc rows, [])
            | none => none
        | none => none
      | none => none
    | _ => none
  | .makeSlice t l c => match E.ti t, ρ l, ρ c with
    | some ⟨_, _, _, _, .slice e⟩, .int _ ln, .int _ cn => match E.ti e with
      | some ei => if ln = cn ∧ 0 ≤ ln ∧ (ei.bytes * ln.toNat ≤ 140737488355328 ∧ ln.toNat ≤ 140737488355328) ∧ ei.zero.length = ei.size ∧ ei.size ≠ 0 ∧ ei.zero.all leaf then
          some (.arr n ln.toNat, [⟨List.replicate ln.toNat ei.zero, 0⟩]) else none
      | none => none
    | _, _, _ => none
  | .load t a => v (loadD E H t (ρ a))
  | .nilCheck x => match ρ x with
    | .ptr a b c d => some (.ptr a b c d, [])
    | .eptr a b => some (.eptr a b, [])
    | _ => none
  | .binOp op t x y _ => v (match binD (isBool E t) op (ρ x) (ρ y) with
    | some d => some d
    | none => match E.ti t with
      | some i => nilD i.desc op y (ρ x) (ρ y)
      | none => none)
  | .unOp op _ x => v (unD op (ρ x))
  | .convert s t x => match E.ti s, E.ti t, ρ x with
    | some _, some ⟨_, _, _, _, .int k⟩, .int _ m => some (.int k (wr k m), [])
    | some _, some ⟨_, _, _, _, .str⟩, .str s => some (.str s, [])
    | some ⟨_, _, _, _, .slice e⟩, some ⟨_, _, _, _, .str⟩, x => match E.ti e with
      | some ⟨_, _, _, _, .int .u8⟩ => match rowsOf H x with
        | some rows => v ((bytesOfRows rows).map .str)
        | none => none
      | _ => none
    | _, _, _ => none
  | .makeInterface t x => match E.ti t with
    | some ⟨_, _, _, _, .iface⟩ => none
    | some _ => some (.iface t (ρ x), [])
    | none => none
  | .makeFunc fn first captured => some (.fn fn (first.toList.map ρ) (captured.toList.map ρ), [])
  | .slice t x lo hi mx => match E.ti t with
    | some ⟨_, _, _, _, .str⟩ => match ρ x with
      | .str s => v (sliceD H (.str s) (lo.map ρ) (hi.map ρ) (mx.map ρ))
      | _ => none
    | some ⟨_, _, _, _, .slice e⟩ => match E.ti e with
      | some ei => if mx.isSome && hi.isNone then none else match ρ x with
        | .slc xs => if headOK ei.size xs then v (sliceD H (.slc xs) (lo.map ρ) (hi.map ρ) (mx.map ρ)) else none
        | .emp => v (sliceD H .emp (lo.map ρ) (hi.map ρ) (mx.map ρ))
        | .arr id m => match H[id]? with
          | some ob => if headOK ei.size ob.xs then v (sliceD H (.arr id m) (lo.map ρ) (hi.map ρ) (mx.map ρ)) else none
          | none => none
        | _ => none
      | none => none
    | _ => none
  | .fieldAddr s x fi => match E.ti s with
    | some i => match placeD i.desc fi with
      | some (off, size, _) => if size = 0 then none else match ρ x with
        | .ptr id m k o => some (.ptr id m k (o + off), [])
        | .eptr cells o => some (.eptr cells (o + off), [])
        | _ => none
      | none => none
    | none => none
  | .field s x fi => match E.ti s with
    | some i => match placeD i.desc fi, ρ x with
      | some (off, size, agg), .agg cs =>
        if off + size ≤ cs.length then (if agg then some (.agg ((cs.drop off).take size), []) else v cs[off]?) else none
      | _, _ => none
    | none => none
  | .indexAddr t x ix => match E.ti t, ρ ix with
    | some ⟨_, _, _, _, .slice e⟩, .int _ j => match E.ti e with
      | some ei => if j < 0 then none else match ρ x with
        | .slc xs => match xs[j.toNat]? with
          | some cells => if cells.length == ei.size then some (.eptr cells 0, []) else none
          | none => none
        | .arr id m => match H[id]? with
          | some ob => if ob.xs.length == m && j.toNat < m then
              (match ob.xs[j.toNat]? with | some row => if row.length == ei.size then some (.ptr id m j.toNat 0, []) else none | none => none) else none
          | none => none
        | _ => none
      | none => none
    | _, _ => none
  | .index t x ix => match E.ti t, ρ x, ρ ix with
    | some ⟨_, _, _, _, .str⟩, .str s, .int _ j => if j < 0 then none else v ((s[j.toNat]?).map fun b => .int .u8 b.toNat)
    | _, _, _ => none
  | .extract t j => match ρ t with
    | .tup ds => v ds[j]?
    | _ => none
  | .call c => match c.callee with
    | .builtin .len => match c.args.toList, c.argTypes.toList with
      | [x], [t] => if lenOK E H t (ρ x) then v ((lenD (ρ x)).map fun n => .int .i64 n) else none
      | _, _ => none
    | .builtin .min => match c.args.toList.map ρ with
      | d :: l => v (minD d l)
      | _ => none
    | .builtin .max => match c.args.toList.map ρ with
      | d :: l => v (maxD d l)
      | _ => none
    | .value g => match ρ g with
      | .fn (.func g) first captured => callPure call (!E.keep f r i) g (first ++ c.args.toList.map ρ ++ captured) H n
      | _ => none
    | _ => none
  | _ => none

/-- An operation that writes. -/
def evEff (E : Env) (call : CallF) (f r i : Nat) (o : Oper) (ρ : Operand → D) (H : Heap) : Option OpR :=
  match o.op with
  | .store t a x => (storeD E H t (ρ a) (ρ x)).map fun H => .val (.tup []) H
  | .panic x => match ρ x with
    | .iface t d => if idFree d then some (.pan (.iface t d) H) else none
    | _ => none
  | .call c => match c.callee with
    | .builtin .append => match c.argTypes.toList, c.args.toList with
      | [t, tx], [s, x] => (appendD E H t tx (ρ s) (ρ x)).map fun p => .val p.1 p.2
      | _, _ => none
    | .value g => match ρ g with
      | .fn (.func g) first captured =>
        match callFull call (!E.keep f r i) (E.byref g) g (first ++ c.args.toList.map ρ ++ captured) H with
        | some (.ret d, H) => some (.val d H)
        | some (.pan d, H) => some (.pan d H)
        | none => none
      | _ => none
    | _ => none
  | _ => none

def evOp (E : Env) (call : CallF) (f r i : Nat) (o : Oper) (ρ : Operand → D) (H : Heap) : Option OpR :=
  match evPure E call f r i o ρ H H.length with
  | some (d, new) => some (.val d (H ++ new))
  | none => evEff E call f r i o ρ H

/-! ### Regions -/
def put (T : Ts) (dst : Option Tmp) (d : D) : Option Ts :=
  match dst with
  | some t => T.set t d
  | none => some T

/-- Is an operation wanted? (none: it isn't known) -/
def wantD (ops : Array Oper) (T : Ts) (o : Oper) : Option Bool :=
  match o.guard with
  | none => some true
  | some (j, want) => match (ops[j]?).bind (·.dst) with
    | none => some false
    | some t => match T.get t with
      | .bool b => some (b == want)
      | .tup _ => some false
      | _ => none

def evOps (E : Env) (call : CallF) (f r : Nat) (ops : Array Oper) : Nat → List Oper → Ts → Heap → Option (Option D × Ts × Heap)
  | _, [], T, H => some (none, T, H)
  | i, o :: rest, T, H => match wantD ops T o with
    | none => none
    | some false => match put T o.dst (.tup []) with
      | some T => evOps E call f r ops (i + 1) rest T H
      | none => none
    | some true => match evOp E call f r i o (opd E T) H with
      | none => none
      | some (.val d H) => match put T o.dst d with
        | some T => evOps E call f r ops (i + 1) rest T H
        | none => none
      | some (.pan d H) => some (some d, T, H)

/-- The objects that an operation may touch. -/
def touch (E : Env) (o : Oper) (ρ : Operand → D) (H : Heap) : List Nat :=
  match o.op with
  | .call c => match c.callee with
    | .value g => match ρ g with
      | .fn (.func g) first captured =>
        let args := first ++ c.args.toList.map ρ ++ captured
        reach H 1000 (idsL (if E.byref g then args else (viewL H args).getD [])) [] ++ idsL args
      | _ => idsL (o.op.operands.toList.map ρ)
    | _ => idsL (o.op.operands.toList.map ρ)
  | op => idsL (op.operands.toList.map ρ)

/-- A region that draws its order, in the text's order; of each operation is told what it touches if it writes (true), or reads alone. -/
def evDrawn (E : Env) (call : CallF) (f r : Nat) (ops : Array Oper) : Nat → List Oper → Ts → Heap → Option (Ts × Heap × List (Bool × List Nat))
  | _, [], T, H => some (T, H, [])
  | i, o :: rest, T, H => match wantD ops T o with
    | none => none
    | some false => match put T o.dst (.tup []) with
      | some T => match evDrawn E call f r ops (i + 1) rest T H with
        | some (T, H, l) => some (T, H, (false, []) :: l)
        | none => none
      | none => none
    | some true =>
      let w := touch E o (opd E T) H
      if !(w.all fun x => Nat.blt x H.length) then none else
      match evPure E call f r i o (opd E T) H H.length with
      | some (d, new) => match put T o.dst d with
        | some T => match evDrawn E call f r ops (i + 1) rest T (H ++ new) with
          | some (T, H, l) => some (T, H, (false, w) :: l)
          | none => none
        | none => none
      | none => match evEff E call f r i o (opd E T) H with
        | some (.val d H) => match put T o.dst d with
          | some T => match evDrawn E call f r ops (i + 1) rest T H with
            | some (T, H, l) => some (T, H, (true, w) :: l)
            | none => none
          | none => none
        | _ => none

/-- Two operations that may come in either order: neither writes what the other one touches. -/
def apart (l : List (Bool × List Nat)) (p : Nat × Nat) : Bool :=
  match l[p.1]?, l[p.2]? with
  | some (e, a), some (e', b) => !(e || e') || a.all fun x => !b.contains x
  | _, _ => false

/-! ### Code -/
inductive Ex where
  | normal
  | exit (id : Nat)
  | ret
  | panic (d : D)

structure St where
  T : Ts
  H : Heap

def firstRegion : Code → Nat
  | .region id _ _ => id
  | .seq a _ => firstRegion a
  | .block _ c => firstRegion c
  | .loop c => firstRegion c
  | .scope c => firstRegion c
  | _ => 0

def keepOnly (T : Ts) : List Nat → Ts
  | [] => Ts.of T.n []
  | i :: l => match (keepOnly T l).set i (T.get i) with
    | some T' => T'
    | none => keepOnly T l

/-- What a round leaves to the next one. -/
def reset (live : Option (List Nat)) (n : Nat) (s : St) : Option St :=
  match live with
  | none => some s
  | some l =>
    if (l.all fun i => (ids (s.T.get i)).all (· < n)) && (s.H.take n).all (fun ob => (obIds ob).all (· < n)) then some ⟨keepOnly s.T l, s.H.take n⟩ else none

def evLoop (body : St → Option (Ex × St)) (clean : St → Option St) : Nat → St → Option (Ex × St)
  | 0, _ => none
  | k + 1, s => match clean s with
    | none => none
    | some s => match body s with
      | some (.normal, s) => evLoop body clean k s
      | r => r

def evCode (E : Env) (call : CallF) (f fuel : Nat) : Code → St → Option (Ex × St)
  | .skip, s | .label _, s => some (.normal, s)
  | .region r ops false, s => match evOps E call f r ops 0 ops.toList s.T s.H with
    | some (none, T, H) => some (.normal, ⟨T, H⟩)
    | some (some d, T, H) => some (.panic d, ⟨T, H⟩)
    | none => none
  | .region r ops true, s => match evDrawn E call f r ops 0 ops.toList s.T s.H with
    | some (T, H, l) => if (E.pairs f r).all (apart l) then some (.normal, ⟨T, H⟩) else none
    | none => none
  | .seq a b, s => match evCode E call f fuel a s with
    | some (.normal, s) => evCode E call f fuel b s
    | r => r
  | .cond c a b, s => match opd E s.T c with
    | .bool true => evCode E call f fuel a s
    | .bool false => evCode E call f fuel b s
    | _ => none
  | .block id c, s => match evCode E call f fuel c s with
    | some (.exit j, s) => if j = id then some (.normal, s) else some (.exit j, s)
    | r => r
  | .loop c, s => evLoop (evCode E call f fuel c) (reset (E.live f (firstRegion c)) s.H.length) fuel s
  | .exit id, s => some (.exit id, s)
  | .ret, s => some (.ret, s)
  | _, _ => none

/-! ### What is checked of a function's text once for all: of its regions that draw their order -/
def looks (ops : List Oper) (o : Oper) : List Tmp :=
  (o.op.operands.toList.filterMap fun | .tmp t => some t | _ => none) ++
  (match o.guard with
   | some (g, _) => ((ops[g]?).bind (·.dst)).toList
   | none => [])

def dstIs (o : Oper) (t : Tmp) : Bool := match o.dst with | some d => Nat.beq d t | none => false

/-- Two operations that may come in either order read and write other temporaries. -/
def slotsApart (ops : List Oper) (x y : Oper) : Bool :=
  (match x.dst with
   | some d => !((looks ops y).contains d) && !dstIs y d
   | none => true) &&
  (match y.dst with
   | some d => !((looks ops x).contains d)
   | none => true)

/-- An operation that touches no object, or makes one. -/
def inert (E : Env) (o : Oper) : Bool :=
  match o.op with
  | .move _ | .assign _ | .pick .. | .binOp .. | .unOp .. | .makeInterface .. | .makeFunc .. | .fieldAddr .. | .field .. | .extract .. | .build .. | .box .. | .alloc _ | .nilCheck _ => true
  | _ => false

/-- An operation that writes nothing, whatever it is handed. -/
def quiet (o : Oper) : Bool :=
  match o.op with
  | .store .. | .panic _ => false
  | .call c => match c.callee with
    | .builtin .len | .builtin .min | .builtin .max => true
    | _ => false
  | _ => true

def hasBit (m i : Nat) : Bool := Nat.beq ((m >>> i) % 2) 1

/-- Which operations come before which one (a number's bits): all that it waits for, one by one. -/
def waitsFor (pre : List Nat) (o : Oper) : Nat :=
  o.after.toList.foldl (fun acc e => bif Region.binds .any e then (1 <<< e.on) ||| ((pre[e.on]?).getD 0) ||| acc else acc) 0

def allWaits : List Oper → List Nat → List Nat
  | [], pre => pre
  | o :: l, pre => allWaits l (pre ++ [waitsFor pre o])

def pairOK (E : Env) (ops : List Oper) (pre : List Nat) (ps : List (Nat × Nat)) (i j : Nat) (x y : Oper) : Bool :=
  hasBit ((pre[j]?).getD 0) i || (slotsApart ops x y && (inert E x || inert E y || (quiet x && quiet y) || ps.contains (i, j)))

def rowOK (E : Env) (ops : List Oper) (pre : List Nat) (ps : List (Nat × Nat)) (j : Nat) (y : Oper) : Nat → List Oper → Bool
  | _, [] => true
  | i, x :: l => if Nat.beq i j then true else pairOK E ops pre ps i j x y && rowOK E ops pre ps j y (i + 1) l

def colOK (E : Env) (ops : List Oper) (pre : List Nat) (ps : List (Nat × Nat)) : Nat → List Oper → Bool
  | _, [] => true
  | j, y :: l => rowOK E ops pre ps j y 0 ops && (y.after.toList.all fun e => !(Region.binds .any e) || e.on < j) && colOK E ops pre ps (j + 1) l

def drawnOK (E : Env) (ops : List Oper) (ps : List (Nat × Nat)) : Bool := colOK E ops (allWaits ops []) ps 0 ops

/-- All of a function's regions. -/
def drawnC (E : Env) (f : Nat) : Code → Bool
  | .region r ops true => drawnOK E ops.toList (E.pairs f r)
  | .seq a b => drawnC E f a && drawnC E f b
  | .cond _ a b => drawnC E f a && drawnC E f b
  | .block _ c => drawnC E f c
  | .loop c => drawnC E f c
  | .scope c => drawnC E f c
  | _ => true

def resultD (E : Env) (H : Heap) (T : Ts) : ResultVar → Option D
  | .tmp t => some (T.get t)
  | .cell a t => loadD E H t (T.get a)

def resultsL (E : Env) (H : Heap) (T : Ts) : List ResultVar → Option (List D)
  | [] => some []
  | r :: l => match resultD E H T r, resultsL E H T l with
    | some d, some ds => some (d :: ds)
    | _, _ => none

def resultsD (E : Env) (fn : Func) (T : Ts) (H : Heap) : Option D :=
  match resultsL E H T fn.results.toList with
  | some [d] => some d
  | some ds => some (.tup ds)
  | none => none

def pcall (E : Env) : Nat → CallF
  | 0 => fun _ _ _ => none
  | k + 1 => fun f args H => match (match E.orc f with | some o => o args H | none => none) with
    | some r => some r
    | none => match E.code f with
      | none => none
      | some fn => match fn.body with
        | none => none
        | some c => if Nat.ble args.length fn.ntmps then match evCode E (pcall E k) f k c ⟨Ts.of fn.ntmps args, H⟩ with
          | some (.normal, s) | some (.ret, s) => (resultsD E fn s.T s.H).map fun d => (.ret d, s.H)
          | some (.panic d, s) => some (.pan d, s.H)
          | _ => none
          else none

end Go.Cv
