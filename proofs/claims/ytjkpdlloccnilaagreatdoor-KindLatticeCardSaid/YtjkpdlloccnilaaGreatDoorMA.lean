/- It is proved here that the evaluator of the program's functions agrees with the model's run; no condition. This part: data, how a value stands for a datum, the run of one operation. -/
import Derived.WalkKit
import Derived.Orders
import Derived.OwnWalk
import Derived.Laws.MakeOwn
set_option linter.unusedVariables false
set_option linter.unusedSimpArgs false

section
/- Vi, part 1: pure data, abstract values, abstract variables, and how each operation of a Go function acts on them. No conditions. -/
namespace Go.Vi
open Go

/-- Pure data: nothing in it can change. -/
inductive PD where
  | int (k : IntKind) (n : Int)
  | bool (b : Bool)
  | str (s : ByteArray)
  | nilI
  | nilF
  | nilP
  | nilM
  | fn (f : FuncId)
  | ifc (t : TypeId) (x : PD)
  | agg (l : List PD)
  | sl (l : List PD)
  deriving Inhabited

/-- The cells of a value. -/
def PD.cells : PD → List PD
  | .agg l => l
  | x => [x]

/-- Is it a value of one cell? -/
def PD.one : PD → Bool
  | .agg _ => false
  | _ => true

/-- What a slot, or a variable's cell, holds. 'ptr': the address of a variable; 'elt': that of a part of something pure, with what lies there;
'yld': the function that carries out a round of a loop's; 'mp': a map made by the call; 'bsl': a slice over an array within a variable; 'emp': a slice of no elements that is not nil; 'clip': a slice with no room behind it; 'bnd': a method with its receiver; 'own': a slice over a row of the call's own, in one of its versions; 'oelt': the address of a part of one of its elements. -/
inductive D where
  | p (x : PD)
  | lit (nil : Bool) (l : List PD)
  | ptr (i off : Nat)
  | elt (l : List PD)
  | own (i ver : Nat)
  | oelt (i ver k off : Nat)
  | agg (l : List D)
  | fn (f : FuncId) (caps : List D)
  | ifc (t : TypeId) (x : D)
  | tup (l : List D)
  | yld (i : Nat)
  | mp (i : Nat)
  | bsl (i off n cap : Nat)
  | emp
  | clip (l : List PD)
  | bnd (f : FuncId) (l : List D)
  | dead
  deriving Inhabited

/-- A row of the call's own: its version, its elements' type, an element's cells, is it nil still, are its elements never written again, its elements. -/
structure Arr where
  ver : Nat
  ty : TypeId
  sz : Nat
  nil : Bool
  fz : Bool
  els : List PD

abbrev Fr := List (Tmp × D)

/-- A variable in memory, an iterator over a string, or the record of a loop over a function. -/
inductive Blk where
  | hole
  | cells (l : List D)
  | sit (s : ByteArray) (pos : Nat)
  | mset (l : List (PD × PD))
  | lp (st : LoopState) (pend : Option Code) (f : FuncId) (F : Fr) (ps : Array Tmp) (assign body : Code)

structure Hp where
  B : List Blk
  A : List Arr

def look : Fr → Tmp → D
  | [], _ => .dead
  | (u, d) :: r, t => if u = t then d else look r t

def putF (dst : Option Tmp) (d : D) (F : Fr) : Fr :=
  match dst with
  | some t => (t, d) :: F
  | none => F

/-- Only some slots, in a fixed order. -/
def norm (keep : List Tmp) (F : Fr) : Fr := keep.map fun t => (t, look F t)

def constC : Value → D
  | .int k n => .p (.int k n)
  | .bool b => .p (.bool b)
  | .string s => .p (.str s)
  | .nilIface => .p .nilI
  | .nilFunc => .p .nilF
  | .pointer none => .p .nilP
  | .map none => .p .nilM
  | .slice none 0 0 => .lit true []
  | _ => .dead

def constD : Value → D
  | .agg cs => .agg (cs.toList.map constC)
  | v => constC v

/-- Tables of the program that are never written: the block, and what lies there. -/
def gTab : List (Nat × List PD) := [(0, (List.range 256).map fun i => .int .u8 (if i = 9 ∨ i = 10 ∨ i = 11 ∨ i = 12 ∨ i = 13 ∨ i = 32 then 1 else 0))]
def gtabOf (b : Nat) : Option (List PD) := (gTab.find? fun p => p.1 == b).map (·.2)

def opd (F : Fr) : Operand → D
  | .tmp t => look F t
  | .const v => constD v
  | .func f => .p (.fn f)
  | .global b =>
    match gtabOf b with
    | some l => .elt l
    | none => .dead

mutual
/-- The pure data that a value is, if it is. -/
def D.pd? (A : List Arr) : D → Option PD
  | .p x => some x
  | .lit _ l => some (.sl l)
  | .emp => some (.sl [])
  | .clip l => some (.sl l)
  | .own i ver =>
    match A[i]? with
    | some ar => if ar.ver = ver ∧ ar.fz = true then some (.sl ar.els) else none
    | _ => none
  | .agg l => (D.pds? A l).map .agg
  | .ifc t x => (D.pd? A x).map (.ifc t)
  | _ => none
def D.pds? (A : List Arr) : List D → Option (List PD)
  | [] => some []
  | d :: r =>
    match D.pd? A d, D.pds? A r with
    | some x, some xs => some (x :: xs)
    | _, _ => none
end

/-- As pure data where it is. -/
def D.nf (A : List Arr) (d : D) : D :=
  match D.pd? A d with
  | some x => .p x
  | none => d

mutual
/-- Does it lead to no variable, and no row, of these numbers or beyond? -/
def D.noRef (nB nA : Nat) : D → Bool
  | .ptr i _ => decide (i < nB)
  | .yld i => decide (i < nB)
  | .mp i => decide (i < nB)
  | .bsl i _ _ _ => decide (i < nB)
  | .own i _ => decide (i < nA)
  | .oelt i _ _ _ => decide (i < nA)
  | .agg l => D.noRefs nB nA l
  | .fn _ l => D.noRefs nB nA l
  | .bnd _ l => D.noRefs nB nA l
  | .ifc _ x => D.noRef nB nA x
  | .tup l => D.noRefs nB nA l
  | _ => true
def D.noRefs (nB nA : Nat) : List D → Bool
  | [] => true
  | d :: r => D.noRef nB nA d && D.noRefs nB nA r
end

def cellsD : D → List D
  | .agg l => l
  | .p (.agg l) => l.map .p
  | d => [d]

/-- May it lie in a cell? -/
def cellD : D → Bool
  | .p (.agg _) | .agg _ | .tup _ | .dead => false
  | _ => true

/-! ### Types -/
def szOf (P : Program) (t : TypeId) : Option Nat := (P.info? t).map (·.size)
def byOf (P : Program) (t : TypeId) : Option Nat := (P.info? t).map (·.bytes)
def zeroOf (P : Program) (t : TypeId) : Option Value := (P.info? t).bind (·.zero)
def aggOf (P : Program) (t : TypeId) : Option Bool :=
  (P.underlying t).map fun
    | .struct _ | .array _ _ => true
    | _ => false
def elemOf (P : Program) (t : TypeId) : Option TypeId :=
  match P.underlying t with
  | some (.slice e) => some e
  | _ => none
/-- A field: its first cell, its cells, is it of several. -/
def fieldOf (P : Program) (t : TypeId) (j : Nat) : Option (Nat × Nat × Bool) :=
  match P.underlying t with
  | some (.struct fs) =>
    match fs[j]? with
    | some f =>
      match szOf P f.type, aggOf P f.type with
      | some n, some b => some (f.offset, n, b)
      | _, _ => none
    | none => none
  | _ => none

/-! ### Operations on pure data -/
def intP (op : BinOp) (k : IntKind) (a b : Int) : Option PD :=
  match op with
  | .add => some (.int k (k.wrap (a + b)))
  | .sub => some (.int k (k.wrap (a - b)))
  | .mul => some (.int k (k.wrap (a * b)))
  | .quo => if b = 0 then none else some (.int k (k.wrap (a.tdiv b)))
  | .rem => if b = 0 then none else some (.int k (a.tmod b))
  | .and | .or | .xor | .andNot => some (.int k (Go.bits op k a b))
  | .eql => some (.bool (decide (a = b)))
  | .neq => some (.bool (!decide (a = b)))
  | .lss => some (.bool (decide (a < b)))
  | .leq => some (.bool (decide (a ≤ b)))
  | .gtr => some (.bool (decide (b < a)))
  | .geq => some (.bool (decide (b ≤ a)))
  | _ => none

def shiftP (op : BinOp) (k : IntKind) (a b : Int) : Option PD :=
  if b < 0 then none else
  match op with
  | .shl => some (.int k (k.wrap (a * 2 ^ (min b.toNat k.bits))))
  | .shr => some (.int k (a.fdiv (2 ^ (min b.toNat k.bits))))
  | _ => none

def strP (op : BinOp) (x y : ByteArray) : Option PD :=
  match op with
  | .add => if x.size + y.size ≤ 9223372036854775807 then some (.str (x ++ y)) else none
  | .eql => some (.bool (decide (x = y)))
  | .neq => some (.bool (!decide (x = y)))
  | .lss => some (.bool (Op.bytesLess x.data.toList y.data.toList))
  | _ => none

def isShift : BinOp → Bool
  | .shl | .shr => true
  | _ => false

/-- x == nil, for what can be told, by the type. -/
def nilD (A : List Arr) : TypeDesc → D → Option Bool
  | .interface _, .p .nilI => some true
  | .interface _, .p (.ifc _ _) => some false
  | .interface _, .ifc _ _ => some false
  | .func _ _ _, .p .nilF => some true
  | .func _ _ _, .p (.fn _) => some false
  | .func _ _ _, .fn _ _ => some false
  | .pointer _, .p .nilP => some true
  | .pointer _, .ptr _ _ => some false
  | .slice _, .lit b _ => some b
  | .slice _, .emp => some false
  | .slice _, .p (.sl (_ :: _)) => some false
  | .slice _, .own i ver =>
    match A[i]? with
    | some ar => if ar.ver = ver then some ar.nil else none
    | _ => none
  | _, _ => none

def isNil : TypeDesc → Operand → Bool
  | .interface _, .const .nilIface => true
  | .func _ _ _, .const .nilFunc => true
  | .pointer _, .const (.pointer none) => true
  | .slice _, .const (.slice none 0 0) => true
  | _, _ => false

/-! ### Structs and arrays of plain cells, compared -/
def plainT (P : Program) (t : TypeId) (x : PD) : Bool :=
  match P.underlying t, x with
  | some (.int _), .int _ _ => true
  | some .string, .str _ => true
  | some .bool, .bool _ => true
  | _, _ => false
def eqCell : PD → PD → Option Bool
  | .int k a, .int k' b => if k = k' then some (decide (a = b)) else none
  | .str a, .str b => some (decide (a = b))
  | .bool a, .bool b => some (a == b)
  | _, _ => none
def eqFs (P : Program) (xs ys : List PD) : List (Nat × TypeId) → Option Bool
  | [] => some true
  | (off, t) :: r =>
    match xs[off]?, ys[off]? with
    | some a, some b =>
      if plainT P t a = true ∧ plainT P t b = true then
        match eqCell a b, eqFs P xs ys r with
        | some p, some q => some (p && q)
        | _, _ => none
      else none
    | _, _ => none
def aggEqD (P : Program) (t : TypeId) (xs ys : List PD) : Option Bool :=
  if P.eqGuardType P.depth t = false then
    match P.underlying t with
    | some (.struct fs) =>
      if P.stoodInHeld t = false ∧ fs.toList.all (fun f => f.name != "_") = true then eqFs P xs ys (fs.toList.map fun f => (f.offset, f.type)) else none
    | some (.array n e) =>
      match P.info? e with
      | some i => if i.size = 1 then eqFs P xs ys ((List.range n).map fun k => (k, e)) else none
      | none => none
    | _ => none
  else none
def aggD (P : Program) (A : List Arr) (t : TypeId) (a b : D) : Option Bool :=
  match D.pd? A a, D.pd? A b with
  | some (.agg xs), some (.agg ys) => aggEqD P t xs ys
  | _, _ => none

def binD (P : Program) (A : List Arr) (op : BinOp) (t : TypeId) (x y : Operand) (a b : D) : Option D :=
  match a, b with
  | .p (.int k m), .p (.int k' n) =>
    if isShift op then (shiftP op k m n).map .p else if k = k' then (intP op k m n).map .p else none
  | .p (.str s), .p (.str s') => (strP op s s').map .p
  | a, b =>
    match P.underlying t with
    | some .bool =>
      match a, b, op with
      | .p (.bool c), .p (.bool d), .eql => some (.p (.bool (c == d)))
      | .p (.bool c), .p (.bool d), .neq => some (.p (.bool (!(c == d))))
      | _, _, _ => none
    | some (.struct _) | some (.array _ _) =>
      match aggD P A t a b, op with
      | some v, .eql => some (.p (.bool v))
      | some v, .neq => some (.p (.bool (!v)))
      | _, _ => none
    | some td =>
      let r := if isNil td y then nilD A td a else if isNil td x then nilD A td b else none
      match r, op with
      | some v, .eql => some (.p (.bool v))
      | some v, .neq => some (.p (.bool (!v)))
      | _, _ => none
    | none => none

def unP (op : UnOp) : PD → Option PD
  | .int k n =>
    match op with
    | .neg => some (.int k (k.wrap (0 - n)))
    | .xor => some (.int k (Go.bits .xor k (if k.signed then -1 else k.max) n))
    | _ => none
  | .bool b =>
    match op with
    | .not => some (.bool (!b))
    | _ => none
  | _ => none

/-- The bytes that a list of numbers is. -/
def bytesP : List PD → Option (List UInt8)
  | [] => some []
  | .int .u8 n :: r => (bytesP r).map (UInt8.ofNat n.toNat :: ·)
  | _ :: _ => none

def convD (P : Program) (src dst : TypeId) (x : Option PD) : Option D :=
  match x with
  | some (.int k n) =>
    match P.underlying src, P.underlying dst with
    | some (.int _), some (.int k') => some (.p (.int k' (k'.wrap n)))
    | _, _ => none
  | some (.str s) =>
    match P.underlying src, P.underlying dst with
    | some .string, some .string => some (.p (.str s))
    | _, _ => none
  | some (.sl l) =>
    match P.underlying src, P.underlying dst with
    | some (.slice e), some .string =>
      match P.underlying e with
      | some (.int .u8) => (bytesP l).map fun bs => .p (.str ⟨bs.toArray⟩)
      | _ => none
    | _, _ => none
  | _ => none
end Go.Vi
end

section
/- Vi, part 2: the abstract evaluator: operations, regions, code, functions. No conditions. -/
namespace Go.Vi
open Go

inductive Nx where
  | val (d : D) (H : Hp)
  | skip (H : Hp)
  | pan (x : PD)
  | call (f : FuncId) (args : List D) (H : Hp)
  | yield (i : Nat) (args : List D) (H : Hp)

/-- Which slots are kept behind a region; which at a loop's head (by its first region); where nil rows may be written later; which functions take
rows of the call's own as they are; which do if one of them may be written later. -/
structure Hints where
  keep : FuncId → List Tmp
  head : FuncId → Nat → List Tmp
  mutF : FuncId → Bool
  ownArg : FuncId → Bool
  ownMut : FuncId → Bool
  mutT : TypeId → Bool

/-- The marks: what lies below must not lead to what lies at or above. -/
structure Mk where
  mB : Nat
  mA : Nat

def Hp.live (A : List Arr) (i ver : Nat) : Option Arr :=
  match A[i]? with
  | some ar => if ar.ver = ver then some ar else none
  | _ => none

def newRow (H : Hp) (ar : Arr) : Nx := .val (.own H.A.length ar.ver) { H with A := H.A ++ [ar] }

def splice {α : Type} (l : List α) (off : Nat) (cs : List α) : List α := l.take off ++ (cs ++ l.drop (off + cs.length))

def sub {α : Type} (l : List α) (off n : Nat) : Option (List α) := if off + n ≤ l.length then some ((l.drop off).take n) else none

def loadD (H : Hp) (d : D) (ag : Bool) (n : Nat) : Option D :=
  match d with
  | .ptr i off =>
    match H.B[i]? with
    | some (.cells l) => if ag then (sub l off n).map .agg else l[off]?
    | _ => none
  | .elt l => if ag then (sub l 0 n).map fun q => .p (.agg q) else l[0]?.map .p
  | .oelt i ver k off =>
    match Hp.live H.A i ver with
    | some ar =>
      match ar.els[k]? with
      | some e => if ag then (sub e.cells off n).map fun q => .p (.agg q) else e.cells[off]?.map .p
      | none => none
    | none => none
  | _ => none

def setEl (e : PD) (off : Nat) (cs : List PD) : PD :=
  match e with
  | .agg l => .agg (splice l off cs)
  | _ => cs.headD e

def storeD (m : Mk) (H : Hp) (a : D) (cs : List D) (n : Nat) : Option Hp :=
  match a with
  | .ptr i off =>
    match H.B[i]? with
    | some (.cells l) =>
      if cs.length = n ∧ off + n ≤ l.length ∧ cs.all cellD = true then
        some { H with B := H.B.set i (.cells (splice l off cs)) }
      else none
    | _ => none
  | .oelt i ver k off =>
    match Hp.live H.A i ver, D.pds? H.A cs with
    | some ar, some xs =>
      match ar.els[k]? with
      | some e =>
        if cs.length = n ∧ 0 < n ∧ off + n ≤ ar.sz ∧ ar.fz = false ∧ xs.all PD.one = true then
          some { H with A := H.A.set i { ar with els := ar.els.set k (setEl e off xs) } }
        else none
      | none => none
    | _, _ => none
  | _ => none

def numD : D → Option Int
  | .p (.int _ n) => some n
  | _ => none

/-- A bound of a cut. -/
def boundD (F : Fr) (x : Option Operand) (dflt : Int) : Option Int :=
  match x with
  | none => some dflt
  | some o => numD (opd F o)

def fits (sz : Nat) (l : List PD) : Bool := l.all fun e => e.cells.length == sz && e.cells.all PD.one

def sliceD (P : Program) (H : Hp) (F : Fr) (t : TypeId) (x : Operand) (lo hi : Option Operand) : Option D :=
  match P.underlying t with
  | some .string =>
    match opd F x with
    | .p (.str s) =>
      match boundD F lo 0, boundD F hi s.size with
      | some l, some h => if 0 ≤ l ∧ l ≤ h ∧ h ≤ s.size then some (.p (.str (s.extract l.toNat h.toNat))) else none
      | _, _ => none
    | _ => none
  | some (.slice e) =>
    match szOf P e, D.pd? H.A (opd F x) with
    | some sz, some (.sl l) =>
      match boundD F lo 0, boundD F hi l.length with
      | some i, some h => if fits sz l = true ∧ 0 ≤ i ∧ i ≤ h ∧ h ≤ l.length then some (.p (.sl ((l.take h.toNat).drop i.toNat))) else none
      | _, _ => none
    | _, _ => none
  | some (.array n e) =>
    match opd F x with
    | .ptr i off =>
      match szOf P e, boundD F lo 0, boundD F hi n with
      | some _, some l, some h => if l = 0 ∧ 0 ≤ h ∧ h ≤ n then some (.bsl i off h.toNat n) else none
      | _, _, _ => none
    | _ => none
  | _ => none

/-- x[:n:n] -/
def clipD (P : Program) (H : Hp) (F : Fr) (t : TypeId) (x : Operand) (lo hi mx : Option Operand) : Option D :=
  match P.underlying t, lo, hi, mx with
  | some (.slice e), none, some h, some m =>
    match szOf P e, D.pd? H.A (opd F x), numD (opd F h), numD (opd F m) with
    | some _, some (.sl l), some n, some k => if n = k ∧ 0 ≤ n ∧ n ≤ l.length then some (.clip (l.take n.toNat)) else none
    | _, _, _, _ => none
  | _, _, _, _ => none

def fieldAddrD (A : List Arr) (d : D) (off : Nat) : Option D :=
  match d with
  | .ptr i o => some (.ptr i (o + off))
  | .elt l => some (.elt (l.drop off))
  | .oelt i v k o =>
    match Hp.live A i v with
    | some _ => some (.oelt i v k (o + off))
    | none => none
  | _ => none

def partD (d : D) (off n : Nat) (ag : Bool) : Option D :=
  match d with
  | .p (.agg l) => if ag then (sub l off n).map fun q => .p (.agg q) else l[off]?.map .p
  | .agg l => if ag then (sub l off n).map .agg else l[off]?
  | _ => none

def indexAddrD (P : Program) (H : Hp) (t : TypeId) (d : D) (n : Int) : Option D :=
  match P.underlying t with
  | some (.array len e) =>
    match szOf P e with
    | some sz => if 0 ≤ n ∧ n < len ∧ 0 < sz then fieldAddrD H.A d (n.toNat * sz) else none
    | none => none
  | some (.slice e) =>
    match szOf P e with
    | some sz =>
      match d with
      | .own i ver =>
        match Hp.live H.A i ver with
        | some ar =>
          if 0 ≤ n ∧ n < ar.els.length ∧ ar.sz = sz then
            if ar.fz = true then (ar.els[n.toNat]?).map fun e => .elt e.cells else some (.oelt i ver n.toNat 0)
          else none
        | none => none
      | .bsl i off len _ => if 0 ≤ n ∧ n < len then some (.ptr i (off + n.toNat * sz)) else none
      | d =>
        match D.pd? H.A d with
        | some (.sl l) =>
          if 0 ≤ n then
            match l[n.toNat]? with
            | some e => if e.cells.length = sz then some (.elt e.cells) else none
            | none => none
          else none
        | _ => none
    | none => none
  | _ => none

def indexD (P : Program) (t : TypeId) (d : D) (n : Int) : Option D :=
  match P.underlying t, d with
  | some .string, .p (.str s) => if 0 ≤ n then (s[n.toNat]?).map fun b => .p (.int .u8 b.toNat) else none
  | some (.array len e), d =>
    match szOf P e, aggOf P e with
    | some sz, some ag => if 0 ≤ n ∧ n < len then partD d (n.toNat * sz) sz ag else none
    | _, _ => none
  | _, _ => none

def assertD (P : Program) (d : D) (at_ : TypeId) (ok : Bool) : Option D :=
  match P.underlying at_ with
  | some (.interface _) | none => none
  | _ =>
    let yes (x : D) : D := if ok then .tup [x, .p (.bool true)] else x
    let no : Option D := if ok then (zeroOf P at_).map fun z => .tup [constD z, .p (.bool false)] else none
    match d with
    | .p .nilI => no
    | .p (.ifc t x) => if t = at_ then some (yes (.p x)) else no
    | .ifc t x => if t = at_ then some (yes x) else no
    | _ => none

def lenD (H : Hp) (str : Bool) (d : D) : Option Int :=
  match str, d with
  | true, .p (.str s) => some s.size
  | false, .p (.sl l) => some l.length
  | false, .lit _ l => some l.length
  | false, .emp => some 0
  | false, .clip l => some l.length
  | false, .bsl _ _ n _ => some n
  | false, .own i ver => (Hp.live H.A i ver).map fun ar => (ar.els.length : Int)
  | _, _ => none

/-- What is appended. -/
def srcD (H : Hp) (d : D) : Option (List PD) :=
  match d with
  | .p (.str s) => some (s.data.toList.map fun b => .int .u8 b.toNat)
  | .p (.sl l) => some l
  | .lit _ l => some l
  | .emp => some []
  | .clip l => some l
  | .own i ver => (Hp.live H.A i ver).map (·.els)
  | _ => none

/-- A type's zero value has its cells. -/
def zOK (P : Program) (e : TypeId) (n : Nat) : Bool :=
  match zeroOf P e with
  | some z => z.cells.size == n
  | none => false

def appendD (P : Program) (mu : Bool) (H : Hp) (t : TypeId) (s x : D) : Option Nx :=
  match elemOf P t with
  | none => none
  | some e =>
    match szOf P e, byOf P e, srcD H x with
    | some sz, some by_, some ys =>
      if fits sz ys = true ∧ 0 < by_ ∧ 0 < sz ∧ zOK P e sz = true then
        match s with
        | .lit nil l =>
          if ys.isEmpty then some (.val (.lit nil l) H)
          else if fits sz l = true ∧ (l.length + ys.length) * by_ ≤ 140737488355328 then some (newRow H ⟨0, e, sz, false, !mu, l ++ ys⟩) else none
        | .clip l =>
          if ys.isEmpty then some (.val (.clip l) H)
          else if fits sz l = true ∧ (l.length + ys.length) * by_ ≤ 140737488355328 then some (newRow H ⟨0, e, sz, false, !mu, l ++ ys⟩) else none
        | .own i ver =>
          match Hp.live H.A i ver with
          | some ar =>
            if ar.sz = sz ∧ ar.ty = e ∧ (ar.els.length + ys.length) * by_ ≤ 140737488355328 then
              some (.val (.own i (ver + 1)) { H with A := H.A.set i ⟨ver + 1, e, sz, ar.nil && ys.isEmpty, ar.fz, ar.els ++ ys⟩ })
            else none
          | none => none
        | _ => none
      else none
    | _, _, _ => none

/-- An argument, as it is handed on. -/
def argD (own : Bool) (A : List Arr) (d : D) : Option (D × List Arr) :=
  match d with
  | .own i ver =>
    match Hp.live A i ver with
    | some ar =>
      if own then some (d, A)
      else some (.p (.sl ar.els), if ar.fz = true then A else A.set i { ar with fz := true })
    | none => none
  | d => some (if own = true then d else d.nf A, A)

def argsD (own : Bool) (A : List Arr) : List D → Option (List D × List Arr)
  | [] => some ([], A)
  | d :: r =>
    match argD own A d with
    | some (x, A1) =>
      match argsD own A1 r with
      | some (xs, A2) => some (x :: xs, A2)
      | none => none
    | none => none

/-- A method by its dynamic type. -/
def methOf (P : Program) (t : TypeId) (name : String) : Option FuncId :=
  match (P.info? t).bind fun i => i.methods.find? (·.name == name) with
  | some m =>
    match m.path.isEmpty, m.func, P.underlying t with
    | true, some (f, true), some (.pointer _) => some f
    | true, some (_, false), some (.pointer _) => none
    | true, some (f, false), some _ => some f
    | _, _, _ => none
  | none => none

def capsOf : D → Option (FuncId × List D)
  | .p (.fn g) => some (g, [])
  | .fn g caps => some (g, caps)
  | _ => none

/-- A row that may be written later. -/
def openOwn (A : List Arr) : D → Bool
  | .own i ver =>
    match Hp.live A i ver with
    | some ar => !ar.fz
    | none => false
  | _ => false
@[simp] theorem openOwn_p (A : List Arr) (x : PD) : openOwn A (.p x) = false := rfl
@[simp] theorem openOwn_fn (A : List Arr) (f : FuncId) (l : List D) : openOwn A (.fn f l) = false := rfl
@[simp] theorem openOwn_lit (A : List Arr) (n : Bool) (l : List PD) : openOwn A (.lit n l) = false := rfl
@[simp] theorem openOwn_ptr (A : List Arr) (i o : Nat) : openOwn A (.ptr i o) = false := rfl

def callD (hi : Hints) (H : Hp) (g : FuncId) (args : List D) : Option Nx :=
  match argsD (hi.ownArg g || (hi.ownMut g && args.any (openOwn H.A))) H.A args with
  | some (xs, A1) => some (.call g xs { H with A := A1 })
  | none => none

def yieldD (H : Hp) (i : Nat) (args : List D) : Option Nx :=
  match argsD false H.A args with
  | some (xs, A1) => some (.yield i xs { H with A := A1 })
  | none => none

def opCall (P : Program) (hi : Hints) (mu : Bool) (F : Fr) (H : Hp) (c : Call) : Option Nx :=
  let args := c.args.toList.map (opd F)
  match c.callee with
  | .builtin .len =>
    match args, c.argTypes.toList with
    | [d], [t] =>
      match P.underlying t with
      | some .string => (lenD H true d).map fun n => .val (.p (.int .i64 n)) H
      | some (.slice _) => (lenD H false d).map fun n => .val (.p (.int .i64 n)) H
      | _ => none
    | _, _ => none
  | .builtin .append =>
    match args, c.argTypes.toList with
    | [s, x], [t, u] =>
      match P.underlying u with
      | some .string | some (.slice _) => appendD P (mu || hi.mutT t) H t s x
      | _ => none
    | _, _ => none
  | .builtin .max =>
    match args with
    | [.p (.int k a), .p (.int k' b)] => if k = k' then some (.val (.p (.int k (if a < b then b else a))) H) else none
    | _ => none
  | .builtin .min =>
    match args with
    | [.p (.int k a), .p (.int k' b)] => if k = k' then some (.val (.p (.int k (if b < a then b else a))) H) else none
    | _ => none
  | .builtin _ => none
  | .invoke r name =>
    match opd F r with
    | .p (.ifc t v) =>
      match methOf P t name with
      | some g => callD hi H g (.p v :: args)
      | none => none
    | .ifc t v =>
      match methOf P t name with
      | some g => callD hi H g (v :: args)
      | none => none
    | _ => none
  | .value f =>
    match opd F f with
    | .yld i => yieldD H i args
    | .bnd g fs => callD hi H g (fs ++ args)
    | d =>
      match capsOf d with
      | some (g, caps) => callD hi H g (args ++ caps)
      | none => none

def mkFn (f : FuncId) : List D → D
  | [] => .p (.fn f)
  | d :: r => .fn f (d :: r)

/-- Where the fields lie. -/
def placesOf (P : Program) (t : TypeId) : Option (List (Nat × Nat)) :=
  match P.underlying t with
  | some (.struct fs) => fs.toList.mapM fun f => (P.info? f.type).map fun i => (f.offset, i.size)
  | _ => none

def buildD (P : Program) (F : Fr) (t : TypeId) (parts : List (Nat × Operand)) : Option D :=
  match zeroOf P t with
  | some z =>
    match placesOf P t with
    | some ps => go (cellsD (constD z)) (fun i => ps[i]?) parts
    | none =>
      match P.underlying t with
      | some (.array _ e) =>
        match szOf P e with
        | some sz => go (cellsD (constD z)) (fun i => some (i * sz, sz)) parts
        | none => none
      | _ => none
  | none => none
  where
  go (cs : List D) (place : Nat → Option (Nat × Nat)) : List (Nat × Operand) → Option D
    | [] => if cs.all cellD then some (.agg cs) else none
    | (i, x) :: r =>
      match place i with
      | some (off, n) =>
        let v := cellsD (opd F x)
        if cs.all cellD = true ∧ (v.length = n ∧ off + n ≤ cs.length) ∧ v.all cellD = true then go (splice cs off v) place r else none
      | none => none

/-- The elements of a slice literal: each is given, in order. -/
def elsD (A : List Arr) (F : Fr) (ag : Bool) (sz : Nat) : Nat → List (Nat × Operand) → Option (List PD)
  | _, [] => some []
  | k, (i, x) :: r =>
    if i = k then
      match D.pd? A (opd F x), elsD A F ag sz (k + 1) r with
      | some v, some vs => if v.cells.length = sz ∧ v.one = !ag ∧ v.cells.all PD.one = true then some (v :: vs) else none
      | _, _ => none
    else none

def buildSliceD (P : Program) (F : Fr) (H : Hp) (t : TypeId) (len : Nat) (parts : List (Nat × Operand)) : Option D :=
  match elemOf P t with
  | some e =>
    match szOf P e, aggOf P e, zeroOf P e with
    | some sz, some ag, some _ =>
      match elsD H.A F ag sz 0 parts with
      | some l => if l.length = len ∧ len * sz ≤ 16777216 ∧ 0 < sz then some (.lit false l) else none
      | none => none
    | _, _, _ => none
  | none => none

/-! ### Maps with plain keys -/
def sameK : PD → PD → Option Bool
  | .int k a, .int k' b => if k = k' then some (a == b) else none
  | .str a, .str b => some (a.data.toList == b.data.toList)
  | .bool a, .bool b => some (a == b)
  | .agg [.int .i64 a, .int .i64 b], .agg [.int .i64 c, .int .i64 d] => some (a == c && b == d)
  | _, _ => none
def keyOK (P : Program) (t : TypeId) (k : PD) : Bool :=
  match P.underlying t, k with
  | some (.int _), .int _ _ => true
  | some .string, .str _ => true
  | some .bool, .bool _ => true
  | some (.array 2 e), .agg [.int .i64 _, .int .i64 _] =>
    match P.underlying e, P.info? e with
    | some (.int .i64), some i => i.size == 1 && !P.eqGuardType P.depth t
    | _, _ => false
  | _, _ => false
/-- The entry of a key; none: it can't be told. -/
def findM (k : PD) : List (PD × PD) → Nat → Option (Option (Nat × PD))
  | [], _ => some none
  | (k', x) :: r, i =>
    match sameK k k' with
    | some true => some (some (i, x))
    | some false => findM k r (i + 1)
    | none => none
def putM (l : List (PD × PD)) (k x : PD) : Option (Nat × PD) → List (PD × PD)
  | some (i, _) => l.set i (k, x)
  | none => l ++ [(k, x)]
def mapOf (H : Hp) : D → Option (Nat × List (PD × PD))
  | .mp i =>
    match H.B[i]? with
    | some (.mset l) => some (i, l)
    | _ => none
  | _ => none
def lookupD (P : Program) (H : Hp) (t : TypeId) (m k : D) (ok : Bool) : Option D :=
  match P.underlying t, mapOf H m, D.pd? H.A k with
  | some (.map kt et), some (_, l), some k =>
    match (if keyOK P kt k = true then findM k l 0 else none), zeroOf P et with
    | some (some (_, x)), some _ => some (if ok = true then .tup [.p x, .p (.bool true)] else .p x)
    | some none, some z => some (if ok = true then .tup [constD z, .p (.bool false)] else constD z)
    | _, _ => none
  | _, _, _ => none
def updD (P : Program) (H : Hp) (t : TypeId) (m k v : D) : Option Hp :=
  match P.underlying t, mapOf H m, D.pd? H.A k, D.pd? H.A v with
  | some (.map kt _), some (i, l), some k, some x =>
    match (if keyOK P kt k = true then findM k l 0 else none) with
    | some r => some { H with B := H.B.set i (.mset (putM l k x r)) }
    | none => none
  | _, _, _, _ => none
def makeSliceD (P : Program) (H : Hp) (t : TypeId) (n c : D) : Option Nx :=
  match elemOf P t, numD n, numD c with
  | some e, some a, some b =>
    match szOf P e, byOf P e, (zeroOf P e).bind fun z => D.pd? H.A (constD z) with
    | some sz, some by_, some zp =>
      if a = b ∧ 0 ≤ a ∧ a.toNat * by_ ≤ 140737488355328 ∧ a ≤ 4611686018427387904 ∧ 0 < sz ∧ zOK P e sz = true ∧ zp.cells.length = sz then some (newRow H ⟨0, e, sz, false, false, List.replicate a.toNat zp⟩) else none
    | _, _, _ => none
  | _, _, _ => none

def exec (P : Program) (hi : Hints) (mu : Bool) (m : Mk) (F : Fr) (H : Hp) (o : Oper) : Option Nx :=
  match o.op with
  | .move x => some (.val (opd F x) H)
  | .assign x =>
    match x with
    | .const (.slice none 0 0) =>
      match elemOf P o.type with
      | some e =>
        match szOf P e with
        | some sz => if 0 < sz then some (newRow H ⟨0, e, sz, true, !(mu || hi.mutT o.type), []⟩) else none
        | none => none
      | none => none
    | x => some (.val (opd F x) H)
  | .pick c a b =>
    match opd F c with
    | .p (.bool t) => some (.val (if t = true then opd F a else opd F b) H)
    | _ => none
  | .alloc t =>
    match zeroOf P t with
    | some z =>
      let cs := cellsD (constD z)
      if cs.all cellD then some (.val (.ptr H.B.length 0) { H with B := H.B ++ [.cells cs] }) else none
    | none => none
  | .box _ x =>
    let cs := cellsD (opd F x)
    if cs.all cellD then some (.val (.ptr H.B.length 0) { H with B := H.B ++ [.cells cs] }) else none
  | .build t parts => (buildD P F t parts.toList).map (.val · H)
  | .buildSlice t len parts => (buildSliceD P F H t len parts.toList).map (.val · H)
  | .load t a =>
    match aggOf P t, szOf P t with
    | some ag, some n => (loadD H (opd F a) ag n).map (.val · H)
    | _, _ => none
  | .store t a x =>
    match szOf P t with
    | some n => (storeD m H (opd F a) (cellsD (opd F x)) n).map .skip
    | none => none
  | .nilCheck x =>
    match opd F x with
    | .ptr i o => some (.val (.ptr i o) H)
    | .p (.fn f) => some (.val (.p (.fn f)) H)
    | .fn f cs => some (.val (.fn f cs) H)
    | _ => none
  | .binOp op t x y _ => (binD P H.A op t x y (opd F x) (opd F y)).map (.val · H)
  | .unOp op _ x =>
    match opd F x with
    | .p v => (unP op v).map fun r => .val (.p r) H
    | _ => none
  | .convert s d x => (convD P s d (D.pd? H.A (opd F x))).map (.val · H)
  | .makeInterface t x =>
    match P.underlying t with
    | some (.interface _) | none => none
    | _ =>
      match D.pd? H.A (opd F x) with
      | some v => some (.val (.p (.ifc t v)) H)
      | none => some (.val (.ifc t (opd F x)) H)
  | .makeFunc (.func f) first caps =>
    if first.isEmpty then some (.val (mkFn f (caps.toList.map (opd F))) H)
    else if caps.isEmpty then some (.val (.bnd f (first.toList.map (opd F))) H) else none
  | .slice t x lo h none => (sliceD P H F t x lo h).map (.val · H)
  | .slice t x lo h (some m) => (clipD P H F t x lo h (some m)).map (.val · H)
  | .fieldAddr t x j =>
    match fieldOf P t j with
    | some (off, n, _) => if n = 0 then none else (fieldAddrD H.A (opd F x) off).map (.val · H)
    | none => none
  | .field t x j =>
    match fieldOf P t j with
    | some (off, n, ag) => (partD (opd F x) off n ag).map (.val · H)
    | none => none
  | .indexAddr t x ix =>
    match numD (opd F ix) with
    | some n => (indexAddrD P H t (opd F x) n).map (.val · H)
    | none => none
  | .index t x ix =>
    match numD (opd F ix) with
    | some n => (indexD P t (opd F x) n).map (.val · H)
    | none => none
  | .typeAssert x _ at_ ok => (assertD P (opd F x) at_ ok).map (.val · H)
  | .extract t i =>
    match opd F t with
    | .tup l => (l[i]?).map (.val · H)
    | _ => none
  | .range t x =>
    match P.underlying t, opd F x with
    | some .string, .p (.str s) => some (.val (.ptr H.B.length 0) { H with B := H.B ++ [.sit s 0] })
    | _, _ => none
  | .next it true =>
    match opd F it with
    | .ptr i 0 =>
      match H.B[i]? with
      | some (.sit s pos) =>
        if pos < s.size then
          some (.val (.tup [.p (.bool true), .p (.int .i64 pos), .p (.int .i32 (Utf8.decode s pos).1)])
            { H with B := H.B.set i (.sit s (pos + (Utf8.decode s pos).2)) })
        else some (.val (.tup [.p (.bool false)]) H)
      | _ => none
    | _ => none
  | .makeMap _ none => some (.val (.mp H.B.length) { H with B := H.B ++ [.mset []] })
  | .lookup t x ix ok => (lookupD P H t (opd F x) (opd F ix) ok).map (.val · H)
  | .mapUpdate t x ix v => (updD P H t (opd F x) (opd F ix) (opd F v)).map .skip
  | .makeSlice t n c => makeSliceD P H t (opd F n) (opd F c)
  | .call c => opCall P hi mu F H c
  | .panic x =>
    match D.pd? H.A (opd F x) with
    | some (.ifc t v) => some (.pan (.ifc t v))
    | _ => none
  | _ => none

/-! ### Regions -/
inductive Out where
  | ret (d : D)
  | pan (x : PD)

abbrev Cal := FuncId → List D → Hp → Option (Out × Hp)

inductive RO where
  | go (F : Fr) (H : Hp)
  | pan (x : PD) (H : Hp)

/-- Is the operation performed? none: it can't be told. -/
def wantD (ops : Array Oper) (F : Fr) (o : Oper) : Option Bool :=
  match o.guard with
  | none => some true
  | some (j, want) =>
    match (ops[j]?).bind (·.dst) with
    | none => some false
    | some t =>
      match look F t with
      | .p (.bool b) => some (b == want)
      | .tup [] => some false
      | _ => none

/-- A round is asked for under a number of its own. -/
abbrev YB : Nat := 1000000000

def fin (dst : Option Tmp) (F : Fr) : Option Nx → Cal → Option RO
  | some (.val d H), _ => some (.go (putF dst d F) H)
  | some (.skip H), _ => some (.go (putF dst (.tup []) F) H)
  | some (.pan _), _ => none
  | some (.call g args H), cal =>
    if g < 1000000000 then
      match cal g args H with
      | some (.ret d, H1) => some (.go (putF dst d F) H1)
      | some (.pan x, H1) => some (.pan x H1)
      | none => none
    else none
  | some (.yield i args H), cal =>
    match cal (1000000000 + i) args H with
    | some (.ret d, H1) => some (.go (putF dst d F) H1)
    | some (.pan x, H1) => some (.pan x H1)
    | none => none
  | none, _ => none

def runOp (P : Program) (hi : Hints) (mu : Bool) (m : Mk) (cal : Cal) (ops : Array Oper) (F : Fr) (H : Hp) (o : Oper) : Option RO :=
  match wantD ops F o with
  | some true =>
    match exec P hi mu m F H o with
    | some (.pan x) => some (.pan x H)
    | r => fin o.dst F r cal
  | some false => some (.go (putF o.dst (.tup []) F) H)
  | none => none

def runOps (P : Program) (hi : Hints) (mu : Bool) (m : Mk) (cal : Cal) (ops : Array Oper) : List Oper → Fr → Hp → Option RO
  | [], F, H => some (.go F H)
  | o :: r, F, H =>
    match runOp P hi mu m cal ops F H o with
    | some (.go F1 H1) => runOps P hi mu m cal ops r F1 H1
    | r => r
end Go.Vi
end

section
/- Vi, part 3: what memory an abstract state stands for; what stays true of it while memory grows. No conditions. -/
namespace Go.Vi
open Go

/-- What the proof keeps beside a state: the blocks of its variables, those of its rows with their room, and the cells that are never written again. -/
structure Gh where
  B : List (Option Nat)
  A : List (Option (Nat × Nat))
  I : Nat → Nat → Prop

inductive RepP (w : World) (I : Nat → Nat → Prop) : PD → Value → Prop
  | int (k : IntKind) (n : Int) : RepP w I (.int k n) (.int k n)
  | bool (b : Bool) : RepP w I (.bool b) (.bool b)
  | str (s : ByteArray) : RepP w I (.str s) (.string s)
  | nilI : RepP w I .nilI .nilIface
  | nilF : RepP w I .nilF .nilFunc
  | nilP : RepP w I .nilP (.pointer none)
  | nilM : RepP w I .nilM (.map none)
  | fn (f : FuncId) : RepP w I (.fn f) (.func (.func f) #[] #[])
  | ifc (t : TypeId) (x : PD) (v : Value) (h : RepP w I x v) : RepP w I (.ifc t x) (.iface t v)
  | agg (l : List PD) (cs : Array Value) (hs : cs.size = l.length) (h : ∀ (i : Nat) (x : PD) (v : Value), l[i]? = some x → cs[i]? = some v → RepP w I x v) :
      RepP w I (.agg l) (.agg cs)
  | nil (a : Option Addr) (cap : Nat) : RepP w I (.sl []) (.slice a 0 cap)
  | sl (l : List PD) (b o cap sz : Nat) (f : Nat → Nat → Value) (hl : l.length ≤ cap) (hsz : ∀ e ∈ l, e.cells.length = sz)
      (hI : ∀ (j c : Nat) (e x : PD), l[j]? = some e → e.cells[c]? = some x → I b (o + (j * sz + c)))
      (hc : ∀ (j c : Nat) (e x : PD), l[j]? = some e → e.cells[c]? = some x → w.cell? ⟨b, o + (j * sz + c), none⟩ = some (f j c))
      (hr : ∀ (j c : Nat) (e x : PD), l[j]? = some e → e.cells[c]? = some x → RepP w I x (f j c)) :
      RepP w I (.sl l) (.slice (some ⟨b, o, none⟩) l.length cap)

/-- Nothing of what is never written again is written. -/
structure Same (w : World) (I : Nat → Nat → Prop) (w' : World) (I' : Nat → Nat → Prop) : Prop where
  inn : ∀ b o, I b o → I' b o
  cell : ∀ b o, I b o → w'.cell? ⟨b, o, none⟩ = w.cell? ⟨b, o, none⟩

theorem RepP.same {w w' : World} {I I' : Nat → Nat → Prop} (hs : Same w I w' I') {x : PD} {v : Value} (h : RepP w I x v) : RepP w' I' x v := by
  induction h with
  | int k n => exact .int k n
  | bool b => exact .bool b
  | str s => exact .str s
  | nilI => exact .nilI
  | nilF => exact .nilF
  | nilP => exact .nilP
  | nilM => exact .nilM
  | fn f => exact .fn f
  | ifc t x v _ ih => exact .ifc t x v ih
  | agg l cs hs' _ ih => exact .agg l cs hs' ih
  | nil a cap => exact .nil a cap
  | sl l b o cap sz f hl hsz hI hc hr ih =>
    exact .sl l b o cap sz f hl hsz (fun j c e x h1 h2 => hs.inn _ _ (hI j c e x h1 h2))
      (fun j c e x h1 h2 => (hs.cell _ _ (hI j c e x h1 h2)).trans (hc j c e x h1 h2)) ih

/-- What lies at the address of a part. -/
def RepE (w : World) (I : Nat → Nat → Prop) (l : List PD) (b o : Nat) : Prop :=
  ∀ (c : Nat) (x : PD), l[c]? = some x → I b (o + c) ∧ ∃ v, w.cell? ⟨b, o + c, none⟩ = some v ∧ RepP w I x v

theorem RepE.same {w w' : World} {I I' : Nat → Nat → Prop} (hs : Same w I w' I') {l : List PD} {b o : Nat} (h : RepE w I l b o) : RepE w' I' l b o :=
  fun c x hx => let ⟨hi, v, hv, hr⟩ := h c x hx; ⟨hs.inn _ _ hi, v, (hs.cell _ _ hi).trans hv, hr.same hs⟩

def ownV : Option (Nat × Nat) → Nat → Value
  | none, _ => .slice none 0 0
  | some (b, cap), n => .slice (some ⟨b, 0, none⟩) n cap

inductive RepD (w : World) (g : Gh) (A : List Arr) : D → Value → Prop
  | p (x : PD) (v : Value) (h : RepP w g.I x v) : RepD w g A (.p x) v
  | litN : RepD w g A (.lit true []) (.slice none 0 0)
  | lit (l : List PD) (b o : Nat) (h : RepP w g.I (.sl l) (.slice (some ⟨b, o, none⟩) l.length l.length)) :
      RepD w g A (.lit false l) (.slice (some ⟨b, o, none⟩) l.length l.length)
  | ptr (i off b : Nat) (h : g.B[i]? = some (some b)) : RepD w g A (.ptr i off) (.pointer (some ⟨b, off, none⟩))
  | elt (l : List PD) (b o : Nat) (h : RepE w g.I l b o) : RepD w g A (.elt l) (.pointer (some ⟨b, o, none⟩))
  | own (i ver : Nat) (v : Value) (hi : i < A.length) (hv : ∃ a n c, v = .slice a n c)
      (h : ∀ ar, A[i]? = some ar → ver ≤ ar.ver ∧ (ar.ver = ver → ∃ q, g.A[i]? = some q ∧ v = ownV q ar.els.length)) : RepD w g A (.own i ver) v
  | oelt (i ver k off : Nat) (v : Value) (hi : i < A.length) (hv : ∃ a, v = .pointer a)
      (h : ∀ ar, A[i]? = some ar → ver ≤ ar.ver ∧ (ar.ver = ver → ∃ b cap, g.A[i]? = some (some (b, cap)) ∧ v = .pointer (some ⟨b, k * ar.sz + off, none⟩))) :
      RepD w g A (.oelt i ver k off) v
  | agg (l : List D) (cs : Array Value) (hs : cs.size = l.length) (h : ∀ (i : Nat) (x : D) (v : Value), l[i]? = some x → cs[i]? = some v → RepD w g A x v) :
      RepD w g A (.agg l) (.agg cs)
  | fn (f : FuncId) (l : List D) (cs : Array Value) (hs : cs.size = l.length) (h : ∀ (i : Nat) (x : D) (v : Value), l[i]? = some x → cs[i]? = some v → RepD w g A x v) :
      RepD w g A (.fn f l) (.func (.func f) #[] cs)
  | bnd (f : FuncId) (l : List D) (cs : Array Value) (hs : cs.size = l.length) (h : ∀ (i : Nat) (x : D) (v : Value), l[i]? = some x → cs[i]? = some v → RepD w g A x v) :
      RepD w g A (.bnd f l) (.func (.func f) cs #[])
  | ifc (t : TypeId) (x : D) (v : Value) (h : RepD w g A x v) : RepD w g A (.ifc t x) (.iface t v)
  | tup (l : List D) (cs : Array Value) (hs : cs.size = l.length) (h : ∀ (i : Nat) (x : D) (v : Value), l[i]? = some x → cs[i]? = some v → RepD w g A x v) :
      RepD w g A (.tup l) (.tuple cs)
  | yld (i b : Nat) (h : g.B[i]? = some (some b)) : RepD w g A (.yld i) (.func (.yield b) #[] #[])
  | mp (i b : Nat) (h : g.B[i]? = some (some b)) : RepD w g A (.mp i) (.map (some b))
  | bsl (i off n cap b : Nat) (h : g.B[i]? = some (some b)) : RepD w g A (.bsl i off n cap) (.slice (some ⟨b, off, none⟩) n cap)
  | emp (a : Addr) (cap : Nat) : RepD w g A .emp (.slice (some a) 0 cap)
  | clip (l : List PD) (a : Option Addr) (h : RepP w g.I (.sl l) (.slice a l.length l.length)) : RepD w g A (.clip l) (.slice a l.length l.length)
  | dead (v : Value) : RepD w g A .dead v

def Gh.owned (g : Gh) : List Nat := g.B.filterMap id ++ g.A.filterMap (·.map (·.1))

/-- What is written lies among so many. -/
def okN (N : Nat) : Code → Bool
  | .region _ ops _ => ops.all fun o => match o.dst with | some t => decide (t < N) | none => true
  | .seq a b => okN N a && okN N b
  | .cond _ a b => okN N a && okN N b
  | .block _ c => okN N c
  | .loop c => okN N c
  | .scope c => okN N c
  | .rangeFunc _ ps a b => ps.all (fun t => decide (t < N)) && okN N a && okN N b
  | _ => true

def BlkRep (w : World) (g : Gh) (A : List Arr) (bk : Blk) (b : Nat) : Prop :=
  match bk with
  | .hole => True
  | .cells l => ∃ cs t, w.heap[b]? = some (.cells cs t (0, 0)) ∧ cs.size = l.length ∧
      ∀ (j : Nat) (d : D) (v : Value), l[j]? = some d → cs[j]? = some v → RepD w g A d v
  | .sit s pos => w.heap[b]? = some (.stringIter s pos)
  | .mset l => ∃ es clock, w.heap[b]? = some (.map es clock) ∧ es.size = l.length ∧
      ∀ (j : Nat) (k x : PD) (e : MapEntry), l[j]? = some (k, x) → es[j]? = some e → RepP w g.I k e.key ∧ RepP w g.I x e.val
  | .lp st pend _ F ps assign body => ∃ r : Loop, w.heap[b]? = some (.loop r) ∧ r.state = st ∧ r.pending = pend ∧ r.params = ps ∧ r.assign = assign ∧ r.body = body ∧
      (okN r.tmps.size assign = true ∧ okN r.tmps.size body = true ∧ ps.all (fun t => decide (t < r.tmps.size)) = true) ∧
      ∀ t, RepD w g A (look F t) (r.tmps.getD t undef)

def ArrRep (w : World) (g : Gh) (ar : Arr) (q : Option (Nat × Nat)) : Prop :=
  match q with
  | none => ar.els = [] ∧ ar.nil = true
  | some (b, cap) => ar.nil = false ∧ cap ≤ 9223372036854775807 ∧ ∃ cs, w.heap[b]? = some (.cells cs ar.ty (0, 0)) ∧ cs.size = cap * ar.sz ∧ ar.els.length ≤ cap ∧
      (∀ e ∈ ar.els, e.cells.length = ar.sz) ∧
      (∀ (j c : Nat) (e x : PD), ar.els[j]? = some e → e.cells[c]? = some x →
        ∃ v, cs[j * ar.sz + c]? = some v ∧ RepP w g.I x v) ∧
      (ar.fz = true → ∀ (j c : Nat) (e x : PD), ar.els[j]? = some e → e.cells[c]? = some x → g.I b (j * ar.sz + c))

/-- The table of powers of ten that the numerals' writer reads: whether it is laid, in which block, and what lies there. -/
def tabOn : Bool := false
def tabB : Nat := 2
def tabV : Array Value := ((List.range 20).map fun i => Value.int .u64 ((10 : Int) ^ i)).toArray
def GT (w : World) (g : Gh) : Prop := ∀ b l, gtabOf b = some l → RepE w g.I l b 0
def Tab (w : World) (g : Gh) : Prop := (tabOn = true → tabB ∉ g.owned ∧ ∃ ty fr, w.heap[tabB]? = some (.cells tabV ty fr)) ∧ GT w g

structure Inv (w : World) (g : Gh) (H : Hp) : Prop where
  lenB : g.B.length = H.B.length
  lenA : g.A.length = H.A.length
  blk : ∀ (i : Nat) (bk : Blk) (b : Nat), H.B[i]? = some bk → g.B[i]? = some (some b) → BlkRep w g H.A bk b
  arr : ∀ (i : Nat) (ar : Arr) (q : Option (Nat × Nat)), H.A[i]? = some ar → g.A[i]? = some q → 0 < ar.sz ∧ ArrRep w g ar q
  nB : ∀ (i j b : Nat), g.B[i]? = some (some b) → g.B[j]? = some (some b) → i = j
  nBA : ∀ (i j b cap : Nat), g.B[i]? = some (some b) → g.A[j]? ≠ some (some (b, cap))
  nA : ∀ (i j b c c' : Nat), g.A[i]? = some (some (b, c)) → g.A[j]? = some (some (b, c')) → i = j
  lt : ∀ b ∈ g.owned, b < w.heap.size
  iB : ∀ b o, g.I b o → some b ∉ g.B
  iA : ∀ b o, g.I b o → ∀ (i cap : Nat) (ar : Arr), g.A[i]? = some (some (b, cap)) → H.A[i]? = some ar → ar.fz = true ∧ o < ar.els.length * ar.sz
  iLt : ∀ b o, g.I b o → b < w.heap.size
  tab : Tab w g
  hole : ∀ (i : Nat), H.B[i]? = some .hole ↔ g.B[i]? = some none

/-- Nothing is put out; draws go on. -/
def Outs (w w' : World) : Prop := w'.output = w.output ∧ w.drawn ≤ w'.drawn
theorem Outs.same {w w' : World} (h : w'.output = w.output) (h2 : w'.drawn = w.drawn) : Outs w w' := ⟨h, by rw [h2]; exact Nat.le_refl _⟩
theorem Outs.trans {w w1 w2 : World} (h : Outs w w1) (k : Outs w1 w2) : Outs w w2 := ⟨k.1.trans h.1, Nat.le_trans h.2 k.2⟩
/-- From one state to a later one. -/
structure Ext (w : World) (g : Gh) (A : List Arr) (w' : World) (g' : Gh) (A' : List Arr) : Prop where
  ptr : ∀ (i b : Nat), g.B[i]? = some (some b) → g'.B[i]? = some (some b)
  same : Same w g.I w' g'.I
  lenA : A.length ≤ A'.length
  row : ∀ (i : Nat) (ar' : Arr), i < A.length → A'[i]? = some ar' → ∃ ar, A[i]? = some ar ∧ ar.ver ≤ ar'.ver ∧ ar.sz = ar'.sz ∧
      (ar'.ver = ar.ver → g'.A[i]? = g.A[i]? ∧ ar'.els.length = ar.els.length)
  heap : ∀ b, b < w.heap.size → b ∉ g.owned → w'.heap[b]? = w.heap[b]?
  size : w.heap.size ≤ w'.heap.size
  owned : ∀ b, b < w.heap.size → b ∉ g.owned → b ∉ g'.owned
  os : w'.os = w.os
  tape : w'.tape = w.tape
  output : Outs w w'
  news : ∀ b o, g'.I b o → b < w.heap.size → b ∉ g.owned → g.I b o

theorem Tab.of {w w' : World} {g g' : Gh} (h : Tab w g) (hh : ∀ b, b < w.heap.size → b ∉ g.owned → w'.heap[b]? = w.heap[b]?) (ho : ∀ b, b < w.heap.size → b ∉ g.owned → b ∉ g'.owned) (hs : Same w g.I w' g'.I) : Tab w' g' := ⟨fun e => by
  obtain ⟨h1, ty, fr, h2⟩ := h.1 e
  have hlt := (Array.getElem?_eq_some_iff.1 h2).1
  exact ⟨ho _ hlt h1, ty, fr, (hh _ hlt h1).trans h2⟩, fun b l hb => (h.2 b l hb).same hs⟩
theorem Tab.ext {w w' : World} {g g' : Gh} {A A' : List Arr} (h : Tab w g) (he : Ext w g A w' g' A') : Tab w' g' := h.of he.heap he.owned he.same

theorem Ext.refl (w : World) (g : Gh) (A : List Arr) : Ext w g A w g A :=
  ⟨fun _ _ h => h, ⟨fun _ _ h => h, fun _ _ _ => rfl⟩, Nat.le_refl _, fun i ar' _ h => ⟨ar', h, Nat.le_refl _, rfl, fun _ => ⟨rfl, rfl⟩⟩, fun _ _ _ => rfl,
    Nat.le_refl _, fun _ _ h => h, rfl, rfl, .same rfl rfl, fun _ _ h _ _ => h⟩

theorem Ext.trans {w w1 w2 : World} {g g1 g2 : Gh} {A A1 A2 : List Arr} (h : Ext w g A w1 g1 A1) (k : Ext w1 g1 A1 w2 g2 A2) : Ext w g A w2 g2 A2 where
  ptr i b hb := k.ptr i b (h.ptr i b hb)
  same := ⟨fun b o hi => k.same.inn _ _ (h.same.inn _ _ hi), fun b o hi => (k.same.cell _ _ (h.same.inn _ _ hi)).trans (h.same.cell _ _ hi)⟩
  lenA := Nat.le_trans h.lenA k.lenA
  row i ar'' hi h2 := by
    obtain ⟨ar', h1, v1, s1, e1⟩ := k.row i ar'' (Nat.lt_of_lt_of_le hi h.lenA) h2
    obtain ⟨ar, h0, v0, s0, e0⟩ := h.row i ar' hi h1
    refine ⟨ar, h0, Nat.le_trans v0 v1, s0.trans s1, fun hv => ?_⟩
    have hv1 : ar''.ver = ar'.ver := by omega
    have hv0 : ar'.ver = ar.ver := by omega
    exact ⟨(e1 hv1).1.trans (e0 hv0).1, (e1 hv1).2.trans (e0 hv0).2⟩
  heap b hb ho := (k.heap b (Nat.lt_of_lt_of_le hb h.size) (h.owned b hb ho)).trans (h.heap b hb ho)
  size := Nat.le_trans h.size k.size
  owned b hb ho := k.owned b (Nat.lt_of_lt_of_le hb h.size) (h.owned b hb ho)
  os := k.os.trans h.os
  tape := k.tape.trans h.tape
  output := h.output.trans k.output
  news b o hi hb ho := h.news b o (k.news b o hi (Nat.lt_of_lt_of_le hb h.size) (h.owned b hb ho)) hb ho

theorem RepD.ext0 {w w' : World} {g g' : Gh} {A A' : List Arr} (hp : ∀ (i b : Nat), g.B[i]? = some (some b) → g'.B[i]? = some (some b)) (hs' : Same w g.I w' g'.I) (hl : A.length ≤ A'.length)
    (hw : ∀ (i : Nat) (ar' : Arr), i < A.length → A'[i]? = some ar' → ∃ ar, A[i]? = some ar ∧ ar.ver ≤ ar'.ver ∧ ar.sz = ar'.sz ∧
      (ar'.ver = ar.ver → g'.A[i]? = g.A[i]? ∧ ar'.els.length = ar.els.length)) {d : D} {v : Value} (h : RepD w g A d v) : RepD w' g' A' d v := by
  induction h with
  | p x v h => exact .p x v (h.same hs')
  | litN => exact .litN
  | lit l b o h => exact .lit l b o (h.same hs')
  | ptr i off b h => exact .ptr i off b (hp i b h)
  | elt l b o h => exact .elt l b o (h.same hs')
  | own i ver v hi hsl h =>
    refine .own i ver v (Nat.lt_of_lt_of_le hi hl) hsl fun ar' har' => ?_
    obtain ⟨ar, har, hv, hs, heq⟩ := hw i ar' hi har'
    obtain ⟨h1, h2⟩ := h ar har
    refine ⟨Nat.le_trans h1 hv, fun e => ?_⟩
    have e1 : ar'.ver = ar.ver := by omega
    obtain ⟨q, hq, hq'⟩ := h2 (by omega)
    exact ⟨q, (heq e1).1.trans hq, by rw [(heq e1).2]; exact hq'⟩
  | oelt i ver k off v hi hsl h =>
    refine .oelt i ver k off v (Nat.lt_of_lt_of_le hi hl) hsl fun ar' har' => ?_
    obtain ⟨ar, har, hv, hs, heq⟩ := hw i ar' hi har'
    obtain ⟨h1, h2⟩ := h ar har
    refine ⟨Nat.le_trans h1 hv, fun e => ?_⟩
    have e1 : ar'.ver = ar.ver := by omega
    obtain ⟨b, cap, hq, hq'⟩ := h2 (by omega)
    exact ⟨b, cap, (heq e1).1.trans hq, by rw [← hs]; exact hq'⟩
  | agg l cs hs _ ih => exact .agg l cs hs ih
  | fn f l cs hs _ ih => exact .fn f l cs hs ih
  | bnd f l cs hs _ ih => exact .bnd f l cs hs ih
  | ifc t x v _ ih => exact .ifc t x v ih
  | tup l cs hs _ ih => exact .tup l cs hs ih
  | yld i b h => exact .yld i b (hp i b h)
  | mp i b h => exact .mp i b (hp i b h)
  | bsl i off n c b h => exact .bsl i off n c b (hp i b h)
  | emp a c => exact .emp a c
  | clip l a h => exact .clip l a (h.same hs')
  | dead v => exact .dead v

theorem RepD.ext {w w' : World} {g g' : Gh} {A A' : List Arr} (he : Ext w g A w' g' A') {d : D} {v : Value} (h : RepD w g A d v) : RepD w' g' A' d v :=
  h.ext0 he.ptr he.same he.lenA he.row

/-- Only the first variables and rows. -/
def Gh.cut (g : Gh) (nB nA : Nat) : Gh := ⟨g.B.take nB, g.A.take nA, g.I⟩

mutual
theorem RepD.cut {w : World} {g : Gh} {A : List Arr} {nB nA : Nat} (hA : nA ≤ A.length) : ∀ (d : D) (v : Value), RepD w g A d v → D.noRef nB nA d = true →
    RepD w (g.cut nB nA) (A.take nA) d v
  | .p x, _, .p _ v h, _ => .p x v h
  | .lit _ _, _, .litN, _ => .litN
  | .lit _ _, _, .lit l b o h, _ => .lit l b o h
  | .ptr i off, _, .ptr _ _ b h, hn => .ptr i off b (by
      have hi : i < nB := by simpa [D.noRef] using hn
      simpa [Gh.cut, List.getElem?_take, hi] using h)
  | .elt l, _, .elt _ b o h, _ => .elt l b o h
  | .yld i, _, .yld _ b h, hn => .yld i b (by
      have hi : i < nB := by simpa [D.noRef] using hn
      simpa [Gh.cut, List.getElem?_take, hi] using h)
  | .mp i, _, .mp _ b h, hn => .mp i b (by
      have hi : i < nB := by simpa [D.noRef] using hn
      simpa [Gh.cut, List.getElem?_take, hi] using h)
  | .bsl i off n c, _, .bsl _ _ _ _ b h, hn => .bsl i off n c b (by
      have hi : i < nB := by simpa [D.noRef] using hn
      simpa [Gh.cut, List.getElem?_take, hi] using h)
  | .own i ver, v, .own _ _ _ hi hsl h, hn => .own i ver v (by
      have hi' : i < nA := by simpa [D.noRef] using hn
      simp; omega) hsl (fun ar har => by
      have hi' : i < nA := by simpa [D.noRef] using hn
      rw [List.getElem?_take, if_pos hi'] at har
      obtain ⟨h1, h2⟩ := h ar har
      exact ⟨h1, fun e => by simpa [Gh.cut, List.getElem?_take, hi'] using h2 e⟩)
  | .oelt i ver k off, v, .oelt _ _ _ _ _ hi hsl h, hn => .oelt i ver k off v (by
      have hi' : i < nA := by simpa [D.noRef] using hn
      simp; omega) hsl (fun ar har => by
      have hi' : i < nA := by simpa [D.noRef] using hn
      rw [List.getElem?_take, if_pos hi'] at har
      obtain ⟨h1, h2⟩ := h ar har
      exact ⟨h1, fun e => by simpa [Gh.cut, List.getElem?_take, hi'] using h2 e⟩)
  | .agg l, _, .agg _ cs hs h, hn => .agg l cs hs (RepD.cuts hA l (by simpa [D.noRef] using hn) h)
  | .fn f l, _, .fn _ _ cs hs h, hn => .fn f l cs hs (RepD.cuts hA l (by simpa [D.noRef] using hn) h)
  | .bnd f l, _, .bnd _ _ cs hs h, hn => .bnd f l cs hs (RepD.cuts hA l (by simpa [D.noRef] using hn) h)
  | .ifc t x, _, .ifc _ _ v h, hn => .ifc t x v (RepD.cut hA x v h (by simpa [D.noRef] using hn))
  | .tup l, _, .tup _ cs hs h, hn => .tup l cs hs (RepD.cuts hA l (by simpa [D.noRef] using hn) h)
  | .dead, v, _, _ => .dead v
  | .emp, _, .emp a c, _ => .emp a c
  | .clip l, _, .clip _ a h, _ => .clip l a h
theorem RepD.cuts {w : World} {g : Gh} {A : List Arr} {nB nA : Nat} (hA : nA ≤ A.length) : ∀ (l : List D), D.noRefs nB nA l = true →
    ∀ {cs : Array Value}, (∀ (i : Nat) (x : D) (v : Value), l[i]? = some x → cs[i]? = some v → RepD w g A x v) →
    ∀ (i : Nat) (x : D) (v : Value), l[i]? = some x → cs[i]? = some v → RepD w (g.cut nB nA) (A.take nA) x v
  | [], _, _, _, i, x, v, h, _ => by simp at h
  | d :: r, hn, cs, h, i, x, v, hx, hv => by
    simp only [D.noRefs, Bool.and_eq_true] at hn
    cases i with
    | zero => 
      have e : d = x := by simpa using hx
      subst e
      exact RepD.cut hA d v (h 0 d v (by simp) hv) hn.1
    | succ i =>
      have key := RepD.cuts hA r hn.2 (cs := cs.extract 1 cs.size) (fun j y u hy hu => h (j + 1) y u (by simpa using hy) (by
        rw [Array.getElem?_extract] at hu
        split at hu
        · rw [Nat.add_comm]; exact hu
        · simp at hu))
      exact key i x v (by simpa using hx) (by
        rw [Array.getElem?_extract]
        have : i + 1 < cs.size := (Array.getElem?_eq_some_iff.1 hv).1
        rw [if_pos (by omega), Nat.add_comm]
        exact hv)
end
end Go.Vi
end
