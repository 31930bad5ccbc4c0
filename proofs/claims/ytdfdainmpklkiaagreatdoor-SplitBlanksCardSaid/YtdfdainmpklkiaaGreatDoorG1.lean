/- Plain values for Go's values, and an evaluator of the model's code over them: no memory, no world. Definitions alone. -/
import GoSem.Step
set_option linter.unusedVariables false
set_option linter.unusedSimpArgs false
namespace Go.Pv

/-- Kinds of plain values. -/
inductive Kd where
  | int (k : IntKind) | bool | str | list (e : Kd) | unit | pair (a b : Kd)
  | ptr | fn | err
  deriving DecidableEq

@[reducible] def Kd.den : Kd → Type
  | .int _ => Int
  | .bool => Bool
  | .str => ByteArray
  | .list e => List e.den
  | .unit => Unit
  | .pair a b => a.den × b.den
  | .ptr => Option (Nat × Nat)
  | .fn => Unit
  | .err => Bool

/-- How many cells a value takes. -/
def Kd.size : Kd → Nat
  | .unit => 0
  | .pair a b => a.size + b.size
  | _ => 1

/-- At least as many bytes as a value takes. -/
def Kd.bytes : Kd → Nat
  | .int _ => 8
  | .bool => 8
  | .str => 16
  | .list _ => 24
  | .ptr => 8
  | .fn => 8
  | .err => 16
  | .unit => 0
  | .pair a b => a.bytes + b.bytes

/-- How deep a value is. -/
def Kd.depth : Kd → Nat
  | .pair a b => max a.depth b.depth + 1
  | _ => 1
def Kd.dflt : (k : Kd) → k.den
  | .int _ => (0 : Int)
  | .bool => false
  | .str => (⟨#[]⟩ : ByteArray)
  | .list _ => []
  | .unit => ()
  | .pair a b => (a.dflt, b.dflt)
  | .ptr => (none : Option (Nat × Nat))
  | .fn => ()
  | .err => false

/-- Is it told as an aggregate? -/
def Kd.isAgg : Kd → Bool
  | .unit => true
  | .pair _ _ => true
  | _ => false

/-- A box: the one that operation's place d holds, or an object of the heap. -/
inductive Bx where
  | s (d : Nat)
  | h (i : Nat)
  deriving DecidableEq
/-- A place: a temporary, or a cell of a box. -/
inductive Pl where
  | t (n : Nat)
  | b (d : Bx) (o : Nat)
  deriving DecidableEq

inductive PV where
  | i (k : IntKind) (n : Int)
  | b (x : Bool)
  | s (x : ByteArray)
  | l (e : Kd) (xs : List e.den)               -- a slice that is only read
  | o (m : Bool) (e : Kd) (xs : List e.den)    -- a slice of the call's own, at this very place alone; m: nobody else reads it yet
  | r (loc : Pl)                              -- what is at a place that holds an o
  | st (k : Kd) (x : k.den)
  | at_ (k : Kd) (x : k.den)                   -- the address of memory that is no more written
  | ra (loc : Pl) (ix : Int) (path : List Nat) -- the address of a part of an element of an o with m
  | bx (d off : Nat)                           -- the address of a cell of the box that operation's place d holds
  | tup (xs : List ((k : Kd) × k.den))
  | fn (f : Nat)
  | nil
  | un
  | p (x : Option (Nat × Nat))                 -- a pointer: an object of the heap, and a cell
  | clo (f : Nat) (caps : List PV)             -- a function value
  | ac (ps : List PV) (off : Nat)              -- the address of a cell of a box that is no more written
  | rh (k : Kd) (i o : Nat) (ix : Int) (path : List Nat) -- the address of a part of an element of a slice that a heap's cell has
  | yl                                         -- the yield of the loop that runs this function
  | nilf
  | e (x : Bool)                               -- an error, or none
  | ag (ps : List PV)                          -- a struct's cells, each a plain value or a slice of the call's own at a place

/-- An object of the heap: cells; or a loop over a function: how it stands. -/
inductive HO where
  | c (ps : List PV)
  | lp (n : Nat)
abbrev Hp := List HO
def HO.cs : HO → List PV
  | .c ps => ps
  | .lp _ => []
/-- An object's cells. -/
def Hcs (h : Hp) (i : Nat) : List PV := (h.getD i (.c [])).cs
structure Env where
  t : List PV
  b : List (List PV)
  h : Hp

def Env.slot (e : Env) (t : Nat) : PV := e.t.getD t .un
def Env.box (e : Env) : Bx → List PV
  | .s d => e.b.getD d []
  | .h i => Hcs e.h i
def Env.cell (e : Env) (d : Bx) (o : Nat) : PV := (e.box d).getD o .un
/-- What is at a place. -/
def Env.at_ (e : Env) : Pl → PV
  | .t n => e.slot n
  | .b d o => e.cell d o
def Env.setT (e : Env) (t : Nat) (p : PV) : Env := { e with t := e.t.set t p }
def Env.setB (e : Env) (d : Bx) (o : Nat) (p : PV) : Env :=
  match d with
  | .s d => { e with b := e.b.set d ((e.b.getD d []).set o p) }
  | .h i => { e with h := e.h.set i (.c ((Hcs e.h i).set o p)) }
def Env.set (e : Env) (n : Pl) (p : PV) : Env :=
  match n with
  | .t t => e.setT t p
  | .b d o => e.setB d o p
/-- Every value there is, turned. -/
def Env.map (e : Env) (f : PV → PV) : Env := ⟨e.t.map f, e.b.map fun l => l.map f, e.h⟩
/-- Nobody refers to the place n any more. -/
def isRef (n : Pl) : PV → Bool
  | .r m => decide (m = n)
  | _ => false
def unref (n : Pl) : PV → PV
  | .ag ps => if ps.any (isRef n) then .un else .ag ps
  | .rh k i o j p => if .b (.h i) o = n then .un else .rh k i o j p
  | .r m => if m = n then .un else .r m
  | .ra m i p => if m = n then .un else .ra m i p
  | p => p
def Env.scrub (e : Env) (n : Pl) : Env := e.map (unref n)
def isRefB (d : Nat) : PV → Bool
  | .r (.b (.s d') _) => decide (d' = d)
  | _ => false
/-- Nobody refers to the box d any more. -/
def unbox (d : Nat) : PV → PV
  | .ag ps => if ps.any (isRefB d) then .un else .ag ps
  | .r (.b (.s d') o) => if d' = d then .un else .r (.b (.s d') o)
  | .ra (.b (.s d') o) i p => if d' = d then .un else .ra (.b (.s d') o) i p
  | .bx d' o => if d' = d then .un else .bx d' o
  | p => p
def Env.scrubB (e : Env) (d : Nat) : Env := e.map (unbox d)
def isRefH : PV → Bool
  | .r (.b (.h _) _) => true
  | _ => false
/-- Nobody refers to what the heap's cells have any more. -/
def unheap : PV → PV
  | .ag ps => if ps.any isRefH then .un else .ag ps
  | .r (.b (.h _) _) => .un
  | .ra (.b (.h _) _) _ _ => .un
  | .rh _ _ _ _ _ => .un
  | p => p
def Env.scrubH (e : Env) : Env := e.map unheap
def Env.withH (e : Env) (h : Hp) : Env := { e.scrubH with h := h }
/-- A new box. -/
def Env.newB (e : Env) (d : Nat) (ps : List PV) : Env := { e.scrubB d with b := (e.scrubB d).b.set d ps }
/-- A new object of the heap. -/
def Env.newH (e : Env) (ps : List PV) : Env := { e with h := e.h ++ [.c ps] }
def isO : PV → Bool
  | .o _ _ _ => true
  | _ => false
/-- What a cell of the heap's may have. -/
def hokB : PV → Bool
  | .i _ _ => true
  | .b _ => true
  | .s _ => true
  | .l _ _ => true
  | .o m _ _ => m
  | .p _ => true
  | .e _ => true
  | .nilf => true
  | .un => true
  | _ => false
/-- A slot is written; what is the call's own gets no elder reference. -/
def Env.put (e : Env) (t : Nat) (p : PV) : Env := if isO p then (e.scrub (.t t)).setT t p else e.setT t p
def Env.putB (e : Env) (d : Bx) (o : Nat) (p : PV) : Env := if isO p then (e.scrub (.b d o)).setB d o p else e.setB d o p
/-- All but some slots, and the boxes of their places, are forgotten. -/
def Env.only (e : Env) (l : List Nat) : Env :=
  ⟨e.t.zipIdx.map fun q => if l.contains q.2 then q.1 else .un, e.b.zipIdx.map fun q => if l.contains q.2 then q.1 else [], e.h⟩
def Env.putD (e : Env) (d : Option Nat) (p : PV) : Env :=
  match d with
  | some t => e.put t p
  | none => e

def ofDen : (k : Kd) → k.den → PV
  | .int k, n => .i k n
  | .bool, x => .b x
  | .str, x => .s x
  | .list e, xs => .l e xs
  | .unit, x => .st .unit x
  | .pair a b, x => .st (.pair a b) x
  | .ptr, x => .p x
  | .fn, _ => .nilf
  | .err, x => .e x
def toDen : (k : Kd) → PV → Option k.den
  | .int k, .i k' n => if k = k' then some n else none
  | .bool, .b x => some x
  | .str, .s x => some x
  | .list e, .l e' xs => if h : e' = e then some (h ▸ xs) else none
  | .list _, .nil => some []
  | .unit, .st .unit x => some x
  | .pair a b, .st k x => if h : k = .pair a b then some (h ▸ x) else none
  | .ptr, .p x => some x
  | .fn, .nilf => some ()
  | .err, .e x => some x
  | _, _ => none
def ofConst : Value → PV
  | .int k n => .i k n
  | .bool x => .b x
  | .string s => .s s
  | .slice none 0 0 => .nil
  | .pointer none => .p none
  | .nilFunc => .nilf
  | .nilIface => .e false
  | _ => .un

/-- A struct's field: its kind and value. -/
def comp : (k : Kd) → k.den → Nat → Option ((k' : Kd) × k'.den)
  | .pair a _, x, 0 => some ⟨a, x.1⟩
  | .pair _ b, x, f + 1 => comp b x.2 f
  | _, _, _ => none
/-- .. and its kind alone, and where it begins. -/
def fieldAt : Kd → Nat → Option (Kd × Nat)
  | .pair a _, 0 => some (a, 0)
  | .pair a b, f + 1 => (fieldAt b f).map fun p => (p.1, a.size + p.2)
  | _, _ => none
def setComp : (k : Kd) → k.den → Nat → PV → Option k.den
  | .pair a _, x, 0, p => (toDen a p).map fun y => (y, x.2)
  | .pair _ b, x, f + 1, p => (setComp b x.2 f p).map fun y => (x.1, y)
  | _, _, _, _ => none
/-- A part of a value, by the fields' numbers. -/
def getPath : (k : Kd) → k.den → List Nat → Option ((k' : Kd) × k'.den)
  | k, x, [] => some ⟨k, x⟩
  | k, x, f :: fs => (comp k x f).bind fun y => getPath y.1 y.2 fs
def setPath : (k : Kd) → k.den → List Nat → PV → Option k.den
  | k, _, [], p => toDen k p
  | k, x, f :: fs, p => (comp k x f).bind fun y => (setPath y.1 y.2 fs p).bind fun z => setComp k x f (ofDen y.1 z)

/-- A value's cells, as a box has them. -/
def split : (k : Kd) → k.den → List PV
  | .unit, _ => []
  | .pair a b, x => split a x.1 ++ split b x.2
  | .int k, n => [.i k n]
  | .bool, x => [.b x]
  | .str, x => [.s x]
  | .list e, xs => [.l e xs]
  | .ptr, x => [.p x]
  | .fn, _ => [.nilf]
  | .err, x => [.e x]
/-- A zero value's cells: its slices are nil, and the box's own. -/
def zeros : Kd → List PV
  | .unit => []
  | .pair a b => zeros a ++ zeros b
  | .int k => [.i k 0]
  | .bool => [.b false]
  | .str => [.s ⟨#[]⟩]
  | .list e => [.o false e []]
  | .ptr => [.p none]
  | .fn => [.nilf]
  | .err => [.e false]
/-- .. as the heap's objects have them; b: its slices are the heap's own. -/
def hzeros (b : Bool) : Kd → List PV
  | .unit => []
  | .pair x y => hzeros b x ++ hzeros b y
  | .int k => [.i k 0]
  | .bool => [.b false]
  | .str => [.s ⟨#[]⟩]
  | .list e => [if b then .o true e [] else .l e []]
  | .ptr => [.p none]
  | .fn => [.nilf]
  | .err => [.e false]
/-- A value out of cells, and the cells behind. -/
def asm : (k : Kd) → List PV → Option (k.den × List PV)
  | .unit, l => some ((), l)
  | .pair a b, l => (asm a l).bind fun x => (asm b x.2).bind fun y => some ((x.1, y.1), y.2)
  | .list e, .l e' xs :: l => if h : e' = e then some (h ▸ xs, l) else none
  | .list e, .o _ e' xs :: l => if h : e' = e then some (h ▸ xs, l) else none
  | k, p :: l => (toDen k p).map fun x => (x, l)
  | _, _ => none
/-- An own slice at a place: from now on others read it. -/
def Env.share (e : Env) (n : Pl) : Env :=
  match e.at_ n with
  | .o _ k xs => e.set n (.o false k xs)
  | _ => e
/-- .. at every cell of a box. -/
def Env.shareB (e : Env) (d : Nat) : Env := (List.range (e.box (.s d)).length).foldl (fun e o => e.share (.b (.s d) o)) e
/-- A part's kind, and where it begins. -/
def pathAt : Kd → List Nat → Option (Kd × Nat)
  | k, [] => some (k, 0)
  | k, f :: fs => (fieldAt k f).bind fun p => (pathAt p.1 fs).map fun q => (q.1, p.2 + q.2)

/-- What the types are, and what calls answer. -/
structure Cx where
  kd : Nat → Option Kd
  live : Nat → List Nat   -- by a block's number: which slots are read at a loop's head in it, or behind it
  esc : Nat → Bool        -- by an operation's place: its box is an object of the heap
  own : Nat → Bool        -- by an operation's place: it reads a slice that the heap's cell owns
  hot : Nat → Bool        -- by an operation's place: the call there may turn the heap
  cool : Nat → Bool       -- by an operation's place: the call there reads the heap, and leaves it
  eq : Nat → Bool         -- may values of a type be compared with one another?
  call : {ρ : Type} → Nat → List PV → (PV → Option ρ) → Option ρ
  callH : {ρ : Type} → Nat → List PV → Hp → (PV → Hp → Option ρ) → Option ρ
  callR : {ρ : Type} → Nat → List PV → Hp → (PV → Option ρ) → Option ρ
  iter : {ρ : Type} → Nat → List PV → Hp → (List PV → Hp → (Bool → Hp → Option ρ) → Option ρ) → (Hp → Option ρ) → Option ρ
/-- At a marked place nil is handed over as nil. -/
def Cx.raw (c : Cx) (o : Oper) : Cx := if o.dst.any c.own then { c with kd := fun _ => none } else c
/-- What becomes of a yield. -/
abbrev Yd (ρ : Type) := List PV → Hp → (Bool → Hp → Option ρ) → Option ρ
/-- What a heap's cell has: a plain value; a slice; a whole value. -/
def hcell (k : Kd) (h : Hp) (i o : Nat) : Option k.den := toDen k ((Hcs h i).getD o .un)
def hown (k : Kd) (h : Hp) (i o : Nat) : Option (List k.den) :=
  match (Hcs h i).getD o .un with
  | .o true k' xs => if e : k' = k then some (e ▸ xs) else none
  | _ => none
def hasm (k : Kd) (h : Hp) (i o : Nat) : Option k.den :=
  if (Hcs h i).all (fun p => !isO p) then (asm k ((Hcs h i).drop o)).map (·.1) else none
/-- Cells of the heap's are written; none: they are not there. -/
def hput (h : Hp) (i o : Nat) (ps : List PV) : Option Hp :=
  if 0 < ps.length ∧ o + ps.length ≤ (Hcs h i).length then some (h.set i (.c ((ps.zipIdx o).foldl (fun l q => l.set q.2 q.1) (Hcs h i)))) else none
/-- How a loop over a function stands: 0: the next round may come; 1: a round runs; 2: left by a return; j + 3: left by exit j. -/
def lpOf (h : Hp) (i : Nat) : Nat :=
  match h.getD i (.c []) with
  | .lp c => c
  | _ => 1

/-- Is a round under way? -/
def busyB (h : Hp) (i : Nat) : Bool :=
  match h.getD i (.c []) with
  | .lp c => Nat.beq c 1
  | _ => false
def readyB (h : Hp) (i : Nat) : Bool :=
  match h.getD i (.c []) with
  | .lp c => Nat.beq c 0
  | _ => false

def ev (e : Env) : Operand → PV
  | .tmp t => e.slot t
  | .const v => ofConst v
  | .func f => .fn f
  | .global _ => .un
/-- As it is copied. -/
def cp (e : Env) (x : Operand) : PV :=
  match ev e x, x with
  | .o _ _ _, .tmp t => .r (.t t)
  | .o _ _ _, _ => .un
  | p, _ => p
/-- As others may keep it: a slice of the call's own is shared from now on. -/
def pub (e : Env) (x : Operand) : Option (PV × Env) :=
  match ev e x, x with
  | .r (.b (.h _) _), _ => none
  | .r n, _ => match e.at_ n with
    | .o _ k xs => some (.l k xs, e.share n)
    | _ => none
  | .o _ k xs, .tmp t => some (.l k xs, e.share (.t t))
  | .i k n, _ => some (.i k n, e)
  | .b x, _ => some (.b x, e)
  | .s x, _ => some (.s x, e)
  | .l k xs, _ => some (.l k xs, e)
  | .st k x, _ => some (.st k x, e)
  | .nil, _ => some (.nil, e)
  | .p x, _ => some (.p x, e)
  | .clo f cs, _ => some (.clo f cs, e)
  | .ac ps off, _ => some (.ac ps off, e)
  | .yl, _ => some (.yl, e)
  | .nilf, _ => some (.nilf, e)
  | .e x, _ => some (.e x, e)
  | _, _ => none
/-- As it is handed over. -/
def mov (e : Env) (x : Operand) : Option (PV × Env) :=
  match ev e x, x with
  | .r (.b (.h i) o), _ => some (.r (.b (.h i) o), e)
  | .r n, _ => match e.at_ n with
    | .o m k xs => some (.o m k xs, (e.scrub n).set n .un)
    | _ => none
  | .o m k xs, .tmp t => some (.o m k xs, (e.scrub (.t t)).setT t .un)
  | .o _ _ _, _ => none
  | .un, _ => none
  | p, _ => some (p, e)
/-- nil as a slice of a type. -/
def ownNil (c : Cx) (t : Nat) : PV → PV
  | .nil => match c.kd t with
    | some (.list e) => .o true e []
    | _ => .nil
  | p => p
def roNil (c : Cx) (t : Nat) : PV → PV
  | .nil => match c.kd t with
    | some (.list e) => .l e []
    | _ => .nil
  | p => p
/-- Are two values the same? -/
def eqD : (k : Kd) → Option (k.den → k.den → Bool)
  | .int _ => some fun (x y : Int) => decide (x = y)
  | .bool => some fun (x y : Bool) => x == y
  | .str => some fun (x y : ByteArray) => x.toList == y.toList
  | .unit => some fun _ _ => true
  | .pair a b => match eqD a, eqD b with
    | some f, some g => some fun x y => f x.1 y.1 && g x.2 y.2
    | _, _ => none
  | _ => none
/-- A slice's elements (none of the heap's). -/
def listOf (e : Env) (x : Operand) : Option ((k : Kd) × List k.den) :=
  match ev e x with
  | .r (.b (.h _) _) => none
  | .r n => match e.at_ n with
    | .o _ k xs => some ⟨k, xs⟩
    | _ => none
  | .o _ k xs => some ⟨k, xs⟩
  | .l k xs => some ⟨k, xs⟩
  | _ => none
/-- A slice's elements. -/
def listC {ρ : Type} (k : Kd) (e : Env) (x : Operand) (K : (k : Kd) × List k.den → Option ρ) : Option ρ :=
  match ev e x with
  | .r (.b (.h i) o) => (hown k e.h i o).bind fun xs => K ⟨k, xs⟩
  | _ => (listOf e x).bind K
def byteAt (s : ByteArray) (n : Int) : Int := if h : n.toNat < s.size then ((s[n.toNat]'h).toNat : Int) else 0
def nth {k : Kd} (xs : List k.den) (n : Int) : k.den := xs.getD n.toNat k.dflt
def pure? : Sem Value → Option Value
  | .pure v => some v
  | _ => none

abbrev Kt (ρ : Type) := Env → Option ρ
/-- What two whole numbers come to. -/
def arith {ρ : Type} (op : BinOp) (k : IntKind) (x y : Int) (K : PV → Option ρ) : Option ρ :=
  match op with
  | .add => K (.i k (k.wrap (x + y)))
  | .sub => K (.i k (k.wrap (x - y)))
  | .mul => K (.i k (k.wrap (x * y)))
  | .quo => bif decide (y = 0) then none else K (.i k (k.wrap (x.tdiv y)))
  | .rem => bif decide (y = 0) then none else K (.i k (x.tmod y))
  | .eql => K (.b (decide (x = y)))
  | .neq => K (.b (!decide (x = y)))
  | .lss => K (.b (decide (x < y)))
  | .leq => K (.b (decide (x ≤ y)))
  | .gtr => K (.b (decide (y < x)))
  | .geq => K (.b (decide (y ≤ x)))
  | .and => K (.i k (bitsOf .and k x y))
  | .or => K (.i k (bitsOf .or k x y))
  | .xor => K (.i k (bitsOf .xor k x y))
  | _ => none
  where
  bitsOf (op : BinOp) (k : IntKind) (x y : Int) : Int :=
    let a := BitVec.ofInt k.bits x
    let b := BitVec.ofInt k.bits y
    match op with
    | .and => k.wrap (a &&& b).toNat
    | .or => k.wrap (a ||| b).toNat
    | _ => k.wrap (a ^^^ b).toNat
def shiftK {ρ : Type} (op : BinOp) (k : IntKind) (x y : Int) (K : PV → Option ρ) : Option ρ :=
  bif decide (y < 0) then none else
    match op with
    | .shl => K (.i k (k.wrap (x * 2 ^ min y.toNat k.bits)))
    | .shr => K (.i k (x.fdiv (2 ^ min y.toNat k.bits)))
    | _ => none
def strOp {ρ : Type} (op : BinOp) (x y : ByteArray) (K : PV → Option ρ) : Option ρ :=
  match op with
  | .add => bif decide (x.size + y.size ≤ 9223372036854775807) then K (.s (x ++ y)) else none
  | .eql => K (.b ((x.toList == y.toList)))
  | .neq => K (.b (!(x.toList == y.toList)))
  | _ => none
def binK {ρ : Type} (op : BinOp) (p q : PV) (K : PV → Option ρ) : Option ρ :=
  match p, q with
  | .i k x, .i k' y =>
    match op with
    | .shl => shiftK .shl k x y K
    | .shr => shiftK .shr k x y K
    | op => if k = k' then arith op k x y K else none
  | .s x, .s y => strOp op x y K
  | .b x, .b y =>
    match op with
    | .eql => K (.b (x == y))
    | .neq => K (.b (!(x == y)))
    | _ => none
  | _, _ => none
def unK {ρ : Type} (op : UnOp) (p : PV) (K : PV → Option ρ) : Option ρ :=
  match op, p with
  | .neg, .i k n => K (.i k (k.wrap (0 - n)))
  | .not, .b x => K (.b (!x))
  | _, _ => none
/-- Values for call arguments. -/
def pubs (c : Cx) (e : Env) : List Operand → List Nat → Option (List PV × Env)
  | [], _ => some ([], e)
  | x :: xs, ts => (pub e x).bind fun p => (pubs c p.2 xs ts.tail).bind fun q => some (roNil c (ts.headD 0) p.1 :: q.1, q.2)
/-- As a call gets it that may turn the heap. -/
def pubH (e : Env) (x : Operand) : Option (PV × Env) :=
  match ev e x with
  | .r (.b (.h i) o) => some (.r (.b (.h i) o), e)
  | .rh k i o j p => some (.rh k i o j p, e)
  | _ => pub e x
def pubsH (c : Cx) (e : Env) : List Operand → List Nat → Option (List PV × Env)
  | [], _ => some ([], e)
  | x :: xs, ts => (pubH e x).bind fun p => (pubsH c p.2 xs ts.tail).bind fun q => some (roNil c (ts.headD 0) p.1 :: q.1, q.2)
/-- A struct's parts laid into a value. -/
def fillK (c : Cx) (k : Kd) : Env → k.den → List (Nat × Operand) → Option (k.den × Env)
  | e, x, [] => some (x, e)
  | e, x, (f, y) :: ps => (pub e y).bind fun p => (setComp k x f p.1).bind fun z => fillK c k p.2 z ps
/-- What is laid into a row: a slice that a cell of the heap's has is from then on only read. -/
def pubC {ρ : Type} (k : Kd) (e : Env) (y : Operand) (K : k.den → Env → Option ρ) : Option ρ :=
  match k, ev e y, K with
  | .list k0, .r (.b (.h i) o), K => (hown k0 e.h i o).bind fun xs => K xs (e.setB (.h i) o (.l k0 xs))
  | k, _, K => (pub e y).bind fun p => (toDen k p.1).bind fun x => K x p.2
/-- A slice literal's elements, in order. -/
def elemsC {ρ : Type} (k : Kd) : Env → Nat → List (Nat × Operand) → (List k.den → Env → Option ρ) → Option ρ
  | e, _, [], K => K [] e
  | e, n, (j, y) :: ps, K => if j = n then pubC k e y fun x e1 => elemsC k e1 (n + 1) ps fun xs e2 => K (x :: xs) e2 else none
def lim (k : Kd) : Nat := 140737488355328 / max 1 k.bytes

/-- A struct's parts that are no slices of the call's own. -/
def fillR (k : Kd) (e : Env) : k.den → List (Nat × Operand) → Option k.den
  | x, [] => some x
  | x, (f, y) :: ps => (setComp k x f (ev e y)).bind fun z => fillR k e z ps
/-- What may be handed over. -/
def okArg : PV → Bool
  | .i _ _ => true
  | .b _ => true
  | .s _ => true
  | .l _ _ => true
  | .st _ _ => true
  | .nil => true
  | .p _ => true
  | .e _ => true
  | .nilf => true
  | .yl => true
  | .at_ _ _ => true
  | .fn _ => true
  | .clo _ _ => true
  | .ac _ _ => true
  | .r (.b (.h _) _) => true
  | .rh _ _ _ _ _ => true
  | _ => false
/-- What a call may hand back. -/
def okRes : PV → Bool
  | .o _ _ _ => true
  | .tup _ => true
  | p => okArg p
/-- What an operation that only reads comes to. -/
def rdK {ρ : Type} (c : Cx) (o : Oper) (e : Env) (K : PV → Option ρ) : Option ρ :=
  match o.op with
  | .move x => K (cp e x)
  | .pick q x y =>
    match ev e q with
    | .b z =>
      match ev e x, ev e y with
      | .b u, .b v => K (.b (bif z then u else v))
      | _, _ => bif z then K (cp e x) else K (cp e y)
    | _ => none
  | .load t a =>
    match c.kd t, ev e a with
    | some k, .bx d off =>
      if k.isAgg then (if (e.box (.s d)).all (fun p => !isO p) then (asm k ((e.box (.s d)).drop off)).bind fun x => K (ofDen k x.1) else none) else match e.cell (.s d) off with
        | .o _ _ _ => K (.r (.b (.s d) off))
        | .un => none
        | p => K p
    | some k, .p x => x.bind fun q =>
      if k.isAgg then (hasm k e.h q.1 q.2).bind fun y => K (ofDen k y)
      else if o.dst.any c.own then (match k with
        | .list k0 => (hown k0 e.h q.1 q.2).bind fun _ => K (.r (.b (.h q.1) q.2))
        | _ => none)
      else (hcell k e.h q.1 q.2).bind fun y => K (ofDen k y)
    | some k, .ac ps off =>
      if k.isAgg then (asm k (ps.drop off)).bind fun x => K (ofDen k x.1) else match ps.getD off .un with
        | .un => none
        | p => if okRes p then K p else none
    | some k, .rh k1 i o' j path => (hown k1 e.h i o').bind fun xs => (getPath k1 (nth xs j) path).bind fun y => if y.1 = k then K (ofDen y.1 y.2) else none
    | some k, .at_ k' x => if k' = k then K (ofDen k' x) else none
    | some k, .ra n j path =>
      match e.at_ n with
      | .o true k1 xs => (getPath k1 (nth xs j) path).bind fun y => if y.1 = k then K (ofDen y.1 y.2) else none
      | _ => none
    | _, _ => none
  | .nilCheck x =>
    match ev e x with
    | .bx d off => K (.bx d off)
    | .at_ k y => K (.at_ k y)
    | .p x => x.bind fun q => K (.p (some q))
    | .ac ps off => K (.ac ps off)
    | .rh k i o j p => (hown k e.h i o).bind fun _ => K (.rh k i o j p)
    | .ra n j p =>
      match e.at_ n with
      | .o true _ _ => K (.ra n j p)
      | _ => none
    | _ => none
  | .fieldAddr t x f =>
    match c.kd t, ev e x with
    | some k, .bx d off => (fieldAt k f).bind fun q => if q.1.size = 0 then none else K (.bx d (off + q.2))
    | some k, .p x => x.bind fun z => (fieldAt k f).bind fun q => if q.1.size = 0 then none else K (.p (some (z.1, z.2 + q.2)))
    | some k, .ac ps off => (fieldAt k f).bind fun q => if q.1.size = 0 then none else K (.ac ps (off + q.2))
    | some k, .rh k1 i o j p => (pathAt k1 p).bind fun q => if q.1 = k then (fieldAt k f).bind fun z => if z.1.size = 0 then none else (hown k1 e.h i o).bind fun _ => K (.rh k1 i o j (p ++ [f])) else none
    | some k, .at_ k' y => if k' = k then (comp k' y f).bind fun z => if z.1.size = 0 then none else K (.at_ z.1 z.2) else none
    | some k, .ra n j p =>
      match e.at_ n with
      | .o true k1 _ => (pathAt k1 p).bind fun q => if q.1 = k then (fieldAt k f).bind fun z => if z.1.size = 0 then none else K (.ra n j (p ++ [f])) else none
      | _ => none
    | _, _ => none
  | .field t x f =>
    match c.kd t, ev e x with
    | some k, .st k' y => if k' = k then (comp k' y f).bind fun z => K (ofDen z.1 z.2) else none
    | _, _ => none
  | .indexAddr t x ix =>
    match c.kd t, ev e ix with
    | some (.list k0), .i _ n =>
      match cp e x with
      | .r (.b (.h i) o) => (hown k0 e.h i o).bind fun xs => bif decide (0 ≤ n) && decide (n < (xs.length : Int)) then K (.rh k0 i o n []) else none
      | .r m =>
        match e.at_ m with
        | .o true k xs => if k = k0 then bif decide (0 ≤ n) && decide (n < (xs.length : Int)) then K (.ra m n []) else none else none
        | .o false k xs => if k = k0 then bif decide (0 ≤ n) && decide (n < (xs.length : Int)) then K (.at_ k (nth xs n)) else none else none
        | _ => none
      | .l k xs => if k = k0 then bif decide (0 ≤ n) && decide (n < (xs.length : Int)) then K (.at_ k (nth xs n)) else none else none
      | _ => none
    | _, _ => none
  | .index t x ix =>
    match c.kd t, ev e x, ev e ix with
    | some .str, .s s, .i _ n => bif decide (0 ≤ n) && decide (n < (s.size : Int)) then K (.i .u8 (byteAt s n)) else none
    | _, _, _ => none
  | .slice t x lo hi mx =>
    if mx.isSome then none else
    match c.kd t, ev e x with
    | some .str, .s s =>
      bndK (lo.map (ev e)) 0 fun a => bndK (hi.map (ev e)) s.size fun z =>
        bif decide (0 ≤ a) && decide (a ≤ z) && decide (z ≤ (s.size : Int)) then K (.s (s.extract a.toNat z.toNat)) else none
    | _, _ => none
  | .extract x j =>
    match ev e x with
    | .tup ps => match ps[j]? with
      | some q => K (ofDen q.1 q.2)
      | none => none
    | _ => none
  | .build t ps =>
    match c.kd t with
    | some k => if k.isAgg then (fillR k e k.dflt ps.toList).bind fun x => K (.st k x) else none
    | none => none
  | .binOp op t x y _ =>
    match c.kd t with
    | some .ptr => nilP op (ev e x) (ev e y) K
    | some .fn => nilF op (ev e x) (ev e y) K
    | some .err => if isC y then nilE op (ev e x) (ev e y) K else none
    | some k => if k.isAgg then (if c.eq t then eqK k op (ev e x) (ev e y) K else none) else if baseB k (ev e x) then binK op (ev e x) (ev e y) K else none
    | none => none
  | .unOp op _ x => unK op (ev e x) K
  | .convert s t x =>
    match c.kd s, c.kd t, ev e x with
    | some (.int _), some (.int k), .i _ n => K (.i k (k.wrap n))
    | some .str, some .str, .s x => K (.s x)
    | _, _, _ => none
  | .call q =>
    match q.callee with
    | .builtin .len =>
      match c.kd (q.argTypes.getD 0 0), q.args.toList, q.argTypes.size with
      | some .str, [x], 1 => match ev e x with
        | .s s => K (.i .i64 (s.size : Int))
        | _ => none
      | some (.list k0), [x], 1 => listC k0 e x fun xs => K (.i .i64 (xs.2.length : Int))
      | _, _, _ => none
    | .builtin .min => mmK (fun x y => bif decide (y < x) then y else x) (q.args.toList.map (ev e)) K
    | .builtin .max => mmK (fun x y => bif decide (x < y) then y else x) (q.args.toList.map (ev e)) K
    | _ => none
  | .makeFunc (.func f) first caps => if first.size = 0 then (caps.toList.mapM fun x => match ev e x with
      | .p y => some (PV.p y)
      | .ac ps off => some (PV.ac ps off)
      | .clo g cs => some (PV.clo g cs)
      | _ => none).bind fun cs => K (.clo f cs) else none
  | _ => none
  where
  isC : Operand → Bool
    | .const _ => true
    | _ => false
  eqK {ρ : Type} (k : Kd) (op : BinOp) (p q : PV) (K : PV → Option ρ) : Option ρ :=
    match toDen k p, toDen k q, eqD k, op with
    | some x, some y, some f, .eql => K (.b (f x y))
    | some x, some y, some f, .neq => K (.b (!(f x y)))
    | _, _, _, _ => none
  nilP {ρ : Type} (op : BinOp) (p q : PV) (K : PV → Option ρ) : Option ρ :=
    match op, q, p with
    | .eql, .p none, .p x => K (.b (!x.isSome))
    | .eql, .p none, .rh k i o _ _ => (hown k e.h i o).bind fun _ => K (.b false)
    | .neq, .p none, .p x => K (.b x.isSome)
    | .neq, .p none, .rh k i o _ _ => (hown k e.h i o).bind fun _ => K (.b true)
    | _, _, _ => none
  nilF {ρ : Type} (op : BinOp) (p q : PV) (K : PV → Option ρ) : Option ρ :=
    match op, q, p with
    | .eql, .nilf, .clo _ _ => K (.b false)
    | .eql, .nilf, .nilf => K (.b true)
    | .neq, .nilf, .clo _ _ => K (.b true)
    | .neq, .nilf, .nilf => K (.b false)
    | _, _, _ => none
  nilE {ρ : Type} (op : BinOp) (p q : PV) (K : PV → Option ρ) : Option ρ :=
    match op, q, p with
    | .eql, .e false, .e x => K (.b (!x))
    | .neq, .e false, .e x => K (.b x)
    | _, _, _ => none
  bndK {ρ : Type} (x : Option PV) (d : Int) (K : Int → Option ρ) : Option ρ :=
    match x with
    | none => K d
    | some (.i .i64 n) => K n
    | _ => none
  baseB (k : Kd) (p : PV) : Bool :=
    match k, p with
    | .int k, .i k' _ => k == k'
    | .str, .s _ => true
    | .bool, .b _ => true
    | _, _ => false
  mmK {ρ : Type} (f : Int → Int → Int) (l : List PV) (K : PV → Option ρ) : Option ρ :=
    match l with
    | .i k x :: l => (mmF f k x l).bind fun z => K (.i k z)
    | _ => none
  mmF (f : Int → Int → Int) (k : IntKind) (x : Int) : List PV → Option Int
    | [] => some x
    | .i k' y :: l => if k' = k then mmF f k (f x y) l else none
    | _ => none

/-- Does a value refer to no place? -/
def okC : PV → Bool
  | .r _ => false
  | .rh _ _ _ _ _ => false
  | p => okArg p
/-- A slice's or a box's content, as it is from now on that nobody writes. -/
def fzC : PV → PV
  | .o _ k xs => .l k xs
  | .r _ => .un
  | .ra _ _ _ => .un
  | .rh _ _ _ _ _ => .un
  | .bx _ _ => .un
  | .ag _ => .un
  | .tup _ => .un
  | p => p
def toAc (d : Nat) (c : List PV) : PV → PV
  | .bx d' off => if d' = d then .ac c off else .bx d' off
  | p => unbox d p
/-- A box that is no more written. -/
def Env.fzB (e : Env) (d : Nat) : Env :=
  let e1 := e.map (toAc d ((e.b.getD d []).map fzC))
  { e1 with b := e1.b.set d [] }
/-- What a function value has of its surroundings: boxes go along as they stand. -/
def capsK (e : Env) : List Operand → Option (List PV × Env)
  | [] => some ([], e)
  | x :: xs => match ev e x with
    | .p y => (capsK e xs).bind fun q => some (.p y :: q.1, q.2)
    | .ac ps off => (capsK e xs).bind fun q => some (.ac ps off :: q.1, q.2)
    | .clo g cs => (capsK e xs).bind fun q => some (.clo g cs :: q.1, q.2)
    | .bx d off => (capsK (e.fzB d) xs).bind fun q => some (.ac ((e.b.getD d []).map fzC) off :: q.1, q.2)
    | _ => none
def opK {ρ : Type} (c : Cx) (Y : Yd ρ) (o : Oper) (e : Env) (K : Kt ρ) : Option ρ :=
  let put (e : Env) (p : PV) : Option ρ := K (e.putD o.dst p)
  match o.op with
  | .assign x => (mov e x).bind fun p => put p.2 (ownNil c o.type p.1)
  | .alloc t =>
    match c.kd t, o.dst with
    | some k, some d => if c.esc d then K ((e.newH (hzeros (c.own d) k)).put d (.p (some (e.h.length, 0)))) else K ((e.newB d (zeros k)).put d (.bx d 0))
    | _, _ => none
  | .box t x =>
    match c.kd t, o.dst with
    | some .fn, some d => if okB .fn (ev e x) then (if c.esc d then none else K ((e.newB d [ev e x]).put d (.bx d 0))) else none
    | some k, some d =>
      match ev e x with
      | .ag ps => if c.esc d && k.isAgg then (layK e ps).bind fun q => K ((q.2.newH q.1).put d (.p (some (q.2.h.length, 0)))) else none
      | _ => (pub e x).bind fun p => (toDen k p.1).bind fun y =>
        if c.esc d then K ((p.2.newH (split k y)).put d (.p (some (p.2.h.length, 0)))) else K ((p.2.newB d (split k y)).put d (.bx d 0))
    | _, _ => none
  | .load t a =>
    match c.kd t, ev e a with
    | some k, .bx d off =>
      if k.isAgg then (asm k ((e.box (.s d)).drop off)).bind fun x => put (e.shareB d) (ofDen k x.1)
      else rdK c o e (put e)
    | _, _ => rdK c o e (put e)
  | .store t a x =>
    match c.kd t, ev e a with
    | some k, .bx d off =>
      if k.isAgg then (pub e x).bind fun p => (toDen k p.1).bind fun y => if off + k.size ≤ (p.2.box (.s d)).length then K ((((split k y).zipIdx off).foldl (fun e q => e.setB (.s d) q.2 q.1) p.2).putD o.dst .un) else none
      else (mov e x).bind fun p => if okB k (ownNil c t p.1) && decide (off < (p.2.box (.s d)).length) then K ((p.2.putB (.s d) off (ownNil c t p.1)).putD o.dst .un) else none
    | some k, .p x' => x'.bind fun q =>
      if k.isAgg then (pub e x).bind fun p => (toDen k p.1).bind fun y => (hput p.2.h q.1 q.2 (split k y)).bind fun h => K ((p.2.withH h).putD o.dst .un)
      else match k with
        | .list _ => (mov e x).bind fun p => (match ownNil c t p.1 with
          | .o true k' xs => if okB k (.o true k' xs) then (hput p.2.h q.1 q.2 [.o true k' xs]).bind fun h => K ((p.2.withH h).putD o.dst .un) else none
          | .l k' xs => if okB k (.l k' xs) then (hput p.2.h q.1 q.2 [.l k' xs]).bind fun h => K ((p.2.withH h).putD o.dst .un) else none
          | _ => none)
        | .fn => none
        | _ => (pub e x).bind fun p => if okB k p.1 then (hput p.2.h q.1 q.2 [p.1]).bind fun h => K ((p.2.withH h).putD o.dst .un) else none
    | some k, .rh k1 i o' j path =>
      (pub e x).bind fun p => (toDen k p.1).bind fun z =>
        (hown k1 p.2.h i o').bind fun xs => (pathAt k1 path).bind fun q => if q.1 = k then (setPath k1 (nth xs j) path (ofDen k z)).bind fun y => K ((p.2.setB (.h i) o' (.o true k1 (xs.set j.toNat y))).putD o.dst .un) else none
    | some k, .ra (.b (.h _) _) _ _ => none
    | some k, .ra n j path =>
      (pub e x).bind fun p => (toDen k p.1).bind fun z =>
        match p.2.at_ n with
        | .o true k1 xs => (pathAt k1 path).bind fun q => if q.1 = k then (setPath k1 (nth xs j) path (ofDen k z)).bind fun y => K ((p.2.set n (.o true k1 (xs.set j.toNat y))).putD o.dst .un) else none
        | _ => none
    | _, _ => none
  | .slice t x lo hi mx =>
    if mx.isSome then none else
    match c.kd t with
    | some .str => rdK c o e (put e)
    | some (.list k0) => (pub e x).bind fun p =>
      match p.1 with
      | .l k xs =>
        if k = k0 then
        rdK.bndK (lo.map (ev e)) 0 fun a => rdK.bndK (hi.map (ev e)) xs.length fun z =>
          bif decide (0 ≤ a) && decide (a ≤ z) && decide (z ≤ (xs.length : Int)) then put p.2 (.l k ((xs.take z.toNat).drop a.toNat)) else none
        else none
      | _ => none
    | _ => none
  | .build t ps =>
    match c.kd t with
    | some k => if k.isAgg then (if o.dst.any c.own then (agK e (hzeros false k) k ps.toList).bind fun q => put e (.ag q) else (fillK c k e k.dflt ps.toList).bind fun q => put q.2 (.st k q.1)) else none
    | none => none
  | .buildSlice t n ps =>
    match c.kd t with
    | some (.list k) => elemsC k e 0 ps.toList fun xs e1 => if xs.length = n ∧ 0 < k.size ∧ n * k.size ≤ 16777216 then put e1 (.o true k xs) else none
    | _ => none
  | .makeSlice t n m =>
    match c.kd t, ev e n, ev e m with
    | some (.list k), .i .i64 x, .i .i64 y => if 0 < k.size then bif decide (0 ≤ x) && decide (x ≤ y) && decide (y < (lim k : Int)) then put e (.o true k (List.replicate x.toNat k.dflt)) else none else none
    | _, _, _ => none
  | .makeFunc (.func f) first caps => if first.size = 0 then (capsK e caps.toList).bind fun q => put q.2 (.clo f q.1) else none
  | .call q =>
    match q.callee with
    | .value f =>
      match ev e f with
      | .fn g => callG q g [] put
      | .clo g cs => if cs.all okC then callG q g cs put else none
      | .yl => if o.dst.any c.hot then (pubsH c e q.args.toList q.argTypes.toList).bind fun a => Y a.1 a.2.h fun b h => put (a.2.withH h) (.b b) else none
      | _ => none
    | .builtin .append =>
      match q.args.toList, q.argTypes.toList with
      | [x, y], [t, t'] =>
        if t = t' then
        match c.kd t with
        | some (.list k0) =>
          (mov e x).bind fun p =>
            match ownNil c t p.1 with
            | .o m k xs =>
              listC k0 p.2 y fun ys =>
                if h : ys.1 = k ∧ k = k0 ∧ 0 < k.size then bif decide (xs.length + ys.2.length < lim k) then put p.2 (.o m k (xs ++ h.1 ▸ ys.2)) else none else none
            | _ => none
        | _ => none
        else none
      | _, _ => none
    | _ => rdK c o e (put e)
  | _ => rdK c o e (put e)
  where
  okB (k : Kd) (p : PV) : Bool :=
    match k, p with
    | .int k, .i k' _ => k == k'
    | .str, .s _ => true
    | .bool, .b _ => true
    | .list k, .o _ k' _ => decide (k = k')
    | .list k, .l k' _ => decide (k = k')
    | .ptr, .p _ => true
    | .fn, .clo _ _ => true
    | .fn, .yl => true
    | .fn, .nilf => true
    | .err, .e _ => true
    | _, _ => false
  callG (q : Call) (g : Nat) (cs : List PV) (put : Env → PV → Option ρ) : Option ρ :=
    if o.dst.any c.hot then (pubsH c e q.args.toList q.argTypes.toList).bind fun a => c.callH g (a.1 ++ cs) a.2.h fun r h => if okRes r then put (a.2.withH h) r else none
    else if o.dst.any c.cool then (pubsH c e q.args.toList q.argTypes.toList).bind fun a => c.callR g (a.1 ++ cs) a.2.h fun r => if okRes r then put a.2 r else none
    else (pubs (c.raw o) e q.args.toList q.argTypes.toList).bind fun a => c.call g (a.1 ++ cs) fun r => if okRes r then put a.2 r else none
  /- A struct's cells, as they are laid down: the slices of the call's own go along. -/
  layK (e : Env) : List PV → Option (List PV × Env)
    | [] => some ([], e)
    | .r (.t n) :: ps => match e.slot n with
      | .o true k xs => (layK ((e.scrub (.t n)).setT n .un) ps).bind fun q => some (.o true k xs :: q.1, q.2)
      | _ => none
    | .r _ :: _ => none
    | p :: ps => if hokB p && !isO p then (layK e ps).bind fun q => some (p :: q.1, q.2) else none
  /- .. and as they are put together: parts of one cell each. -/
  agK (e : Env) (l : List PV) (k : Kd) : List (Nat × Operand) → Option (List PV)
    | [] => some l
    | (f, y) :: ps => (fieldAt k f).bind fun q => if okA q.1 e (cp e y) && decide (q.2 < l.length) then agK e (l.set q.2 (cp e y)) k ps else none
  okA (k : Kd) (e : Env) (p : PV) : Bool :=
    match p with
    | .r (.t n) => match e.slot n with
      | .o true k' _ => decide (k = .list k')
      | _ => false
    | .l _ _ => false
    | .yl => false
    | .clo _ _ => false
    | p => okB k p

/-- An operation under its guard: the guard's own place holds what it is known to hold. -/
def guardK {ρ : Type} (ops : Array Oper) (o : Oper) (f : Env → Kt ρ → Option ρ) (e : Env) (K : Kt ρ) : Option ρ :=
  match o.guard with
  | none => f e K
  | some (j, want) =>
    match (ops[j]?).bind (·.dst) with
    | some d =>
      match e.slot d with
      | .b x => bif x then (if want then f (e.setT d (.b true)) K else K ((e.setT d (.b true)).putD o.dst (.tup [])))
        else (if want then K ((e.setT d (.b false)).putD o.dst (.tup [])) else f (e.setT d (.b false)) K)
      | .tup _ => K (e.putD o.dst (.tup []))
      | _ => none
    | none => none
/-- Nobody refers to slot d, nor to its box; and nothing is there. -/
def Env.clean (e : Env) (d : Nat) : Env := { (e.scrub (.t d)).scrubB d with t := ((e.scrub (.t d)).scrubB d).t.set d .un, b := ((e.scrub (.t d)).scrubB d).b.set d [] }
/-- A slot that holds a box of its own. -/
def Env.add (e : Env) (d : Nat) (z : List PV) : Env := ⟨e.t.set d (.bx d 0), e.b.set d z, e.h⟩
/-- An operation that only reads, or a plain box that is taken ahead. -/
def tkK {ρ : Type} (c : Cx) (o : Oper) (e : Env) (K : Kt ρ) : Option ρ :=
  match o.op with
  | .alloc t => match c.kd t, o.dst with
    | some k, some d => if c.esc d then none else K ((e.clean d).add d (zeros k))
    | _, _ => none
  | .load t a => match c.kd t, ev e a with
    | some k, .bx d off =>
      if k.isAgg then (asm k ((e.box (.s d)).drop off)).bind fun x => K ((e.shareB d).putD o.dst (ofDen k x.1))
      else rdK c o e fun p => K (e.putD o.dst p)
    | _, _ => rdK c o e fun p => K (e.putD o.dst p)
  | _ => rdK c o e fun p => K (e.putD o.dst p)
/-- Is it an operation that only reads, and always yields a value? -/
def totB (e : Env) (o : Oper) : Bool :=
  o.dst.isSome && match o.op with
  | .move _ => true
  | .binOp op _ x y _ => match ev e x, ev e y with
    | .i _ _, .i _ _ => match op with
      | .quo => false
      | .rem => false
      | .shl => false
      | .shr => false
      | _ => true
    | .b _, .b _ => true
    | _, _ => false
  | .fieldAddr _ x _ => match ev e x with
    | .bx _ _ => true
    | .at_ _ _ => true
    | .ac _ _ => true
    | _ => false
  | .load _ x => match ev e x with
    | .bx _ _ => true
    | .at_ _ _ => true
    | .ac _ _ => true
    | _ => false
  | .call q => match q.callee with
    | .builtin .len => true
    | _ => false
  | _ => false
/-- Such operations, one by one. -/
def segE (c : Cx) (ops : Array Oper) : List Nat → Env → Option Env
  | [], e => some e
  | i :: l, e => match ops[i]? with
    | some o => if totB e o then (rdK c o e some).bind fun p => segE c ops l (e.putD o.dst p) else none
    | none => none
/-- .. not done. -/
def skipE (ops : Array Oper) : List Nat → Env → Env
  | [], e => e
  | i :: l, e => match ops[i]? with
    | some o => skipE ops l (e.putD o.dst (.tup []))
    | none => e
/-- .. forgotten. -/
def wipeE (ops : Array Oper) : List Nat → Env → Env
  | [], e => e
  | i :: l, e => match ops[i]? with
    | some o => wipeE ops l (e.putD o.dst .un)
    | none => e
/-- How many more stand under the same guard. -/
def sameG (ops : Array Oper) (g : Nat × Bool) : List Nat → Nat
  | [] => 0
  | i :: l => match (ops[i]?).bind (·.guard) with
    | some g' => if g' = g then sameG ops g l + 1 else 0
    | none => 0
/-- Does operation i stand under a guard that d holds, and leave d? -/
def underB (ops : Array Oper) (g : Nat × Bool) (d : Nat) (i : Nat) : Bool :=
  match ops[i]? with
  | some o => decide (o.guard = some g) && o.dst != some d
  | none => false
def arm (b : Bool) (e1 e2 : Env) (x : Operand) : PV := if b then ev e1 x else ev e2 x
/-- Operations under one guard, and the choice behind them, taken as one: what is then known, and how many more are taken. -/
def mergeAt (c : Cx) (ops : Array Oper) (o : Oper) (i : Nat) (l : List Nat) (e : Env) : Option (Env × Nat) :=
  match o.guard with
  | none => none
  | some g =>
    match (ops[g.1]?).bind (·.dst) with
    | none => none
    | some d =>
      match e.slot d, l.drop (sameG ops g l) with
      | .b x, p :: _ =>
        if (i :: l.take (sameG ops g l)).all (underB ops g d) then
          match ops[p]? with
          | none => none
          | some op =>
            match op.op, op.guard with
            | .pick (.tmp d') y z, none =>
              if d' = d then
                (segE c ops (i :: l.take (sameG ops g l)) e).bind fun eT =>
                  match arm g.2 eT (skipE ops (i :: l.take (sameG ops g l)) e) y, arm g.2 (skipE ops (i :: l.take (sameG ops g l)) e) eT z with
                  | .b u, .b v => some ((wipeE ops (i :: l.take (sameG ops g l)) e).putD op.dst (.b (bif x then u else v)), sameG ops g l + 1)
                  | _, _ => none
              else none
            | _, _ => none
        else none
      | _, _ => none
/-- A region's operations, in an order; the first ones are taken already. -/
def opsK {ρ : Type} (c : Cx) (Y : Yd ρ) (ops : Array Oper) : Nat → List Nat → Env → Kt ρ → Option ρ
  | _, [], e, K => K e
  | n + 1, _ :: l, e, K => opsK c Y ops n l e K
  | 0, i :: l, e, K =>
    match ops[i]? with
    | some o => match mergeAt c ops o i l e with
      | some q => opsK c Y ops q.2 l q.1 K
      | none => guardK ops o (opK c Y o) e fun e => opsK c Y ops 0 l e K
    | none => none
/-- Does it read alone, by the look of it? -/
def reads (o : Oper) : Bool :=
  match o.op with
  | .move _ | .pick _ _ _ | .load _ _ | .nilCheck _ | .fieldAddr _ _ _ | .field _ _ _ | .indexAddr _ _ _ | .index _ _ _ | .slice _ _ _ _ _ | .extract _ _ | .binOp _ _ _ _ _ | .unOp _ _ _ | .convert _ _ _ | .build _ _ | .makeFunc _ _ _ => true
  | .call q => match q.callee with
    | .builtin .len => true
    | .builtin .min => true
    | .builtin .max => true
    | _ => false
  | _ => false
/-- Does what it reads hang on memory? -/
def isLoad (o : Oper) : Bool :=
  match o.op with
  | .load _ _ => true
  | _ => false
/-- Does it leave what stood? -/
def calm (c : Cx) (o : Oper) : Bool :=
  match o.op with
  | .store _ _ _ => false
  | .call q => match q.callee with
    | .builtin .append => false
    | .value _ => !o.dst.any c.hot
    | _ => true
  | _ => true
/-- .. of all code. -/
def calmC (c : Cx) : Code → Bool
  | .region _ ops _ => ops.toList.all (calm c)
  | .seq a b => calmC c a && calmC c b
  | .cond _ a b => calmC c a && calmC c b
  | .block _ a => calmC c a
  | .loop a => calmC c a
  | .rangeFunc _ _ _ _ => false
  | _ => true
def looksAt (ops : Array Oper) (o : Oper) : List Nat :=
  (o.op.operands.toList.filterMap fun | .tmp t => some t | _ => none) ++
  (match o.guard with
   | some (g, _) => ((ops[g]?).bind (·.dst)).toList
   | none => [])
def apart (ops : Array Oper) (x y : Oper) : Bool :=
  (match x.dst with
   | some d => !(looksAt ops y).contains d && y.dst != some d
   | none => true) &&
  (match y.dst with
   | some d => !(looksAt ops x).contains d
   | none => true)
def binds (e : Edge) : Bool :=
  match e.ground with
  | .textOnly _ => false
  | .gcOnly _ => false
  | _ => true
def ready (ops : Array Oper) (done : List Nat) : List Nat :=
  (List.range ops.size).filter fun i => !done.contains i && match ops[i]? with
    | some o => o.after.toList.all fun e => !binds e || done.contains e.on
    | none => false
/-- Operation i, and those that wait for it, directly or through others. -/
def waits (ops : Array Oper) (i : Nat) : List Nat :=
  (List.range ops.size).foldl (fun D j => match ops[j]? with
    | some oj => if oj.after.toList.any (fun e => binds e && D.contains e.on) then j :: D else D
    | none => D) [i]
/-- Does operation i wait for a? -/
def dep (ops : Array Oper) (i a : Nat) : Bool :=
  match ops[i]? with
  | some o => o.after.toList.any fun e => binds e && e.on == a
  | none => false
def apartI (ops : Array Oper) (i a : Nat) : Bool :=
  match ops[i]?, ops[a]? with
  | some x, some y => apart ops x y
  | _, _ => false
/-- Memory that a load reads, and that no store to another box turns. -/
def fixedB (e : Env) (x : Operand) : Bool :=
  match ev e x with
  | .bx d _ => !(e.box (.s d)).isEmpty
  | .at_ k _ => decide (0 < k.size)
  | .ac ps _ => !ps.isEmpty
  | .ra n _ _ => match e.at_ n with
    | .o true _ _ => true
    | _ => false
  | _ => false
/-- Is the box at slot q another one? -/
def otherB (e : Env) (x : Operand) (q : Nat) : Bool :=
  match e.slot q with
  | .bx d' _ => !(e.box (.s d')).isEmpty && match ev e x with
    | .bx d _ => !Nat.beq d d'
    | .at_ _ _ => true
    | .ac _ _ => true
    | .ra _ _ _ => true
    | _ => false
  | _ => false
def isAllocB (ops : Array Oper) (k : Nat) : Bool :=
  match ops[k]? with
  | some o => o.guard.isNone && match o.op with
    | .alloc _ => true
    | _ => false
  | none => false
def dstIs (ops : Array Oper) (k q : Nat) : Bool :=
  match ops[k]? with
  | some o => o.dst == some q
  | none => false
/-- May a load come ahead of a store that has not come up? -/
def quiet (ops : Array Oper) (A done : List Nat) (e : Env) (oi : Oper) (j : Nat) (oj : Oper) : Bool :=
  match oi.op, oj.op with
  | .load _ x, .store _ (.tmp q) _ =>
    fixedB e x && decide (q < e.t.length) && A.all (fun k => !dstIs ops k q || dep ops j k) &&
      ((List.range ops.size).all fun k => done.contains k || !dstIs ops k q || (isAllocB ops k && dep ops j k)) &&
      (((List.range ops.size).any fun k => !done.contains k && dstIs ops k q) || otherB e x q)
  | _, _ => false
/-- Is it known that an operation is not wanted? -/
def unwanted (ops : Array Oper) (e : Env) (o : Oper) : Bool :=
  match o.guard with
  | some (j, want) => match (ops[j]?).bind (·.dst) with
    | some d => match e.slot d with
      | .b x => x != want
      | .tup _ => true
      | _ => false
    | none => false
  | none => false
/-- May operation i be taken ahead of all that have not come up? If it may: ahead of which this hangs on where they store to. -/
def free (c : Cx) (ops : Array Oper) (done : List Nat) (i : Nat) : Option (List Nat) :=
  match ops[i]? with
  | none => none
  | some oi => let D := waits ops i
    if reads oi && D.all (fun j => !done.contains j) && (List.range ops.size).all fun j => done.contains j || D.contains j || match ops[j]? with
      | some oj => apart ops oi oj
      | none => true
    then some (if isLoad oi then (List.range ops.size).filter fun j => !done.contains j && !D.contains j && match ops[j]? with
      | some oj => !calm c oj
      | none => false else [])
    else none
/-- A plain box, that may be taken ahead of others. -/
def ahead (c : Cx) (ops : Array Oper) (i : Nat) : Bool :=
  match ops[i]? with
  | some o => o.guard.isNone && match o.op, o.dst with
    | .alloc t, some d => !c.esc d && (c.kd t).isSome
    | _, _ => false
  | none => false
/-- A step of a region: which operation; how (0: as it comes up, 1: ahead of others, 2: a plain box, ahead of others); ahead of which stores; what is known then. -/
structure Stp where
  i : Nat
  m : Nat
  js : List Nat
  A : List Nat
  done : List Nat
def isStoreB (ops : Array Oper) (j : Nat) : Bool :=
  match ops[j]? with
  | some o => match o.op with
    | .store _ _ _ => true
    | _ => false
  | none => false
/-- Which one is taken ahead: one that hangs on nothing; on stores alone; a plain box; any. -/
def pick (c : Cx) (ops : Array Oper) (A done : List Nat) (rs : List Nat) : Option Stp :=
  let ok i := A.all fun a => !dep ops i a && apartI ops i a
  let f (g : List Nat → Bool) (i : Nat) : Option Stp := match free c ops done i with
    | some js => if g js && ok i then some ⟨i, 1, js, A, done⟩ else none
    | none => none
  (rs.findSome? (f fun js => js.isEmpty)).or ((rs.findSome? (f fun js => js.all (isStoreB ops))).or
    ((rs.findSome? fun i => if ahead c ops i && ok i then some ⟨i, 2, [], A, done⟩ else none).or (rs.findSome? (f fun _ => true))))
/-- An order that stands for all orders; A: boxes that were taken ahead, and that others may still come ahead of. -/
def plan (c : Cx) (ops : Array Oper) : Nat → List Nat → List Nat → Option (List Stp)
  | 0, _, done => if ready ops done = [] then some [] else none
  | n + 1, A, done =>
    match ready ops done with
    | [] => some []
    | [i] => if A.all (fun a => dep ops i a || apartI ops i a) then (plan c ops n (A.filter fun a => !dep ops i a) (i :: done)).map fun l => ⟨i, 0, [], A, done⟩ :: l else none
    | rs => (pick c ops A done rs).bind fun s => (plan c ops n (if Nat.beq s.m 2 then s.i :: A else A) (s.i :: done)).map fun l => s :: l
def someOp {ρ : Type} (ops : Array Oper) (i : Nat) (f : Oper → Option ρ) : Option ρ :=
  match ops[i]? with
  | some o => f o
  | none => none
/-- Is it a call that may turn the heap? -/
def hotB (c : Cx) (o : Oper) : Bool :=
  match o.op with
  | .call q => match q.callee with
    | .value _ => o.dst.any c.hot
    | _ => false
  | _ => false
/-- A load's address, its type, where its value goes; and is it one of the heap's? -/
structure Ld where
  q : Nat
  t : Nat
  d : Nat
  m : Bool
  deriving DecidableEq
def ldOf (o : Oper) (m : Bool) : Option Ld :=
  match o.op, o.dst with
  | .load t (.tmp q), some d => some ⟨q, t, d, m⟩
  | _, _ => none
def ptrAt (e : Env) (q : Nat) : Bool :=
  match e.slot q with
  | .p _ => true
  | _ => false
def addrOf (o : Oper) : Nat :=
  match o.op with
  | .load _ (.tmp q) => q
  | _ => 0
/-- Which loads a call is known to leave: those that were taken ahead of it. -/
def prOf (ops : Array Oper) (l : List Stp) (e : Env) (j : Nat) : List Ld := l.filterMap fun s =>
  if Nat.beq s.m 1 && s.js.contains j then (ops[s.i]?).bind fun o => ldOf o (ptrAt e (addrOf o)) else none
def boxAt (e : Env) (q : Nat) : Bool :=
  match e.slot q with
  | .bx d _ => !(e.box (.s d)).isEmpty
  | .at_ k _ => decide (0 < k.size)
  | .ac ps _ => !ps.isEmpty
  | _ => false
def sameP (x y : Option (Option (Nat × Nat))) : Bool := decide (x = y)
def sameI (x y : Option Int) : Bool := decide (x = y)
def sameB (x y : Option Bool) : Bool := decide (x = y)
/-- What was loaded from the heap is still there. -/
def echoB (c : Cx) (e : Env) (l : Ld) : Bool :=
  match c.kd l.t, e.slot l.q, e.slot l.d with
  | some .ptr, .p x, .p y => sameP (x.bind fun z => hcell .ptr e.h z.1 z.2) (some y)
  | some (.int k), .p x, .i k' y => decide (k' = k) && sameI (x.bind fun z => hcell (.int k) e.h z.1 z.2) (some y)
  | some .bool, .p x, .b y => sameB (x.bind fun z => hcell .bool e.h z.1 z.2) (some y)
  | _, _, _ => false
def oneK : Option Kd → Bool
  | some .ptr => true
  | some (.int _) => true
  | some .bool => true
  | _ => false
/-- May a load come ahead of a call that may turn the heap? -/
def hquiet (c : Cx) (ops : Array Oper) (pr : Nat → List Ld) (A done : List Nat) (e : Env) (oi : Oper) (j : Nat) (oj : Oper) : Bool :=
  match ldOf oi false with
  | some l => hotB c oj && decide (l ∈ pr j) && A.all (fun k => !dstIs ops k l.q && !dstIs ops k l.d) && ((List.range ops.size).all fun k => done.contains k || !dstIs ops k l.q) && boxAt e l.q
  | none => false
/-- .. a load of the heap's. -/
def equiet (c : Cx) (ops : Array Oper) (pr : Nat → List Ld) (A done : List Nat) (e : Env) (i : Nat) (oi : Oper) (j : Nat) (oj : Oper) : Bool :=
  match ldOf oi true with
  | some l => hotB c oj && decide (l ∈ pr j) && A.all (fun k => !dstIs ops k l.q && !dstIs ops k l.d) && ((List.range ops.size).all fun k => done.contains k || !dstIs ops k l.q) && oi.guard.isNone && ptrAt e l.q && oneK (c.kd l.t) &&
    !Nat.beq l.q l.d && decide (l.d < e.t.length) && (List.range ops.size).all fun k => done.contains k || Nat.beq k i || !dstIs ops k l.d
  | none => false
def dynOK (c : Cx) (ops : Array Oper) (pr : Nat → List Ld) (A done : List Nat) (e : Env) (o : Oper) (j : Nat) : Bool :=
  unwanted ops e o || match ops[j]? with
    | some oj => quiet ops A done e o j oj || hquiet c ops pr A done e o j oj
    | none => false
/-- All those ahead of which a load of the heap's is taken are calm, or calls. -/
def dynE (c : Cx) (ops : Array Oper) (pr : Nat → List Ld) (A done : List Nat) (e : Env) (i : Nat) (o : Oper) (j : Nat) : Bool :=
  match ops[j]? with
  | some oj => equiet c ops pr A done e i o j oj
  | none => false
/-- A call: what was loaded ahead of it is left by it. -/
def leftB (c : Cx) (ops : Array Oper) (A : List Nat) (o : Oper) (e e1 : Env) (l : Ld) : Bool :=
  A.all (fun k => !dstIs ops k l.q) && bif l.m then A.all (fun k => !dstIs ops k l.d) && o.dst != some l.q && echoB c e1 l else boxAt e l.q
def stepsK {ρ : Type} (c : Cx) (Y : Yd ρ) (ops : Array Oper) (pr : Nat → List Ld) : List Stp → Env → Kt ρ → Option ρ
  | [], e, K => K e
  | s :: l, e, K => someOp ops s.i fun o =>
    if Nat.beq s.m 0 then guardK ops o (opK c Y o) e fun e1 => bif !hotB c o || (pr s.i).all (leftB c ops s.A o e e1) then stepsK c Y ops pr l e1 K else none
    else if s.js.all (dynOK c ops pr s.A s.done e o) || s.js.all (dynE c ops pr s.A s.done e s.i o) then guardK ops o (tkK c o) e fun e => stepsK c Y ops pr l e K else none
def plainOps (ops : Array Oper) : Bool := ops.toList.all fun o => match o.op with | .select _ _ => false | .defer _ => false | _ => true
inductive Out where
  | normal | exit (id : Nat) | ret
/-- Behind a block. -/
def Cx.blk {ρ : Type} (c : Cx) (id : Nat) (K : Out → Env → Option ρ) : Out → Env → Option ρ
  | .exit i, e => if i = id then K .normal (e.only (c.live id)) else K (.exit i) e
  | x, e => K x e
/-- A state in which nothing of the call's own is written any more but the heap. -/
def fzP (e : Env) : PV → PV
  | .bx d off => .ac ((e.b.getD d []).map fzC) off
  | .r (.b (.h i) o) => .r (.b (.h i) o)
  | .r n => match e.at_ n with
    | .o _ k xs => .l k xs
    | _ => .un
  | p => fzC p
def Env.fz (e : Env) : Env := ⟨e.t.map (fzP e), List.replicate e.b.length [], e.h⟩
def Env.enter (e : Env) : List Nat → List PV → Env
  | t :: ts, p :: ps => (e.setT t p).enter ts ps
  | _, _ => e
/-- By which blocks' exits a code may be left, and may it be left by a return? -/
def outs : Code → List Nat
  | .seq a b => outs a ++ outs b
  | .cond _ a b => outs a ++ outs b
  | .block id a => (outs a).filter (fun i => i != id)
  | .loop a => outs a
  | .exit i => [i]
  | .rangeFunc _ _ _ b => outs b
  | _ => []
def rets : Code → Bool
  | .seq a b => rets a || rets b
  | .cond _ a b => rets a || rets b
  | .block _ a => rets a
  | .loop a => rets a
  | .ret => true
  | .rangeFunc _ _ _ b => rets b
  | _ => false
/-- Is there a loop over a function in it? -/
def nests : Code → Bool
  | .seq a b => nests a || nests b
  | .cond _ a b => nests a || nests b
  | .block _ a => nests a
  | .loop a => nests a
  | .scope a => nests a
  | .rangeFunc _ _ _ _ => true
  | _ => false
/-- A value that has no yield in it. -/
def noYl0 : PV → Bool
  | .yl => false
  | .clo _ _ => false
  | .ac _ _ => false
  | _ => true
def noYl : PV → Bool
  | .yl => false
  | .clo _ cs => cs.all noYl0
  | .ac ps _ => ps.all noYl0
  | _ => true
/-- How a loop over a function was left. -/
def endB {ρ : Type} (b : Code) (n : Nat) (K : Out → Option ρ) : Option ρ :=
  bif Nat.beq n 0 then K .normal else
    bif rets b && Nat.beq n 2 then K .ret else
      (outs b).foldr (fun i r => bif Nat.beq n (i + 3) then K (.exit i) else r) none
/-- Code, with n rounds for each of its loops; bl: the block that it stands in. -/
def codeK {ρ : Type} (c : Cx) (Y : Yd ρ) (n : Nat) : Nat → Code → Env → (Out → Env → Option ρ) → Option ρ
  | _, .skip, e, K => K .normal e
  | _, .region _ ops false, e, K => opsK c Y ops 0 (List.range ops.size) e (K .normal)
  | _, .region _ ops true, e, K => if plainOps ops = true then match plan c ops ops.size [] [] with
    | some l => stepsK c Y ops (prOf ops l e) l e (K .normal)
    | none => none else none
  | bl, .seq a b, e, K => codeK c Y n bl a e fun x e => match x with
    | .normal => codeK c Y n bl b e K
    | .exit i => K (.exit i) e
    | .ret => K .ret e
  | bl, .cond q a b, e, K => match ev e q with
    | .b x => bif x then codeK c Y n bl a e K else codeK c Y n bl b e K
    | _ => none
  | _, .block id a, e, K => codeK c Y n id a e (c.blk id K)
  | bl, .loop a, e, K => Nat.rec (fun _ => none) (fun _ it e => codeK c Y n bl a e fun x e => match x with
    | .normal => it (e.only (c.live bl))
    | .exit i => K (.exit i) e
    | .ret => K .ret e) n (e.only (c.live bl))
  | _, .exit id, e, K => K (.exit id) e
  | _, .ret, e, K => K .ret e
  | bl, .rangeFunc g ps a b, e, K =>
    let it (f : Nat) (cs : List PV) : Option ρ :=
      c.iter f cs (e.h ++ [.lp 0])
        (fun as h k => bif readyB h e.h.length && (Nat.beq as.length ps.size && as.all noYl) then
          codeK c Y n bl a ((e.fz.withH h).enter ps.toList as) fun x e1 => match x with
          | .normal => bif readyB e1.h e.h.length then codeK c Y n bl b (e1.withH (e1.h.set e.h.length (.lp 1))) fun x e2 =>
            bif busyB e2.h e.h.length then match x with
            | .normal => k true (e2.h.set e.h.length (.lp 0))
            | .ret => k false (e2.h.set e.h.length (.lp 2))
            | .exit i => k false (e2.h.set e.h.length (.lp (i + 3))) else none else none
          | _ => none else none)
        (fun h => endB b (lpOf h e.h.length) fun x => K x (e.fz.withH (h.set e.h.length (.c []))))
    if nests a || nests b then none else
    match ev e g with
    | .clo f cs => if cs.all (fun p => okC p && noYl p) then it f cs else none
    | .fn f => it f []
    | _ => none
  | _, _, _, _ => none
/-- m rounds of a loop's body. -/
def iterK {ρ : Type} (c : Cx) (Y : Yd ρ) (n bl : Nat) (a : Code) (K : Out → Env → Option ρ) (m : Nat) (e : Env) : Option ρ :=
  Nat.rec (fun _ => none) (fun _ it e => codeK c Y n bl a e fun x e => match x with
    | .normal => it (e.only (c.live bl))
    | .exit i => K (.exit i) e
    | .ret => K .ret e) m e
/-- The piece of code at a path, the block that it stands in, and what comes behind it. In a loop's body the path tells how many rounds are left. -/
def pieceK {ρ : Type} (c : Cx) (Y : Yd ρ) (n : Nat) : Nat → Code → (Out → Env → Option ρ) → List Nat → Nat × Code × (Out → Env → Option ρ)
  | bl, .seq a b, K, p :: ps => if p = 0 then pieceK c Y n bl a (fun x e => match x with
      | .normal => codeK c Y n bl b e K
      | .exit i => K (.exit i) e
      | .ret => K .ret e) ps
    else pieceK c Y n bl b K ps
  | bl, .cond _ a b, K, p :: ps => if p = 0 then pieceK c Y n bl a K ps else pieceK c Y n bl b K ps
  | _, .block id a, K, _ :: ps => pieceK c Y n id a (c.blk id K) ps
  | bl, .loop a, K, m :: ps => pieceK c Y n bl a (fun x e => match x with
      | .normal => iterK c Y n bl a K m (e.only (c.live bl))
      | .exit i => K (.exit i) e
      | .ret => K .ret e) ps
  | bl, a, K, _ => (bl, a, K)
/-- What a function hands back: its results' places and types. -/
def resK (c : Cx) : Env → List (ResultVar × Nat) → Option (List ((k : Kd) × k.den) × Env)
  | e, [] => some ([], e)
  | e, (.tmp t, ty) :: l =>
    match c.kd ty with
    | some k => (pub e (.tmp t)).bind fun p => (toDen k p.1).bind fun x => (resK c p.2 l).bind fun q => some (⟨k, x⟩ :: q.1, q.2)
    | none => none
  | e, (.cell a t, _) :: l =>
    match c.kd t, e.slot a with
    | some k, .bx d off => (asm k ((e.box (.s d)).drop off)).bind fun x => (resK c (e.shareB d) l).bind fun q => some (⟨k, x.1⟩ :: q.1, q.2)
    | some k, .p x => x.bind fun z => (hasm k e.h z.1 z.2).bind fun y => (resK c e l).bind fun q => some (⟨k, y⟩ :: q.1, q.2)
    | _, _ => none
def doneK.one (c : Cx) (e : Env) (t ty : Nat) : Option PV :=
  (mov e (.tmp t)).bind fun p => match ownNil c ty p.1 with
    | .o m k xs => some (.o m k xs)
    | .clo f cs => some (.clo f cs)
    | .rh k i o j q => some (.rh k i o j q)
    | .r (.b (.h i) o) => some (.r (.b (.h i) o))
    | p => match c.kd ty with
      | some k => (toDen k p).map fun x => ofDen k x
      | none => none
def doneK (c : Cx) (fn : Func) (e : Env) : Option PV :=
  match fn.results.toList, fn.resultTypes.toList with
  | [.tmp t], [ty] => doneK.one c e t ty
  | l, ts => if l.length = ts.length then (resK c e (l.zip ts)).bind fun ps => match ps.1 with
    | [q] => some (ofDen q.1 q.2)
    | ps => some (.tup ps) else none
/-- .. with what comes behind. -/
def resC {ρ : Type} (c : Cx) : Env → List (ResultVar × Nat) → (List ((k : Kd) × k.den) → Option ρ) → Option ρ
  | _, [], K => K []
  | e, (.tmp t, ty) :: l, K =>
    match c.kd ty with
    | some k => (pub e (.tmp t)).bind fun p => (toDen k p.1).bind fun x => resC c p.2 l fun xs => K (⟨k, x⟩ :: xs)
    | none => none
  | e, (.cell a t, _) :: l, K =>
    match c.kd t, e.slot a with
    | some k, .bx d off => (asm k ((e.box (.s d)).drop off)).bind fun x => resC c (e.shareB d) l fun xs => K (⟨k, x.1⟩ :: xs)
    | some k, .p x => x.bind fun z => (hasm k e.h z.1 z.2).bind fun y => resC c e l fun xs => K (⟨k, y⟩ :: xs)
    | _, _ => none
def doneC {ρ : Type} (c : Cx) (fn : Func) (e : Env) (K : PV → Option ρ) : Option ρ :=
  match fn.results.toList, fn.resultTypes.toList with
  | [.tmp t], [ty] => (doneK.one c e t ty).bind K
  | l, ts => if l.length = ts.length then resC c e (l.zip ts) fun ps => match ps with
    | [q] => K (ofDen q.1 q.2)
    | ps => K (.tup ps) else none
def Func.code (fn : Func) : Code := fn.body.getD .skip
def endK {ρ : Type} (c : Cx) (fn : Func) (fin : PV → Hp → Option ρ) : Out → Env → Option ρ
  | .exit _, _ => none
  | _, e => doneC c fn e fun p => fin p e.h
/-- A function's run, with n rounds for each loop; fin: what becomes of what it hands back. -/
def run {ρ : Type} (c : Cx) (Y : Yd ρ) (n : Nat) (fn : Func) (args : List PV) (h : Hp) (fin : PV → Hp → Option ρ) : Option ρ :=
  codeK c Y n 0 (Func.code fn) ⟨args ++ List.replicate (fn.ntmps - args.length) .un, List.replicate (args.length + (fn.ntmps - args.length)) [], h⟩ (endK c fn fin)
/-- The loop at a path of a function, m rounds of it. -/
def loopN {ρ : Type} (c : Cx) (Y : Yd ρ) (n : Nat) (fn : Func) (fin : PV → Hp → Option ρ) (ps : List Nat) (m : Nat) (e : Env) : Option ρ :=
  match pieceK c Y n 0 (Func.code fn) (endK c fn fin) ps with
  | (bl, .loop a, K) => iterK c Y n bl a K m e
  | _ => none
/-- The piece at a path. -/
def pieceN {ρ : Type} (c : Cx) (Y : Yd ρ) (n : Nat) (fn : Func) (fin : PV → Hp → Option ρ) (ps : List Nat) (e : Env) : Option ρ :=
  let q := pieceK c Y n 0 (Func.code fn) (endK c fn fin) ps
  codeK c Y n q.1 q.2.1 e q.2.2

end Go.Pv
