/-
  An abstract machine over the model's Code: a frame is a list of slots that are known, struct variables that no one else sees are registers ('boxes'), the visible heap is a map from blocks to objects. This text has the definitions; the next one proves that what it shows holds of the model.
-/
import Derived.WalkKit
namespace Go.Sx
open Go

/-- What a slot holds: a value of the model, or the address of a cell of a box. -/
inductive AV where
  | val (v : Value)
  | box (k off : Nat)

abbrev Fr := List (Nat × AV)
abbrev Bx := List (Nat × List Value)
abbrev Hp := Nat → Option Obj

def lk : Fr → Nat → Option AV
  | [], _ => none
  | (k, v) :: r, j => bif k == j then some v else lk r j
def lkb : Bx → Nat → Option (List Value)
  | [], _ => none
  | (k, c) :: r, j => bif k == j then some c else lkb r j
def setb : Bx → Nat → List Value → Bx
  | [], _, _ => []
  | (k, c) :: r, j, x => bif k == j then (k, x) :: r else (k, c) :: setb r j x

def ev (fr : Fr) : Operand → Option AV
  | .tmp t => lk fr t
  | .const v => some (.val v)
  | .global g => some (.val (.pointer (some ⟨g, 0, none⟩)))
  | .func f => some (.val (.func (.func f) #[] #[]))

def put (fr : Fr) (d : Option Nat) (v : AV) : Fr :=
  match d with
  | none => fr
  | some i => (i, v) :: fr

def aval (x : Option AV) (K : AV → Prop) : Prop :=
  match x with
  | some v => K v
  | none => False
def vval (x : Option AV) (K : Value → Prop) : Prop :=
  match x with
  | some (.val v) => K v
  | _ => False
def cval (x : Option (List Value)) (K : List Value → Prop) : Prop :=
  match x with
  | some v => K v
  | none => False

def mapv (x : Option Value) : Option AV := x.map .val
def un1 (x : Option AV) (f : Value → Option Value) : Option AV :=
  match x with
  | some (.val a) => mapv (f a)
  | _ => none
def bin2 (x y : Option AV) (f : Value → Value → Option Value) : Option AV :=
  match x, y with
  | some (.val a), some (.val b) => mapv (f a b)
  | _, _ => none

/-- The values of a list of operands, none of them the address of a box. -/
def vals : List (Option AV) → Option (List Value)
  | [] => some []
  | some (.val v) :: r => (vals r).map (v :: ·)
  | _ :: _ => none

/-! ### What is asked of the program's types -/
def tyS (P : Program) (t : Nat) : Option (Bool × Nat) :=
  match P.info? t, P.underlying t with
  | some i, some (.struct _) => some (true, i.size)
  | some i, some (.array _ _) => some (true, i.size)
  | some i, some _ => some (false, i.size)
  | _, _ => none
/-- a struct's fields: where each begins and how many cells it has -/
def plcs (P : Program) (t : Nat) : Option (List (Nat × Nat)) :=
  match P.underlying t with
  | some (.struct fs) => fs.toList.mapM fun f => (P.info? f.type).map fun i => (f.offset, i.size)
  | _ => none
def fOff (pl : Option (List (Nat × Nat))) (i : Nat) : Option Nat :=
  match pl with
  | some l => match l[i]? with
    | some (o, _ + 1) => some o
    | _ => none
  | none => none
/-- where a struct's field lies that has one cell -/
def flO (P : Program) (t i : Nat) : Option Nat :=
  match P.underlying t with
  | some (.struct fs) => match fs[i]? with
    | some f => if tyS P f.type = some (false, 1) then some f.offset else none
    | none => none
  | _ => none
/-- such a field of a struct's value -/
def vfld (o : Option Nat) (v : Value) : Option Value :=
  match o, v with
  | some o, .agg cs => cs[o]?
  | _, _ => none
def elS (P : Program) (t : Nat) : Option Nat :=
  match P.underlying t with
  | some (.slice e) => (P.info? e).map (·.size)
  | _ => none
def zeroC (P : Program) (t : Nat) : Option (List Value) := ((P.info? t).bind (·.zero)).map (·.cells.toList)
def isStr (P : Program) (t : Nat) : Bool := match P.underlying t with | some .string => true | _ => false
def isBoolT (P : Program) (t : Nat) : Bool := match P.underlying t with | some .bool => true | _ => false
/-- the kind of an integer type -/
def intT (P : Program) (t : Nat) : Option IntKind := match P.underlying t with | some (.int k) => some k | _ => none

/-! ### Operations that look at slots and boxes alone -/
def vint (op : BinOp) (k : IntKind) (a b : Int) : Option Value :=
  match op with
  | .add => some (.int k (k.wrap (a + b)))
  | .sub => some (.int k (k.wrap (a - b)))
  | .mul => some (.int k (k.wrap (a * b)))
  | .quo => if b = 0 then none else some (.int k (k.wrap (a.tdiv b)))
  | .rem => if b = 0 then none else some (.int k (a.tmod b))
  | .and => some (.int k (k.wrap ((BitVec.ofInt k.bits a &&& BitVec.ofInt k.bits b).toNat : Int)))
  | .or => some (.int k (k.wrap ((BitVec.ofInt k.bits a ||| BitVec.ofInt k.bits b).toNat : Int)))
  | .xor => some (.int k (k.wrap ((BitVec.ofInt k.bits a ^^^ BitVec.ofInt k.bits b).toNat : Int)))
  | .eql => some (.bool (decide (a = b)))
  | .neq => some (.bool (!decide (a = b)))
  | .lss => some (.bool (decide (a < b)))
  | .leq => some (.bool (decide (a ≤ b)))
  | .gtr => some (.bool (decide (b < a)))
  | .geq => some (.bool (decide (b ≤ a)))
  | _ => none
def vstr (op : BinOp) (a b : ByteArray) : Option Value :=
  match op with
  | .add => if ((a.size + b.size : Nat) : Int) ≤ IntKind.i64.max then some (.string (a ++ b)) else none
  | .eql => some (.bool (decide (a = b)))
  | .neq => some (.bool (!decide (a = b)))
  | .lss => some (.bool (Op.bytesLess a.toList b.toList))
  | .gtr => some (.bool !(Op.bytesLess a.toList b.toList || decide (a = b)))
  | _ => none
/-- the struct type of a key: a bool, an int, a string -/
def keyT (P : Program) (t : Nat) : Bool :=
  match P.underlying t with
  | some (.struct fs) => match fs.toList with
    | [f0, f1, f2] =>
      f0.name != "_" && f1.name != "_" && f2.name != "_" && f0.offset == 0 && f1.offset == 1 && f2.offset == 2 &&
      isBoolT P f0.type && intT P f1.type == some .i64 && isStr P f2.type && !P.stoodInHeld t && !P.eqGuardType P.depth t
    | _ => false
  | _ => false
def vkey (op : BinOp) (a b : List Value) : Option Value :=
  match op, a, b with
  | .eql, [.bool x0, .int .i64 x1, .string x2], [.bool y0, .int .i64 y1, .string y2] => some (.bool (decide (x0 = y0 ∧ x1 = y1 ∧ x2 = y2)))
  | .neq, [.bool x0, .int .i64 x1, .string x2], [.bool y0, .int .i64 y1, .string y2] => some (.bool (!decide (x0 = y0 ∧ x1 = y1 ∧ x2 = y2)))
  | _, _, _ => none
def vbool (op : BinOp) (a b : Bool) : Option Value :=
  match op with
  | .eql => some (.bool (decide (a = b)))
  | .neq => some (.bool (!decide (a = b)))
  | _ => none
/-- an interface type -/
def isIfc (P : Program) (t : Nat) : Bool := match P.underlying t with | some (.interface _) => true | _ => false
/-- the literal nil -/
def nilC : Operand → Bool
  | .const .nilIface => true
  | _ => false
def vnilb (op : BinOp) (r : Bool) : Option Value :=
  match op with
  | .eql => some (.bool r)
  | .neq => some (.bool !r)
  | _ => none
def vbin (P : Program) (op : BinOp) (xt : Nat) (nc : Bool) (a b : Value) : Option Value :=
  match a, b with
  | .iface _ _, .nilIface => if isIfc P xt then vnilb op false else none
  | .nilIface, .nilIface => if isIfc P xt && nc then vnilb op true else none
  | .int k x, .int k' y =>
    match op with
    | .shl => if y < 0 then none else some (.int k (k.wrap (x * 2 ^ (min y.toNat k.bits))))
    | .shr => if y < 0 then none else some (.int k (x.fdiv (2 ^ (min y.toNat k.bits))))
    | _ => if k = k' then vint op k x y else none
  | .string x, .string y => vstr op x y
  | .bool x, .bool y => if isBoolT P xt then vbool op x y else none
  | .agg x, .agg y => if keyT P xt then vkey op x.toList y.toList else none
  | _, _ => none
def vun (op : UnOp) (a : Value) : Option Value :=
  match op, a with
  | .not, .bool b => some (.bool !b)
  | .neg, .int k n => some (.int k (k.wrap (0 - n)))
  | _, _ => none
def vext (i : Nat) (v : Value) : Option Value :=
  match v with
  | .tuple vs => vs.toList[i]?
  | _ => none
def vconv (s d : Option IntKind) (a : Value) : Option Value :=
  match s, d, a with
  | some _, some k, .int _ n => some (.int k (k.wrap n))
  | _, _, _ => none
def sidx (s : ByteArray) (n : Int) : Option Value := if 0 ≤ n then (s.data.toList[n.toNat]?).map fun c => .int .u8 c.toNat else none
def vindex (P : Program) (t : Nat) (x i : Value) : Option Value :=
  match x, i with
  | .string s, .int _ n => if isStr P t then sidx s n else none
  | _, _ => none
def vindexAddr (P : Program) (t : Nat) (x i : Value) : Option Value :=
  match elS P t, x, i with
  | some z, .slice (some a) len _, .int _ n => if 0 ≤ n ∧ n < len then some (.pointer (some (a.add (n.toNat * z)))) else none
  | _, _, _ => none
def vfieldAddr (o : Option Nat) (x : Option AV) : Option AV :=
  match o, x with
  | some o, some (.box k off) => some (.box k (off + o))
  | some o, some (.val (.pointer (some a))) => some (.val (.pointer (some (a.add o))))
  | _, _ => none
def vnil (x : Option AV) : Option AV :=
  match x with
  | some (.box k off) => some (.box k off)
  | some (.val (.pointer (some a))) => some (.val (.pointer (some a)))
  | _ => none
/-- a bound of a slice expression -/
def vbound : Option (Option AV) → Option (Option Int)
  | none => some none
  | some (some (.val (.int _ n))) => some (some n)
  | _ => none
def vslice (P : Program) (t : Nat) (x : Value) (lo hi : Option Int) : Option Value :=
  match x with
  | .string s =>
    let h : Int := hi.getD s.size
    let l : Int := lo.getD 0
    if isStr P t ∧ 0 ≤ l ∧ l ≤ h ∧ h ≤ s.size then some (.string (s.extract l.toNat h.toNat)) else none
  | .slice a len cap =>
    match elS P t with
    | some z =>
      let h : Int := hi.getD len
      let l : Int := lo.getD 0
      if 0 ≤ l ∧ l ≤ h ∧ h ≤ cap ∧ len ≤ cap then some (.slice (if cap = l.toNat then a else a.map (·.add (l.toNat * z))) (h.toNat - l.toNat) (cap - l.toNat)) else none
    | none => none
  | _ => none
def slice3 (P : Program) (t : Nat) (x : Option AV) (lo hi : Option (Option AV)) : Option AV :=
  match x, vbound lo, vbound hi with
  | some (.val v), some l, some h => mapv (vslice P t v l h)
  | _, _, _ => none
/-- what 'len' is asked of: 0 a string, 1 a slice, 2 a map -/
def lenT (P : Program) (t : Nat) : Nat := match P.underlying t with | some .string => 0 | some (.slice _) => 1 | some (.map _ _) => 2 | _ => 3
def vlen (k : Nat) (x : Value) : Option Value :=
  match k, x with
  | 0, .string s => some (.int .i64 s.size)
  | 1, .slice _ n _ => some (.int .i64 n)
  | _, _ => none
def rdC (ty : Option (Bool × Nat)) (cs : List Value) : Option AV :=
  match ty, cs with
  | some (true, n), cs => if n ≤ cs.length then some (.val (.agg (cs.take n).toArray)) else none
  | some (false, _), c :: _ => some (.val c)
  | _, _ => none
def oneCell : Value → Bool
  | .agg _ => false
  | .tuple _ => false
  | _ => true
def oneCells : List Value → Bool
  | [] => true
  | v :: r => oneCell v && oneCells r
def splice (cs : List Value) (off : Nat) (vs : List Value) : List Value := cs.take off ++ vs ++ cs.drop (off + vs.length)
/-- the parts of a struct literal, laid one after the other over the zero cells -/
def vparts (pl : List (Nat × Nat)) : List (Nat × Value) → List Value → Option (List Value)
  | [], cs => some cs
  | (i, v) :: r, cs =>
    match pl[i]? with
    | some (o, z) => if v.cells.toList.length = z ∧ o + z ≤ cs.length then vparts pl r (splice cs o v.cells.toList) else none
    | none => none
def vbuild (pl : Option (List (Nat × Nat))) (z : Option (List Value)) (is : List Nat) (vs : Option (List Value)) : Option AV :=
  match pl, z, vs with
  | some pl, some z, some vs => (vparts pl (is.zip vs) z).map fun cs => .val (.agg cs.toArray)
  | _, _, _ => none

/-! ### Heap and calls -/
structure Sim (h : Hp) (w : World) : Prop where
  vis : ∀ b o, h b = some o → w.heap[b]? = some o

/-- What a step leaves alone: the streams; every block that is not visible. -/
structure Frm (h : Hp) (w : World) (h' : Hp) (w' : World) : Prop where
  os : w'.os = w.os
  tape : w'.tape = w.tape
  output : w'.output = w.output
  size : w.heap.size ≤ w'.heap.size
  priv : ∀ b, b < w.heap.size → h b = none → w'.heap[b]? = w.heap[b]? ∧ h' b = none

def HSem (P : Program) (s : Sem Value) (h : Hp) (K : Value → Hp → Prop) : Prop :=
  ∀ w, Sim h w → ∃ v w' h', s.run P w = .ok v w' ∧ Sim h' w' ∧ Frm h w h' w' ∧ K v h'

/-- A step that only reads: one value, whatever the world is. -/
def HPure (P : Program) (s : Sem Value) (h : Hp) (K : Value → Hp → Prop) : Prop := ∃ v, (∀ w, Sim h w → s.run P w = .ok v w) ∧ K v h
/-- Nothing that was visible has turned. -/
def Ext (h h' : Hp) : Prop := ∀ b o, h b = some o → h' b = some o
def ExtO : Option Hp → Hp → Prop
  | none, _ => True
  | some hS, h => Ext hS h
def plainFn (P : Program) (f : Nat) : Bool :=
  match P.funcs[f]? with
  | some fn => fn.name != "runtime.NumGoroutine" && fn.body.isSome
  | none => false

/-- A function without a body that the model answers at once. -/
def XCall (P : Program) (f : Nat) (args : Array Value) (h : Hp) (R : Value → Hp → Prop) : Prop := ∀ w, Sim h w → ∃ v, (callFunc f args).run P w = .ok (.value v) w ∧ R v h
def ACalls (P : Program) (f : Nat) (args : Array Value) (h : Hp) (R : Value → Hp → Prop) : Prop :=
  (plainFn P f = true ∧ ∀ w, Sim h w → Calls P f args w fun e w' => ∃ v h', e = .returned v ∧ Sim h' w' ∧ Frm h w h' w' ∧ R v h') ∨ XCall P f args h R

/-- A branch on a Bool. -/
def Br (b : Bool) (K : Bool → Prop) : Prop := K b

/-! ### One operation -/
/-- Of a region that draws its order: 'lb': the loads that must hit a box; 'pl': the loads that read what stands still all through the region; 'hs': what stands still. -/
structure Mo where
  hm : List Nat := []
  lb : List Nat := []
  pl : List Nat := []
  hs : Option Hp := none

def lop (P : Program) (fr : Fr) (bx : Bx) : Op → Option AV
  | .move x => ev fr x
  | .assign x => ev fr x
  | .pick c a b => match ev fr c with
    | some (.val (.bool true)) => ev fr a
    | some (.val (.bool false)) => ev fr b
    | _ => none
  | .binOp op xt x y _ => bin2 (ev fr x) (ev fr y) (vbin P op xt (nilC y))
  | .unOp op _ x => un1 (ev fr x) (vun op)
  | .extract x i => un1 (ev fr x) (vext i)
  | .fieldAddr s x i => vfieldAddr (fOff (plcs P s) i) (ev fr x)
  | .field s x i => un1 (ev fr x) (vfld (flO P s i))
  | .nilCheck x => vnil (ev fr x)
  | .index t x i => bin2 (ev fr x) (ev fr i) (vindex P t)
  | .indexAddr t x i => bin2 (ev fr x) (ev fr i) (vindexAddr P t)
  | .slice t x lo hi mx => if mx.isSome then none else slice3 P t (ev fr x) (lo.map (ev fr)) (hi.map (ev fr))
  | .build t parts => vbuild (plcs P t) (zeroC P t) (parts.toList.map (·.1)) (vals (parts.toList.map fun p => ev fr p.2))
  | .load t x => match ev fr x with
    | some (.box k off) => match lkb bx k with
      | some cs => rdC (tyS P t) (cs.drop off)
      | none => none
    | _ => none
  | .call c => match c.callee, c.args.toList, c.argTypes.toList with
    | .builtin .len, [x], [t] => un1 (ev fr x) (vlen (lenT P t))
    | _, _, _ => none
  | _ => none

/-- The class of an operation: 0: looks at slots alone; 1: a load of a box; 2: a load of the heap; 3: any other that writes no box; 4: writes a box; 5: a load of what stands still; 6: a new box. -/
def cls (P : Program) (hm lb pl : List Nat) (o : Oper) : Nat :=
  match o.op with
  | .move _ | .assign _ | .pick .. | .binOp .. | .unOp .. | .extract .. | .fieldAddr .. | .field .. | .nilCheck _ | .index .. | .indexAddr .. | .build .. => 0
  | .slice .. => 0
  | .call c => match c.callee, c.args.toList, c.argTypes.toList with
    | .builtin .len, [_], [t] => if lenT P t < 2 then 0 else 3
    | _, _, _ => 3
  | .load .. => match o.dst with
    | some d => if lb.contains d then 1 else if pl.contains d then 5 else 2
    | none => 2
  | .alloc _ => match o.dst with
    | some d => if hm.contains d then 4 else 6
    | none => 4
  | .box .. | .store .. => 4
  | _ => 3

def hop (P : Program) (hs : Option Hp) (s : Sem Value) (bx : Bx) (h : Hp) (K : AV → Bx → Hp → Prop) : Prop := HSem P s h fun v h' => ExtO hs h' ∧ K (.val v) bx h'
/-- a load of what stands still -/
def hstb (P : Program) (hs : Option Hp) (s : Sem Value) (bx : Bx) (h : Hp) (K : AV → Bx → Hp → Prop) : Prop :=
  match hs with
  | some hS => HPure P s hS fun v _ => K (.val v) bx h
  | none => False

/-- a load; a store to the heap; an update of a map -/
def ldI (t : Nat) (p : Value) : Sem Value := Instr.loadAt t p
def stI (t : Nat) (p u : Value) : Sem Value := do Instr.storeAt t p u; pure undef
def bxI (t : Nat) (v : Value) : Sem Value := Instr.box t v
def alI (t : Nat) : Sem Value := Instr.alloc t true (.tuple #[])
def cvI (s d : Nat) (v : Value) : Sem Value := convert s d v
def bsI (t n : Nat) (ps : Array (Nat × Value)) : Sem Value := Instr.buildSlice t n ps
def msI (t : Nat) (l c : Value) : Sem Value := Instr.makeSlice t l c
def mmI (t : Nat) : Sem Value := Instr.makeMap t none
def luI (t : Nat) (x i : Value) (ok : Bool) : Sem Value := Instr.lookup t x i ok
def lnI (t ty : Nat) (x : Value) : Sem Value := Builtin.len_ #[t] ty #[x]
def apI (ts : Array Nat) (ty : Nat) (vs : Array Value) : Sem Value := Builtin.append_ ts ty vs
def cqI (ts : Array Nat) (ty : Nat) (vs : Array Value) : Sem Value := Builtin.cap_ ts ty vs
def cpI (ts : Array Nat) (ty : Nat) (vs : Array Value) : Sem Value := Builtin.copy_ ts ty vs
def muI (t : Nat) (x i v : Value) : Sem Value := do Instr.mapUpdate t x i v; pure undef
def aop (P : Program) (m : Mo) (o : Oper) (fr : Fr) (bx : Bx) (h : Hp) (K : AV → Bx → Hp → Prop) : Prop :=
  match o.op with
  | .box t x => match o.dst with
    | none => False
    | some d =>
      if m.hm.contains d then vval (ev fr x) fun v => hop P m.hs (bxI t v) bx h K
      else vval (ev fr x) fun v => lkb bx d = none ∧ K (.box d 0) ((d, v.cells.toList) :: bx) h
  | .alloc t => match o.dst with
    | none => False
    | some d =>
      if m.hm.contains d then hop P m.hs (alI t) bx h K
      else cval (zeroC P t) fun z => lkb bx d = none ∧ K (.box d 0) ((d, z) :: bx) h
  | .store t x v => vval (ev fr v) fun u => match ev fr x with
    | some (.box k off) => cval (lkb bx k) fun cs => (tyS P t).map (·.2) = some u.cells.toList.length ∧ oneCells u.cells.toList = true ∧ off + u.cells.toList.length ≤ cs.length ∧
        K (.val undef) (setb bx k (splice cs off u.cells.toList)) h
    | some (.val p) => hop P m.hs (stI t p u) bx h K
    | none => False
  | .load t x => match ev fr x with
    | some (.val p) => if (o.dst.map m.lb.contains).getD false then False else if (o.dst.map m.pl.contains).getD false then hstb P m.hs (ldI t p) bx h K
        else HPure P (ldI t p) h fun v h' => K (.val v) bx h'
    | _ => if !(o.dst.map m.lb.contains).getD false && (o.dst.map m.pl.contains).getD false then False else aval (lop P fr bx (.load t x)) fun v => K v bx h
  | .convert s d x => vval (ev fr x) fun v => match v with
    | .int _ _ => vval (mapv (vconv (intT P s) (intT P d) v)) fun u => K (.val u) bx h
    | _ => hop P m.hs (cvI s d v) bx h K
  | .buildSlice t n parts => cval (vals (parts.toList.map fun p => ev fr p.2)) fun vs => hop P m.hs (bsI t n (((parts.toList.map (·.1)).zip vs).toArray)) bx h K
  | .makeSlice t l c => vval (ev fr l) fun l => vval (ev fr c) fun c => hop P m.hs (msI t l c) bx h K
  | .makeMap t none => hop P m.hs (mmI t) bx h K
  | .lookup t x i ok => vval (ev fr x) fun x => vval (ev fr i) fun i => hop P m.hs (luI t x i ok) bx h K
  | .mapUpdate t x i v => vval (ev fr x) fun x => vval (ev fr i) fun i => vval (ev fr v) fun v => hop P m.hs (muI t x i v) bx h K
  | .makeFunc fn first captured => cval (vals (first.toList.map (ev fr))) fun f => cval (vals (captured.toList.map (ev fr))) fun c => K (.val (.func fn f.toArray c.toArray)) bx h
  | .call c => match c.callee with
    | .builtin .len => match c.args.toList, c.argTypes.toList with
      | [x], [t] => if lenT P t = 2 then vval (ev fr x) fun x => hop P m.hs (lnI t o.type x) bx h K
        else aval (un1 (ev fr x) (vlen (lenT P t))) fun v => K v bx h
      | _, _ => False
    | .builtin .append => cval (vals (c.args.toList.map (ev fr))) fun vs => hop P m.hs (apI c.argTypes o.type vs.toArray) bx h K
    | .builtin .cap => cval (vals (c.args.toList.map (ev fr))) fun vs => hop P m.hs (cqI c.argTypes o.type vs.toArray) bx h K
    | .builtin .copy => cval (vals (c.args.toList.map (ev fr))) fun vs => hop P m.hs (cpI c.argTypes o.type vs.toArray) bx h K
    | .value f => vval (ev fr f) fun fv => match fv with
      | .func (.func g) first captured => cval (vals (c.args.toList.map (ev fr))) fun vs => ACalls P g (first ++ vs.toArray ++ captured) h fun v h' => ExtO m.hs h' ∧ K (.val v) bx h'
      | _ => False
    | _ => False
  | op => aval (lop P fr bx op) fun v => K v bx h

/-- One operation behind its guard. -/
def astep (P : Program) (m : Mo) (ops : Array Oper) (o : Oper) (K : Fr → Bx → Hp → Prop) (fr : Fr) (bx : Bx) (h : Hp) : Prop :=
  match o.guard with
  | none => aop P m o fr bx h fun v bx' h' => K (put fr o.dst v) bx' h'
  | some (j, want) => match (ops[j]?).bind (·.dst) with
    | none => False
    | some t => match lk fr t with
      | some (.val (.bool b)) => Br b fun b' =>
          if b' = want then aop P m o ((t, .val (.bool b')) :: fr) bx h fun v bx' h' => K (put ((t, .val (.bool b')) :: fr) o.dst v) bx' h'
          else K (put ((t, .val (.bool b')) :: fr) o.dst (.val (.tuple #[]))) bx h
      | some (.val (.tuple _)) => K (put fr o.dst (.val (.tuple #[]))) bx h
      | _ => False

def arun (P : Program) (m : Mo) (ops : Array Oper) : List Oper → (Fr → Bx → Hp → Prop) → Fr → Bx → Hp → Prop
  | [], K, fr, bx, h => K fr bx h
  | o :: rest, K, fr, bx, h => astep P m ops o (arun P m ops rest K) fr bx h

/-! ### Code -/
abbrev Post := Exit → Fr → Bx → Hp → Prop
def thn (next : Fr → Bx → Hp → Prop) (Q : Post) : Post
  | .normal, fr, bx, h => next fr bx h
  | e, fr, bx, h => Q e fr bx h
def inBlk (id : Nat) (Q : Post) : Post
  | .exit i, fr, bx, h => if i = id then Q .normal fr bx h else Q (.exit i) fr bx h
  | e, fr, bx, h => Q e fr bx h

/-- What a state may forget: slots, boxes that no slot names any more. -/
structure Wk (fr : Fr) (bx : Bx) (fr1 : Fr) (bx1 : Bx) : Prop where
  fr : ∀ i v, lk fr1 i = some v → lk fr i = some v
  bx : ∀ k c, lkb bx1 k = some c → lkb bx k = some c
  refs : ∀ i k off, lk fr1 i = some (.box k off) → ∃ c, lkb bx1 k = some c

def loopW (step : Post → Fr → Bx → Hp → Prop) (Q : Post) (fr : Fr) (bx : Bx) (h : Hp) : Prop :=
  ∃ I : Nat → Fr → Bx → Hp → Prop, (∃ n fr1 bx1, Wk fr bx fr1 bx1 ∧ I n fr1 bx1 h) ∧
    ∀ n fr bx h, I n fr bx h → step (thn (fun fr' bx' h' => ∃ k fr1 bx1, k < n ∧ Wk fr' bx' fr1 bx1 ∧ I k fr1 bx1 h') Q) fr bx h

/-- A region that draws its order: 'ok' is asked of the order's edges. -/
def regionD (ok : Mo → Prop) (run : Mo → Prop) (h : Hp) : Prop := ∃ m, ExtO m.hs h ∧ ok m ∧ run m

/-- Which operations come behind operation 'i', by the edges that bind. -/
def anc (ops : Array Oper) : Nat → Nat → Nat → Bool
  | 0, _, _ => false
  | f + 1, j, i => match ops[i]? with
    | some o => o.after.toList.any fun e => Region.binds .any e && (e.on == j || anc ops f j e.on)
    | none => false
def compat (a b : Nat) : Bool := a == 0 || b == 0 || a == 5 || b == 5 || (a == 1 && Nat.ble b 3) || (b == 1 && Nat.ble a 3) || (a == 2 && b == 2) || (b == 6 && Nat.ble a 3) || (a == 6 && b == 6)
def okDraw (P : Program) (hm lb pl : List Nat) (ops : Array Oper) : Bool :=
  (List.range ops.size).all fun i => ((ops[i]?).map fun o => o.after.toList.all fun e => !Region.binds .any e || decide (e.on < i)).getD true && (List.range i).all fun j => anc ops ops.size j i || match ops[j]?, ops[i]? with
    | some x, some y => x.apart ops y && compat (cls P hm lb pl x) (cls P hm lb pl y)
    | _, _ => true

/-- Two operations may change places, or the first binds the second. -/
def okPair (P : Program) (hm lb pl : List Nat) (ops : Array Oper) (j i : Nat) : Bool := anc ops ops.size j i || match ops[j]?, ops[i]? with
  | some x, some y => x.apart ops y && compat (cls P hm lb pl x) (cls P hm lb pl y)
  | _, _ => true
/-- .. of each pair of a list, but for p ahead of q. -/
def okList (P : Program) (hm lb pl : List Nat) (ops : Array Oper) (p q : Nat) : List Nat → Bool
  | [] => true
  | x :: r => (r.all fun y => okPair P hm lb pl ops x y || (x == p && y == q)) && okList P hm lb pl ops p q r
def edgesBack (ops : Array Oper) : Bool := (List.range ops.size).all fun i => ((ops[i]?).map fun o => o.after.toList.all fun e => !Region.binds .any e || decide (e.on < i)).getD true
def pickO (ops : Array Oper) : List Nat → List Oper
  | [] => []
  | i :: r => match ops[i]? with
    | some o => o :: pickO ops r
    | none => pickO ops r
/-- A region that draws its order, where two operations 'p', 'q' must not change places: 'c' operations that leave what is visible alone, then those up to 'd', then either of two orders of the rest. -/
structure Sp where
  c : Nat
  d : Nat
  p : Nat
  q : Nat
  A : List Nat
  B : List Nat
def behind (ops : Array Oper) (s t : List Nat) : Bool := t.all fun i => s.all fun j => anc ops ops.size j i
def okSplit (P : Program) (hm lb pl : List Nat) (ops : Array Oper) (s : Sp) : Bool :=
  edgesBack ops && (okList P hm lb pl ops ops.size ops.size (List.range s.c) && (okList P hm lb [] ops ops.size ops.size (List.range' s.c (s.d - s.c)) && (Nat.ble s.c s.d && (Nat.ble s.d ops.size &&
  (behind ops (List.range s.c) (List.range' s.c (ops.size - s.c)) && (behind ops (List.range' s.c (s.d - s.c)) (List.range' s.d (ops.size - s.d)) &&
  (s.A.isPerm (List.range' s.d (ops.size - s.d)) && (s.B.isPerm (List.range' s.d (ops.size - s.d)) && (s.A.contains s.p && (s.A.contains s.q && (s.p != s.q &&
  (okList P hm lb [] ops s.p s.q s.A && (okList P hm lb [] ops s.q s.p s.B &&
  s.A.all fun i => i == s.p || i == s.q || anc ops ops.size s.p i || anc ops ops.size s.q i || ((ops[i]?).map fun o => cls P hm lb [] o == 0 && o.guard.isNone).getD false)))))))))))))
def bothK (A B : Fr → Bx → Hp → Prop) (fr : Fr) (bx : Bx) (h : Hp) : Prop := A fr bx h ∧ B fr bx h
def regionS (P : Program) (hm : List Nat) (ops : Array Oper) (K : Fr → Bx → Hp → Prop) (fr : Fr) (bx : Bx) (h : Hp) : Prop :=
  ∃ (lb pl : List Nat) (hs : Option Hp) (s : Sp), ExtO hs h ∧ okSplit P hm lb pl ops s = true ∧ arun P ⟨hm, lb, pl, hs⟩ ops (pickO ops (List.range s.c)) (arun P ⟨hm, lb, [], none⟩ ops (pickO ops (List.range' s.c (s.d - s.c)))
    (bothK (arun P ⟨hm, lb, [], none⟩ ops (pickO ops s.A) K) (arun P ⟨hm, lb, [], none⟩ ops (pickO ops s.B) K))) fr bx h

/-- Orders of a region's operations: one list, each pair of which may change places or is bound; or, behind 'pre', either p first or q first. -/
inductive Plan where
  | one (L : List Nat)
  | two (pre : List Nat) (p : Nat) (A : Plan) (q : Nat) (B : Plan)
def Plan.ops : Plan → List Nat
  | .one L => L
  | .two pre p A _ _ => pre ++ p :: A.ops
def okPlan (P : Program) (hm lb pl : List Nat) (ops : Array Oper) : Plan → Bool
  | .one L => okList P hm lb pl ops ops.size ops.size L
  | .two pre p A q B => okList P hm lb pl ops ops.size ops.size pre && (pre.all (fun x => (p :: A.ops).all (okPair P hm lb pl ops x)) && (p != q && ((p :: A.ops).isPerm (q :: B.ops) && ((A.ops.all fun i => i == q || anc ops ops.size p i || anc ops ops.size q i) && (okPlan P hm lb pl ops A && okPlan P hm lb pl ops B)))))
def runPlan (P : Program) (m : Mo) (ops : Array Oper) (K : Fr → Bx → Hp → Prop) : Plan → Fr → Bx → Hp → Prop
  | .one L => arun P m ops (pickO ops L) K
  | .two pre p A q B => arun P m ops (pickO ops pre) (bothK (arun P m ops (pickO ops [p]) (runPlan P m ops K A)) (arun P m ops (pickO ops [q]) (runPlan P m ops K B)))
/-- A region that draws its order, with all orders of some operations that must not change places. -/
def regionT (P : Program) (hm : List Nat) (ops : Array Oper) (K : Fr → Bx → Hp → Prop) (fr : Fr) (bx : Bx) (h : Hp) : Prop :=
  ∃ (lb pl : List Nat) (hs : Option Hp) (T : Plan), ExtO hs h ∧ (edgesBack ops && (T.ops.isPerm (List.range ops.size) && okPlan P hm lb pl ops T)) = true ∧ runPlan P ⟨hm, lb, pl, hs⟩ ops K T fr bx h

/-- A box becomes a block that is seen: its slots hold the block's address from then on. -/
def proF (d b : Nat) : Fr → Fr
  | [] => []
  | (i, .val v) :: r => (i, .val v) :: proF d b r
  | (i, .box k off) :: r => (i, bif k == d then .val (.pointer (some ⟨b, off, none⟩)) else .box k off) :: proF d b r
def delb (d : Nat) : Bx → Bx
  | [] => []
  | (k, c) :: r => bif k == d then delb d r else (k, c) :: delb d r
def seen (h : Hp) (b : Nat) (o : Obj) : Hp := fun i => if i = b then some o else h i
def prom (d : Nat) (K : Fr → Bx → Hp → Prop) (fr : Fr) (bx : Bx) (h : Hp) : Prop :=
  cval (lkb bx d) fun cs => ∀ b T, h b = none → K (proF d b fr) (delb d bx) (seen h b (.cells cs.toArray T (0, 0)))
/-- A region that draws its order, a variable of which is a box within it and is seen behind it. -/
def regionP (P : Program) (ops : Array Oper) (K : Fr → Bx → Hp → Prop) (fr : Fr) (bx : Bx) (h : Hp) : Prop :=
  ∃ (d : Nat) (m : Mo), ExtO m.hs h ∧ okDraw P m.hm m.lb m.pl ops = true ∧ arun P m ops ops.toList (prom d K) fr bx h
/-- A region that draws its order, ahead of which a box becomes a variable that is seen. -/
def regionQ (P : Program) (ops : Array Oper) (K : Fr → Bx → Hp → Prop) (fr : Fr) (bx : Bx) (h : Hp) : Prop :=
  ∃ (d : Nat), prom d (fun fr bx h => ∃ m : Mo, ExtO m.hs h ∧ okDraw P m.hm m.lb m.pl ops = true ∧ arun P m ops ops.toList K fr bx h) fr bx h

def awp (P : Program) (hm : List Nat) : Code → Post → Fr → Bx → Hp → Prop
  | .skip, Q, fr, bx, h => Q .normal fr bx h
  | .region _ ops false, Q, fr, bx, h => arun P { hm := hm } ops ops.toList (Q .normal) fr bx h
  | .region _ ops true, Q, fr, bx, h => regionD (fun m => m.hm = hm ∧ okDraw P hm m.lb m.pl ops = true) (fun m => arun P m ops ops.toList (Q .normal) fr bx h) h ∨ regionS P hm ops (Q .normal) fr bx h ∨ regionP P ops (Q .normal) fr bx h ∨ regionQ P ops (Q .normal) fr bx h ∨ regionT P hm ops (Q .normal) fr bx h
  | .seq a b, Q, fr, bx, h => awp P hm a (thn (awp P hm b Q) Q) fr bx h
  | .cond c t e, Q, fr, bx, h => vval (ev fr c) fun v => match v with
    | .bool b => Br b fun b' => bif b' then awp P hm t Q fr bx h else awp P hm e Q fr bx h
    | _ => False
  | .block id b, Q, fr, bx, h => awp P hm b (inBlk id Q) fr bx h
  | .loop b, Q, fr, bx, h => loopW (awp P hm b) Q fr bx h
  | .exit id, Q, fr, bx, h => Q (.exit id) fr bx h
  | .ret, Q, fr, bx, h => Q .ret fr bx h
  | _, _, _, _, _ => False

/-! ### The function's end -/
def ares1 (P : Program) (fr : Fr) (bx : Bx) : ResultVar → Option Value
  | .tmp t => match lk fr t with
    | some (.val v) => some v
    | _ => none
  | .cell t ty => match lk fr t with
    | some (.box k off) => match lkb bx k with
      | some cs => match rdC (tyS P ty) (cs.drop off) with
        | some (.val v) => some v
        | _ => none
      | none => none
    | _ => none
def aresL (P : Program) (fr : Fr) (bx : Bx) : List ResultVar → Option (List Value)
  | [] => some []
  | r :: rs => match ares1 P fr bx r with
    | some v => (aresL P fr bx rs).map (v :: ·)
    | none => none
def wrapRes : List Value → Value
  | [v] => v
  | vs => .tuple vs.toArray
def aend (P : Program) (rs : List ResultVar) (R : Value → Hp → Prop) : Post
  | .normal, fr, bx, h => cval (aresL P fr bx rs) fun vs => R (wrapRes vs) h
  | .ret, fr, bx, h => cval (aresL P fr bx rs) fun vs => R (wrapRes vs) h
  | _, _, _, _ => False
def argFr : Nat → List Value → Fr
  | _, [] => []
  | i, v :: r => (i, .val v) :: argFr (i + 1) r

/-- Slots within the frame; operations that have a guard name an operation with a slot. -/
def okSlot (n : Nat) : Operand → Bool
  | .tmp t => decide (t < n)
  | _ => true
def okOper (n : Nat) (o : Oper) : Bool := (match o.dst with | some d => decide (d < n) | none => true) && (match o.op with | .select .. => false | _ => true)
def okCode (n : Nat) : Code → Bool
  | .skip => true
  | .region _ ops _ => ops.toList.all (okOper n)
  | .seq a b => okCode n a && okCode n b
  | .cond _ a b => okCode n a && okCode n b
  | .block _ b => okCode n b
  | .loop b => okCode n b
  | .exit _ => true
  | .ret => true
  | _ => false
end Go.Sx
