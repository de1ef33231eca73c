/- The machine Ax, part AxM1: its steps and why they are sound. -/
import GoSem.Core.Code
import GoSem.Core.View
import GoSem.Core.Region
import GoSem.Op.String
import GoSem.Core.Utf8
import Derived.Orders
/- Ax, the abstract machine: values, frames, memory, and what each operation does. Plain definitions, no program in sight but for the model's own code type. -/
namespace Go.Ax

/-- Abstract values. A slice is its content (what it leads to is not written any more); `ptr` names a block of the abstract memory. -/
inductive AV where
  | bool (b : Bool)
  | int (k : IntKind) (n : Int)
  | str (l : List UInt8)
  | agg (cs : List AV)
  | tup (vs : List AV)
  | sl (sz : Nat) (xs : List AV)
  | ptr (id off : Nat)
  | fn (f : FuncId) (cap : List AV)
  | mp (ks vs : List AV)
  | nilp | nilf | nili
  deriving Inhabited

/-- What a temporary holds: a value; an address of a frame's own variable, of an element of a slice; a slice with the right to be appended to (token k; 0: it has no spare room); a slice out of a memory cell that has that right (version k); a struct in parts; a slice over a frame's own variable; a frame's own map. -/
inductive T where
  | undef
  | v (x : AV)
  | reg (t off : Nat)
  | ea (sz : Nat) (xs : List AV) (i off : Nat)
  | own (k sz : Nat) (xs : List AV)
  | ld (id off k sz : Nat) (xs : List AV)
  | agg (cs : List T)
  | mref (t off len sz : Nat) (ag : Bool)
  | omap (t : Nat)
  | sit (t : Nat)
  | any
  deriving Inhabited

/-- A token's number tells its maker and, unless it is 0, the type of what lies in its row. -/
def elOf (k : Nat) : Nat := k % 65536
def tk (d e : Nat) : Nat := d * 65536 + e
theorem elOf_tk {d e : Nat} (h : e < 65536) : elOf (tk d e) = e := by unfold elOf tk; omega
theorem elOf_lt (k : Nat) : elOf k < 65536 := Nat.mod_lt _ (by omega)
/-- Types, as the machine wants them. -/
inductive TK where
  | int (k : IntKind) | bool | str | slice (e : Nat) | struct (fs : List (Nat × Nat)) | array (n e : Nat) | ptr (e : Nat) | map (k e : Nat) | func | iface | tuple | other
instance : Inhabited TK := ⟨.other⟩

structure TI where
  k : TK
  sz : Nat
  by_ : Nat
  zero : List T
  deriving Inhabited

def TI.isAgg (i : TI) : Bool := match i.k with | .struct _ => true | .array _ _ => true | _ => false

/-- A type that the machine knows. -/
def TI.ok (i : TI) : Bool := match i.k with | .other => false | _ => true

def subs : TK → List Nat
  | .slice e => [e]
  | .array _ e => [e]
  | .struct fs => fs.map (·.2)
  | .map _ e => [e]
  | _ => []

structure AMem where
  next : Nat
  blk : Nat → Option (List T)
  /-- what type of variable a block is -/
  ty : Nat → Nat

structure St where
  tm : Nat → T
  lc : Nat → Option (List T)
  mp : Nat → Option (List (AV × AV))
  it : Nat → Option (List UInt8 × Nat)
  live : Nat → Bool
  seen : Nat → Bool
  df : List AV

structure Env where
  ti : Nat → TI
  regs : List Nat
  nt : Nat

/-- A temporary as a value that may be handed on. -/
def T.av : T → Option AV
  | .v x => some x
  | .own _ sz xs => some (.sl sz xs)
  | .ld _ _ _ sz xs => some (.sl sz xs)
  | .agg cs => (avs cs).map .agg
  | _ => none
  where avs : List T → Option (List AV)
  | [] => some []
  | c :: r => match c with
    | .v x => (avs r).map (x :: ·)
    | .own _ sz xs => (avs r).map (.sl sz xs :: ·)
    | .ld _ _ _ sz xs => (avs r).map (.sl sz xs :: ·)
    | _ => none

def AV.cells : AV → List AV
  | .agg cs => cs
  | x => [x]

/-- A cell as it may lie in a frame's variable. -/
def T.cell : T → Option T
  | .v (.agg _) => none
  | .v (.tup _) => none
  | .v x => some (.v x)
  | .own k sz xs => some (.own k sz xs)
  | .ld _ _ _ sz xs => some (.v (.sl sz xs))
  | _ => none

/-- The cells of what is stored into a frame's variable. -/
def T.cells : T → Option (List T)
  | .v (.agg cs) => some (cs.map .v)
  | .agg cs => some cs
  | x => (x.cell).map ([·])

def lit : Value → Option T
  | .bool b => some (.v (.bool b))
  | .int k n => some (.v (.int k n))
  | .string s => some (.v (.str s.data.toList))
  | .pointer none => some (.v .nilp)
  | .slice none 0 0 => some (.own 0 0 [])
  | .nilFunc => some (.v .nilf)
  | .nilIface => some (.v .nili)
  | .map none => some (.v (.mp [] []))
  | _ => none

def St.ev (s : St) : Operand → Option T
  | .tmp t => some (s.tm t)
  | .const c => lit c
  | .func f => some (.v (.fn f []))
  | .global _ => none

def boolOf : T → Option Bool
  | .v (.bool b) => some b
  | _ => none

def upd {α : Type} (f : Nat → α) (k : Nat) (x : α) : Nat → α := fun j => bif j.beq k then x else f j

/-! ### numbers, texts -/
def bnd (b : Bool) {α : Type} (x : Option α) : Option α := bif b then x else none

def aBits (op : BinOp) (k : IntKind) (x y : Int) : Option AV :=
  match op with
  | .and => some (.int k (k.wrap (BitVec.ofInt k.bits x &&& BitVec.ofInt k.bits y).toNat))
  | .or => some (.int k (k.wrap (BitVec.ofInt k.bits x ||| BitVec.ofInt k.bits y).toNat))
  | .xor => some (.int k (k.wrap (BitVec.ofInt k.bits x ^^^ BitVec.ofInt k.bits y).toNat))
  | .andNot => some (.int k (k.wrap (BitVec.ofInt k.bits x &&& ~~~ (BitVec.ofInt k.bits y)).toNat))
  | _ => none

def aInt (op : BinOp) (k k' : IntKind) (x y : Int) : Option AV :=
  match op with
  | .shl => if y < 0 then none else some (.int k (k.wrap (x * 2 ^ (min y.toNat k.bits))))
  | .shr => if y < 0 then none else some (.int k (x.fdiv (2 ^ (min y.toNat k.bits))))
  | op => if k = k' then
      (match op with
      | .add => some (.int k (k.wrap (x + y)))
      | .sub => some (.int k (k.wrap (x - y)))
      | .mul => some (.int k (k.wrap (x * y)))
      | .quo => if y = 0 then none else some (.int k (k.wrap (x.tdiv y)))
      | .rem => if y = 0 then none else some (.int k (x.tmod y))
      | .eql => some (.bool (x == y))
      | .neq => some (.bool (x != y))
      | .lss => some (.bool (decide (x < y)))
      | .leq => some (.bool (decide (x ≤ y)))
      | .gtr => some (.bool (decide (x > y)))
      | .geq => some (.bool (decide (x ≥ y)))
      | op => aBits op k x y)
    else none

def aStr (op : BinOp) (x y : List UInt8) : Option AV :=
  match op with
  | .add => if x.length + y.length ≤ 9223372036854775807 then some (.str (x ++ y)) else none
  | .eql => some (.bool (x == y))
  | .neq => some (.bool (!(x == y)))
  | .lss => some (.bool (Op.bytesLess x y))
  | .leq => some (.bool (Op.bytesLess x y || x == y))
  | .gtr => some (.bool !(Op.bytesLess x y || x == y))
  | .geq => some (.bool !(Op.bytesLess x y))
  | _ => none

/-- Are two keys of a map the same? -/
def keyEq : AV → AV → Option Bool
  | .int k a, .int k' b => if k = k' then some (a == b) else none
  | .str a, .str b => some (a == b)
  | _, _ => none

/-- Equality of flat values of a type. -/
def aEq1 (k : TK) (x y : AV) : Option Bool :=
  match k, x, y with
  | .bool, .bool a, .bool b => some (a == b)
  | .ptr _, .nilp, .nilp => some true
  | .ptr _, .nilp, .ptr _ _ => some false
  | .ptr _, .ptr _ _, .nilp => some false
  | .func, .nilf, .nilf => some true
  | .func, .nilf, .fn _ _ => some false
  | .func, .fn _ _, .nilf => some false
  | _, _, _ => none

/-- A struct's fields, one behind the other: numbers and texts. -/
def aEqF (ti : Nat → TI) : List (Nat × Nat) → List AV → List AV → Option Bool
  | [], _, _ => some true
  | (o, ft) :: r, xs, ys => (match (ti ft).k, xs[o]?, ys[o]? with
    | .int _, some (.int k a), some (.int k' b) => if k = k' then some (a == b) else none
    | .str, some (.str a), some (.str b) => some (a == b)
    | _, _, _ => none).bind fun c => (aEqF ti r xs ys).map (c && ·)

def aEq (ti : Nat → TI) (ty : Nat) (x y : AV) : Option Bool :=
  match (ti ty).k, x, y with
  | .struct fs, .agg xs, .agg ys => aEqF ti fs xs ys
  | k, x, y => aEq1 k x y

def aBin (ti : Nat → TI) (ty : Nat) (op : BinOp) : AV → AV → Option AV
  | .int k a, .int k' b => aInt op k k' a b
  | .str a, .str b => aStr op a b
  | x, y => match op with
    | .eql => (aEq ti ty x y).map .bool
    | .neq => (aEq ti ty x y).map (fun b => .bool (!b))
    | _ => none

def aUn (op : UnOp) : AV → Option AV
  | .bool b => match op with | .not => some (.bool (!b)) | _ => none
  | .int k n => match op with
    | .neg => some (.int k (k.wrap (0 - n)))
    | .xor => some (.int k (k.wrap (BitVec.ofInt k.bits (if k.signed then -1 else k.max) ^^^ BitVec.ofInt k.bits n).toNat))
    | _ => none
  | _ => none

def bytesOf : List AV → Option (List UInt8)
  | [] => some []
  | .int .u8 n :: r => (bytesOf r).map (UInt8.ofNat n.toNat :: ·)
  | _ => none

def ofBytes (l : List UInt8) : List AV := l.map fun b => .int .u8 b.toNat

end Go.Ax
/- Ax: what one operation does, as an effect that names what it reads and writes. -/
set_option linter.unusedVariables false
namespace Go.Ax

structure Eff where
  val : T := .undef
  lw : List (Nat × Option (List T)) := []
  pw : List (Nat × Option (List (AV × AV))) := []
  iw : List (Nat × Option (List UInt8 × Nat)) := []
  lr : List Nat := []
  ir : List Nat := []
  pr : List Nat := []
  mr : Bool := false
  mw : Option AMem := none
  kill : List Nat := []
  new : List Nat := []
  use : List Nat := []
  df : List AV := []
  deriving Inhabited

abbrev CallT := FuncId → List AV → AMem → Option (AV × AMem)

def one (x : Option T) : Option Eff := x.map fun y => { val := y }
def oneV (x : Option AV) : Option Eff := x.map fun y => { val := .v y }

/-- The elements that stand in a frame's variable, as values. -/
def chunk (sz : Nat) (ag : Bool) : Nat → List T → Option (List AV)
  | 0, _ => some []
  | n + 1, cs => (match ag with
      | true => bnd (Nat.ble sz cs.length) ((T.av.avs (cs.take sz)).map AV.agg)
      | false => bnd (Nat.beq sz 1) (match cs with | c :: _ => c.av | [] => none)).bind fun x => (chunk sz ag n (cs.drop sz)).map (x :: ·)

def distinct : List Nat → Bool
  | [] => true
  | k :: r => !(r.contains k) && distinct r

structure Esc where
  x : AV
  ls : List Nat := []
  ps : List Nat := []

/-- A temporary that leaves the frame: what it leads to in the frame is closed. -/
def esc (s : St) : T → Option Esc
  | .mref t off len sz ag => bnd (Nat.blt 0 sz) ((s.lc t).bind fun cs => (chunk sz ag len (cs.drop off)).map fun xs => { x := .sl sz xs, ls := [t] })
  | .omap t => (s.mp t).map fun es => { x := .mp (es.map Prod.fst) (es.map Prod.snd), ps := [t] }
  | x => x.av.map fun y => { x := y }

def escs (s : St) : List T → Option (List AV × List Nat × List Nat)
  | [] => some ([], [], [])
  | x :: r => (esc s x).bind fun e => (escs s r).map fun (xs, ls, ps) => (e.x :: xs, e.ls ++ ls, e.ps ++ ps)

def closeL (ls : List Nat) : List (Nat × Option (List T)) := ls.map fun t => (t, none)
def closeP (ls : List Nat) : List (Nat × Option (List (AV × AV))) := ls.map fun t => (t, none)

/-- A slice's elements, of whatever form that can be read by value. -/
def T.slice : T → Option (Nat × List AV)
  | .v (.sl sz xs) => some (sz, xs)
  | .own _ sz xs => some (sz, xs)
  | .ld _ _ _ sz xs => some (sz, xs)
  | _ => none

def down : T → T
  | .own 0 sz xs => .own 0 sz xs
  | .own _ sz xs => .v (.sl sz xs)
  | x => x

def setAt {α : Type} (cs : List α) (off : Nat) : List α → List α
  | [] => cs
  | x :: r => setAt (cs.set off x) (off + 1) r

def loadT (i : TI) (cs : List T) (off : Nat) : Option T :=
  match i.isAgg with
  | true => bnd (Nat.ble (off + i.sz) cs.length) (some (.agg ((cs.drop off).take i.sz)))
  | false => cs[off]?

/-- A cell that was loaded from the memory. -/
def ldT (id off : Nat) : T → T
  | .own 0 sz xs => .own 0 sz xs
  | .own k sz xs => .ld id off k sz xs
  | x => x

def dOp (d : Option Tmp) : Nat := d.getD 0

/-- What is stored into a memory cell: a token becomes the cell's own. -/
def memCell (m : AMem) : T → Option (T × AMem × List Nat)
  | .own 0 sz xs => some (.own 0 sz xs, m, [])
  | .own k sz xs => some (.own (tk m.next (elOf k)) sz xs, { m with next := tk m.next (elOf k) + 1 }, [k])
  | x => (x.cell).map (·, m, [])

def aLoad (E : Env) (s : St) (m : AMem) (ty : TypeId) : T → Option Eff
  | .reg t off => (s.lc t).bind fun cs => (loadT (E.ti ty) cs off).map fun y => { val := y, lr := [t] }
  | .v (.ptr id off) => (m.blk id).bind fun cs => match (E.ti ty).isAgg with
      | true => (loadT (E.ti ty) (cs.map down) off).map fun y => { val := y, mr := true }
      | false => cs[off]?.map fun y => { val := ldT id off y, mr := true }
  | .ea _ xs i off => xs[i]?.bind fun e => match (E.ti ty).isAgg with
      | true => bnd (Nat.ble (off + (E.ti ty).sz) e.cells.length) (some { val := .v (.agg ((e.cells.drop off).take (E.ti ty).sz)) })
      | false => e.cells[off]?.map fun y => { val := .v y }
  | _ => none

def aStore (E : Env) (s : St) (m : AMem) (ty : TypeId) (p x : T) : Option Eff :=
  match p with
  | .reg t off => match x with
    | .mref _ _ _ _ _ => (esc s x).bind fun e => (s.lc t).bind fun cs => bnd (Nat.blt off cs.length && !(e.ls.contains t) && Nat.beq (E.ti ty).sz 1) (some { lw := (t, some (cs.set off (.v e.x))) :: closeL e.ls, lr := t :: e.ls })
    | x => x.cells.bind fun ys => (s.lc t).bind fun cs => bnd (Nat.beq ys.length (E.ti ty).sz && Nat.ble (off + ys.length) cs.length) (some { lw := [(t, some (setAt cs off ys))], lr := [t] })
  | .v (.ptr id off) => (m.blk id).bind fun cs => match (E.ti ty).isAgg with
    | true => x.cells.bind fun ys => bnd (Nat.beq ys.length (E.ti ty).sz && Nat.ble (off + ys.length) cs.length) (some { mr := true, mw := some { m with blk := upd m.blk id (some (setAt cs off (ys.map down))) } })
    | false => bnd (Nat.beq (E.ti ty).sz 1) <| (esc s x).bind fun e => match x with
      | .own k sz xs => (memCell m (.own k sz xs)).bind fun (c, m', ks) => bnd (Nat.blt off cs.length && (Nat.beq k 0 || s.live k)) (some { mr := true, mw := some { m' with blk := upd m'.blk id (some (cs.set off c)) }, kill := ks })
      | _ => (T.v e.x).cell.bind fun y => bnd (Nat.blt off cs.length) (some { mr := true, mw := some { m with blk := upd m.blk id (some (cs.set off y)) }, lw := closeL e.ls, lr := e.ls, pw := closeP e.ps, pr := e.ps })
  | _ => none

def aField (E : Env) (ty : TypeId) (fi : Nat) (x : T) : Option T :=
  match (E.ti ty).k with
  | .struct fs => fs[fi]?.bind fun (o, ft) => bnd (Nat.blt 0 (E.ti ft).sz) (match x with
    | .reg t off => some (.reg t (off + o))
    | .ea sz xs i off => some (.ea sz xs i (off + o))
    | .v (.ptr id off) => some (.v (.ptr id (off + o)))
    | _ => none)
  | _ => none

def aIndexAddr (E : Env) (ty : TypeId) (x : T) (i : Int) : Option T :=
  match (E.ti ty).k with
  | .slice e => match x with
    | .mref t off len sz _ => if 0 ≤ i ∧ i < len then bnd (Nat.beq sz (E.ti e).sz) (some (.reg t (off + i.toNat * sz))) else none
    | x => x.slice.bind fun (sz, xs) => if 0 ≤ i ∧ i < xs.length then bnd (Nat.beq sz (E.ti e).sz) (some (.ea sz xs i.toNat 0)) else none
  | .array n e => if 0 ≤ i ∧ i < n then (match x with
    | .reg t off => some (.reg t (off + i.toNat * (E.ti e).sz))
    | .v (.ptr id off) => some (.v (.ptr id (off + i.toNat * (E.ti e).sz)))
    | _ => none) else none
  | _ => none

/-- Does what an address leads to in the frame still stand open? -/
def opn (s : St) : T → Bool
  | .reg t _ => (s.lc t).isSome
  | .mref t _ _ _ _ => (s.lc t).isSome
  | _ => true
def rds : T → List Nat
  | .reg t _ => [t]
  | .mref t _ _ _ _ => [t]
  | _ => []
def oneR (s : St) (x : T) (y : Option T) : Option Eff := bnd (opn s x) (y.map fun y => { val := y, lr := rds x })

def intOf : T → Option Int
  | .v (.int _ n) => some n
  | _ => none

def aIndex (E : Env) (ty : TypeId) (x : T) (i : Int) : Option T :=
  match (E.ti ty).k with
  | .str => match x with
    | .v (.str l) => if 0 ≤ i then (l[i.toNat]?).map fun b => .v (.int .u8 b.toNat) else none
    | _ => none
  | _ => none

/-- A slice expression's three bounds, as numbers. -/
def aSlice (E : Env) (ty : TypeId) (x : T) (lo hi mx : Option Int) : Option T :=
  match (E.ti ty).k with
  | .str => match x with
    | .v (.str l) =>
      let h := hi.getD l.length; let o := lo.getD 0
      if 0 ≤ o ∧ o ≤ h ∧ h ≤ l.length then (match mx with | none => some (.v (.str ((l.drop o.toNat).take (h.toNat - o.toNat)))) | some _ => none) else none
    | _ => none
  | .slice e => match x with
    | .mref t off len sz ag =>
      let h := hi.getD len; let o := lo.getD 0
      if 0 ≤ o ∧ o ≤ h ∧ h ≤ len then (match mx with | none => bnd (Nat.beq sz (E.ti e).sz) (some (.mref t (off + o.toNat * sz) (h.toNat - o.toNat) sz ag)) | some _ => none) else none
    | x => x.slice.bind fun (sz, xs) =>
      let h := hi.getD xs.length; let o := lo.getD 0
      if 0 ≤ o ∧ o ≤ h ∧ h ≤ xs.length then bnd (Nat.beq sz (E.ti e).sz || Nat.beq sz 0) (match mx with
        | none => some (.v (.sl sz ((xs.drop o.toNat).take (h.toNat - o.toNat))))
        | some q => if q = h ∧ hi.isSome = true then some (.own 0 sz ((xs.drop o.toNat).take (h.toNat - o.toNat))) else none) else none
  | .array n e => match x with
    | .reg t off =>
      let h := hi.getD n; let o := lo.getD 0
      if 0 ≤ o ∧ o ≤ h ∧ h ≤ n then (match mx with | none => some (.mref t (off + o.toNat * (E.ti e).sz) (h.toNat - o.toNat) (E.ti e).sz (E.ti e).isAgg) | some _ => none) else none
    | _ => none
  | _ => none

/-- The struct, or array, that is made of parts; the other cells are zero. -/
def aFill (place : Nat → Option (Nat × Nat)) (cells : List T) : List (Nat × T) → Option (List T)
  | [] => some cells
  | (i, x) :: r => (place i).bind fun (off, n) => x.cells.bind fun ys => bnd (Nat.beq ys.length n && Nat.ble (off + n) cells.length) (aFill place (setAt cells off ys) r)

def aBuild (E : Env) (ty : TypeId) (ps : List (Nat × T)) : Option T :=
  match (E.ti ty).k with
  | .struct fs => bnd (Nat.beq (E.ti ty).zero.length (E.ti ty).sz) ((aFill (fun i => fs[i]?.map fun (o, ft) => (o, (E.ti ft).sz)) (E.ti ty).zero ps).map .agg)
  | .array n e => bnd (Nat.beq (E.ti ty).zero.length (E.ti ty).sz) ((aFill (fun i => bnd (Nat.blt i n) (some (i * (E.ti e).sz, (E.ti e).sz))) (E.ti ty).zero ps).map .agg)
  | _ => none

def reps {α : Type} (n : Nat) (z : List α) : List α := (List.replicate n z).flatten

def room (n by_ : Nat) : Bool := Nat.blt 0 by_ && Nat.ble (n * by_) 140737488355328

def aBuildSlice (E : Env) (ty : TypeId) (len : Nat) (ps : List (Nat × T)) : Option T :=
  match (E.ti ty).k with
  | .slice e => (aFill (fun i => bnd (Nat.blt i len) (some (i * (E.ti e).sz, (E.ti e).sz))) (reps len (E.ti e).zero) ps).bind fun cs =>
      (chunk (E.ti e).sz (E.ti e).isAgg len cs).bind fun xs => bnd (Nat.beq (E.ti e).zero.length (E.ti e).sz && Nat.ble (len * (E.ti e).sz) 16777216 && Nat.blt 0 (E.ti e).sz) (some (.own 0 (E.ti e).sz xs))
  | _ => none

/-- append: the base's form, the label of what comes out. -/
def aAppend (E : Env) (s : St) (m : AMem) (ty : TypeId) (d : Nat) (base : T) (szx : Nat) (ys : List AV) : Option Eff :=
  match (E.ti ty).k with
  | .slice e =>
    let i := E.ti e
    bnd ((Nat.beq szx i.sz || ys.isEmpty) && Nat.beq i.zero.length i.sz) <| match base with
    | .own k sz xs =>
      let q := tk d (bif Nat.beq k 0 then (bif xs.isEmpty then e else 0) else elOf k)
      bnd ((Nat.beq k 0 || s.live k) && (Nat.beq sz i.sz || xs.isEmpty && (Nat.beq k 0 || Nat.beq sz 0)) && room (xs.length + ys.length) i.by_ && Nat.blt 0 i.sz && !(s.seen q) && Nat.blt 0 d && (Nat.beq (elOf k) 0 || Nat.beq (elOf k) e) && Nat.blt e 65536)
        (some { val := .own q i.sz (xs ++ ys), kill := bif Nat.beq k 0 then [] else [k], new := [q] })
    | .ld id off k sz xs => (m.blk id).bind fun cs => match cs[off]? with
      | some (.own k' sz' xs') => if k' = k then bnd (Nat.beq sz i.sz && room (xs.length + ys.length) i.by_ && Nat.blt 0 i.sz && !(s.seen (tk d (elOf k))) && Nat.blt 0 d && (Nat.beq (elOf k) 0 || Nat.beq (elOf k) e))
          (some { val := .own (tk d (elOf k)) i.sz (xs ++ ys), new := [tk d (elOf k)], mr := true, mw := some { m with blk := upd m.blk id (some (cs.set off (.v (.sl sz' xs')))) } }) else none
      | _ => none
    | _ => none
  | _ => none

def aMin (mn : Bool) : List T → Option T
  | [.v (.int k x), .v (.int k' y)] => if k = k' then some (.v (.int k (match mn with | true => (if y < x then y else x) | false => (if x < y then y else x)))) else none
  | _ => none

def aConvert (E : Env) (s : St) (src dst : TypeId) (x : T) : Option Eff :=
  match (E.ti src).k, (E.ti dst).k with
  | .int _, .int k => match x with | .v (.int _ n) => oneV (some (.int k (k.wrap n))) | _ => none
  | .str, .str => match x with | .v (.str l) => oneV (some (.str l)) | _ => none
  | .int _, .str => match x with | .v (.int _ n) => if 0 ≤ n ∧ n < 128 then oneV (some (.str [UInt8.ofNat n.toNat])) else none | _ => none
  | .str, .slice e => match (E.ti e).k, x with
    | .int .u8, .v (.str l) => oneV (some (.sl 1 (ofBytes l)))
    | _, _ => none
  | .slice e, .str => match (E.ti e).k with
    | .int .u8 => match x with
      | .mref t off len _ _ => (s.lc t).bind fun cs => (chunk 1 false len (cs.drop off)).bind fun xs => (bytesOf xs).map fun l => { val := .v (.str l), lr := [t] }
      | x => x.slice.bind fun (_, xs) => oneV ((bytesOf xs).map .str)
    | _ => none
  | _, _ => none

def aMakeSlice (E : Env) (ty : TypeId) (d : Nat) (s : St) (l c : Int) : Option Eff :=
  match (E.ti ty).k with
  | .slice e =>
    let i := E.ti e
    if 0 ≤ l ∧ l ≤ c then bnd (room c.toNat i.by_ && Nat.blt 0 i.sz && Nat.beq i.zero.length i.sz) (
      if l = c then bnd (!(s.seen d)) (some { val := .mref d 0 l.toNat i.sz i.isAgg, lw := [(d, some (reps l.toNat i.zero))], lr := [d], use := [d] })
      else if l = 0 then bnd (!(s.seen (tk d e)) && Nat.blt 0 d && Nat.blt e 65536) (some { val := .own (tk d e) i.sz [], new := [tk d e] }) else none) else none
  | _ => none

def aLen (E : Env) (ty : TypeId) (x : T) : Option T :=
  match (E.ti ty).k with
  | .str => match x with | .v (.str l) => some (.v (.int .i64 l.length)) | _ => none
  | .slice _ => match x with
    | .mref _ _ len _ _ => some (.v (.int .i64 len))
    | x => x.slice.map fun (_, xs) => .v (.int .i64 xs.length)
  | _ => none

def flatKey : AV → Bool
  | .int _ _ => true
  | .str _ => true
  | _ => false

def find (k : AV) : List (AV × AV) → Option (Option AV)
  | [] => some none
  | (k', x) :: r => (keyEq k k').bind fun b => bif b then some (some x) else find k r

def mset (k x : AV) : List (AV × AV) → Option (List (AV × AV))
  | [] => some [(k, x)]
  | (k', y) :: r => (keyEq k k').bind fun b => bif b then some ((k, x) :: r) else (mset k x r).map ((k', y) :: ·)

/-- Is the key a number, or a text, as the map's type has it? -/
def keyOk (E : Env) (ty : TypeId) : AV → Bool
  | .int _ _ => match (E.ti ty).k with | .int _ => true | _ => false
  | .str _ => match (E.ti ty).k with | .str => true | _ => false
  | _ => false

def aLookup (E : Env) (s : St) (ty : TypeId) (x : T) (k : T) (ok : Bool) : Option Eff :=
  match (E.ti ty).k, k with
  | .map q e, .v k => bnd (keyOk E q k) ((match x with
      | .v (.mp ks vs) => some (ks.zip vs, ([] : List Nat))
      | .omap t => (s.mp t).map (·, [t])
      | _ => none).bind fun (es, r) => (find k es).bind fun o =>
        (match o with | some y => some y | none => bnd (Nat.beq (E.ti e).zero.length (E.ti e).sz && (E.ti e).ok) <| (T.agg (E.ti e).zero).av.bind fun z => match z with | .agg [c] => bnd (!(E.ti e).isAgg) (some c) | .agg cs => bnd (E.ti e).isAgg (some (.agg cs)) | _ => none).map fun y =>
        match ok with
        | true => { val := .v (.tup [y, .bool o.isSome]), pr := r }
        | false => { val := .v y, pr := r })
  | _, _ => none

def aMapUpdate (E : Env) (s : St) (ty : TypeId) (x k y : T) : Option Eff :=
  match (E.ti ty).k, x, k with
  | .map q _, .omap t, .v k => bnd (keyOk E q k) ((s.mp t).bind fun es => (y.av).bind fun y => (mset k y es).map fun es' => { pr := [t], pw := [(t, some es')] })
  | _, _, _ => none

def appTy (E : Env) : Option TypeId → Bool
  | none => true
  | some t => match (E.ti t).k with | .slice _ => true | .str => true | _ => false

/-- An operation's operands, and what it does with them. -/
def aEff (E : Env) (call : CallT) (s : St) (m : AMem) (o : Oper) : Option Eff :=
  let ev := s.ev
  match o.op with
  | .move x => one (ev x)
  | .assign x => one (ev x)
  | .pick c a b => (ev c).bind fun c => (boolOf c).bind fun c => match c with | true => one (ev a) | false => one (ev b)
  | .alloc ty => bnd (E.ti ty).ok <| bif E.regs.contains (dOp o.dst) then bnd (!(s.seen (dOp o.dst)) && o.dst.isSome && Nat.beq (E.ti ty).zero.length (E.ti ty).sz) (some { val := .reg (dOp o.dst) 0, lw := [(dOp o.dst, some (E.ti ty).zero)], lr := [dOp o.dst], use := [dOp o.dst] })
      else bnd (Nat.beq (E.ti ty).zero.length (E.ti ty).sz) (some { val := .v (.ptr m.next 0), mr := true, mw := some { next := m.next + 1, blk := upd m.blk m.next (some (E.ti ty).zero), ty := upd m.ty m.next ty } })
  | .box ty x => bnd (E.ti ty).ok <| (ev x).bind fun x => x.cells.bind fun cs => bnd (Nat.beq cs.length (E.ti ty).sz) (bif E.regs.contains (dOp o.dst) then bnd (!(s.seen (dOp o.dst)) && o.dst.isSome) (some { val := .reg (dOp o.dst) 0, lw := [(dOp o.dst, some cs)], lr := [dOp o.dst], use := [dOp o.dst] })
      else some { val := .v (.ptr m.next 0), mr := true, mw := some { next := m.next + 1, blk := upd m.blk m.next (some (cs.map down)), ty := upd m.ty m.next ty } })
  | .build ty ps => (ps.toList.mapM fun (ix : Nat × Operand) => (ev ix.2).map fun y => (ix.1, y)).bind fun ps => one (aBuild E ty ps)
  | .buildSlice ty len ps => (ps.toList.mapM fun (ix : Nat × Operand) => (ev ix.2).map fun y => (ix.1, y)).bind fun ps => one (aBuildSlice E ty len ps)
  | .load ty a => bnd (E.ti ty).ok <| (ev a).bind fun p => aLoad E s m ty p
  | .store ty a x => bnd (E.ti ty).ok <| (ev a).bind fun p => (ev x).bind fun x => aStore E s m ty p x
  | .nilCheck x => (ev x).bind fun x => match x with
      | .reg _ _ => oneR s x (some x)
      | .ea _ _ _ _ => one (some x)
      | .v (.ptr _ _) => one (some x)
      | _ => none
  | .binOp op ty x y _ => (ev x).bind fun x => (ev y).bind fun y => x.av.bind fun x => y.av.bind fun y => match x with | .agg _ => none | x => oneV (aBin E.ti ty op x y)
  | .unOp op _ x => (ev x).bind fun x => x.av.bind fun x => oneV (aUn op x)
  | .convert src dst x => (ev x).bind fun x => aConvert E s src dst x
  | .makeFunc (.func f) first cap => bnd (Nat.beq first.size 0) ((cap.toList.mapM fun x => (ev x).bind T.av).map fun cap => { val := .v (.fn f cap) })
  | .makeMap _ none => bnd (!(s.seen (dOp o.dst)) && o.dst.isSome) (some { val := .omap (dOp o.dst), pw := [(dOp o.dst, some [])], pr := [dOp o.dst], use := [dOp o.dst] })
  | .makeSlice ty l c => (ev l).bind fun l => (intOf l).bind fun l => (ev c).bind fun c => (intOf c).bind fun c => bnd o.dst.isSome <| aMakeSlice E ty (dOp o.dst) s l c
  | .slice ty x lo hi mx => (ev x).bind fun x =>
      let b (y : Option Operand) : Option (Option Int) := match y with | none => some none | some y => (ev y).bind fun y => (intOf y).map some
      (b lo).bind fun lo => (b hi).bind fun hi => (b mx).bind fun mx => oneR s x (aSlice E ty x lo hi mx)
  | .fieldAddr ty x fi => (ev x).bind fun x => oneR s x (aField E ty fi x)
  | .indexAddr ty x i => (ev x).bind fun x => (ev i).bind fun i => (intOf i).bind fun i => oneR s x (aIndexAddr E ty x i)
  | .index ty x i => (ev x).bind fun x => (ev i).bind fun i => (intOf i).bind fun i => one (aIndex E ty x i)
  | .lookup ty x k ok => (ev x).bind fun x => (ev k).bind fun k => aLookup E s ty x k ok
  | .mapUpdate ty x k y => (ev x).bind fun x => (ev k).bind fun k => (ev y).bind fun y => aMapUpdate E s ty x k y
  | .insert ty x k y => (ev x).bind fun x => (ev k).bind fun k => (ev y).bind fun y => aMapUpdate E s ty x k y
  | .range ty x => (ev x).bind fun x => match (E.ti ty).k, x with
    | .str, .v (.str l) => bnd (!(s.seen (dOp o.dst)) && o.dst.isSome) (some { val := .sit (dOp o.dst), iw := [(dOp o.dst, some (l, 0))], ir := [dOp o.dst], use := [dOp o.dst] })
    | _, _ => none
  | .next x true => (ev x).bind fun x => match x with
    | .sit t => (s.it t).map fun (l, p) => match Nat.blt p l.length with
      | true => let r := Utf8.decode ⟨l.toArray⟩ p
          { val := .v (.tup [.bool true, .int .i64 p, .int .i32 r.1]), ir := [t], iw := [(t, some (l, p + r.2))] }
      | false => { val := .v (.tup [.bool false]), ir := [t] }
    | _ => none
  | .extract x i => (ev x).bind fun x => match x with | .v (.tup vs) => oneV vs[i]? | _ => none
  | .call c => (c.args.toList.mapM ev).bind fun as =>
    match c.callee with
    | .builtin .len => match as, c.argTypes[0]? with | [x], some ty => oneR s x (aLen E ty x) | _, _ => none
    | .builtin .min => one (aMin true as)
    | .builtin .max => one (aMin false as)
    | .builtin .append => match as, c.argTypes[0]? with
      | [b, x], some ty => bnd (appTy E c.argTypes[1]?) <| match x with
        | .mref t off len sz ag => (s.lc t).bind fun cs => (chunk sz ag len (cs.drop off)).bind fun ys => (aAppend E s m ty (dOp o.dst) b sz ys).map fun e => { e with lr := t :: e.lr }
        | .v (.str l) => aAppend E s m ty (dOp o.dst) b 1 (ofBytes l)
        | x => x.slice.bind fun (sz, ys) => aAppend E s m ty (dOp o.dst) b sz ys
      | _, _ => none
    | .builtin .copy => match as, (c.argTypes[0]?).map fun ty => (E.ti ty).k with
      | [.mref t off len sz _, .mref t' off' len' sz' _], some (.slice e) => bnd (Nat.beq sz sz' && Nat.beq sz (E.ti e).sz) ((s.lc t).bind fun cs => (s.lc t').bind fun cs' =>
          let n := min len len'
          bnd (Nat.ble (off + n * sz) cs.length && Nat.ble (off' + n * sz) cs'.length) (some { val := .v (.int .i64 n), lr := [t, t'], lw := [(t, some (setAt cs off ((cs'.drop off').take (n * sz))))] }))
      | _, _ => none
    | .value f => (ev f).bind fun f => match f with
      | .v (.fn f cap) => (escs s as).bind fun (xs, ls, ps) => bnd (distinct ls && distinct ps) ((call f (xs ++ cap) m).map fun (r, m') => { val := .v r, mr := true, mw := some m', lr := ls, lw := closeL ls, pr := ps, pw := closeP ps })
      | _ => none
    | _ => none
  | .defer c => match c.callee, c.args.toList with
    | .value f, [] => (ev f).bind fun f => match f with
      | .v (.fn f cap) => some { df := [.fn f cap] }
      | _ => none
    | _, _ => none
  | _ => none

def updL {α : Type} (f : Nat → α) : List (Nat × α) → Nat → α
  | [], j => f j
  | (k, x) :: r, j => bif j.beq k then x else updL f r j

def putT (f : Nat → T) (dst : Option Tmp) (x : T) : Nat → T := match dst with | some d => upd f d x | none => f

/-- The frame behind an effect. -/
def St.put (s : St) (dst : Option Tmp) (e : Eff) : St :=
  { tm := putT s.tm dst e.val
    lc := updL s.lc e.lw
    mp := updL s.mp e.pw
    it := updL s.it e.iw
    live := fun k => e.new.contains k || s.live k && !(e.kill.contains k)
    seen := fun k => e.new.contains k || e.use.contains k || s.seen k
    df := e.df ++ s.df }

def yieldedA (ops : Array Oper) (s : St) (j : Nat) : Option Bool := (((ops[j]?).bind (·.dst)).bind fun t => boolOf (s.tm t))

def wantedA (ops : Array Oper) (s : St) (o : Oper) : Option Bool :=
  match o.guard with
  | none => some true
  | some (j, want) => match (ops[j]?).bind (·.dst) with
    | none => none
    | some t => match s.tm t with
      | .v (.bool b) => some (b == want)
      | .undef => some false
      | _ => none

def dstOk (n : Nat) : Option Tmp → Bool
  | some d => Nat.blt d n
  | none => true

/-- One operation of a region. -/
def aStep (E : Env) (call : CallT) (ops : Array Oper) (o : Oper) (sm : St × AMem) : Option (St × AMem × Eff) :=
  bnd (dstOk E.nt o.dst) ((wantedA ops sm.1 o).bind fun b => match b with
  | true => (aEff E call sm.1 sm.2 o).map fun e => (sm.1.put o.dst e, e.mw.getD sm.2, e)
  | false => some (sm.1.put o.dst {}, sm.2, {}))

end Go.Ax
/- Ax: regions, code, calls. -/
set_option linter.unusedVariables false
namespace Go.Ax

/-- Of each executed operation: its effect. Two operations of a region that draws its order, neither ordered before the other: apart? -/
def apartE (a b : Eff) : Bool :=
  (a.lw.all fun x => !(b.lr.contains x.1) && b.lw.all fun y => !(Nat.beq x.1 y.1)) && (b.lw.all fun x => !(a.lr.contains x.1)) &&
  (a.pw.all fun x => !(b.pr.contains x.1) && b.pw.all fun y => !(Nat.beq x.1 y.1)) && (b.pw.all fun x => !(a.pr.contains x.1)) &&
  (a.iw.all fun x => !(b.ir.contains x.1) && b.iw.all fun y => !(Nat.beq x.1 y.1)) && (b.iw.all fun x => !(a.ir.contains x.1)) &&
  (!(a.mw.isSome) || !b.mr && !(b.mw.isSome)) && (!(b.mw.isSome) || !a.mr) &&
  (a.kill.isEmpty && a.new.isEmpty || b.kill.isEmpty && b.new.isEmpty) && (a.df.isEmpty || b.df.isEmpty) && a.use.all (fun k => !(b.use.contains k) && !(b.new.contains k)) && b.use.all (fun k => !(a.new.contains k))

def runOps (E : Env) (call : CallT) (ops : Array Oper) : List Oper → (St × AMem) → Option (St × AMem × List Eff)
  | [], sm => some (sm.1, sm.2, [])
  | o :: r, sm => (aStep E call ops o sm).bind fun (s, m, e) => (runOps E call ops r (s, m)).map fun (s', m', es) => (s', m', e :: es)

/-- All that must come before each operation, by the edges that bind: bit sets. -/
def befGo : List Oper → List Nat → List Nat
  | [], acc => acc
  | o :: r, acc => befGo r (acc ++ [o.after.toList.foldl (fun s e => bif Region.binds .any e then s ||| 2 ^ e.on ||| acc.getD e.on 0 else s) 0])

/-- Every edge that binds leads back in the text. -/
def edgesDown : Nat → List Oper → Bool
  | _, [] => true
  | i, o :: r => o.after.toList.all (fun e => !(Region.binds .any e) || Nat.blt e.on i) && edgesDown (i + 1) r

def pairsOk (ops : Array Oper) (bs : List Nat) (es : List Eff) : Bool :=
  (List.range es.length).all fun j => (List.range j).all fun i => (bs.getD j 0).testBit i || (apartE (es.getD i {}) (es.getD j {}) && (ops.getD i default).apart ops (ops.getD j default))

def aRegion (E : Env) (call : CallT) (ops : Array Oper) (draw : Bool) (sm : St × AMem) : Option (St × AMem) :=
  (runOps E call ops ops.toList sm).bind fun (s, m, es) => bnd (!draw || (edgesDown 0 ops.toList && pairsOk ops (befGo ops.toList []) es)) (some (s, m))

inductive AX where
  | normal
  | exit (id : Nat)
  | ret
  deriving Inhabited

abbrev RT := Option (AX × St × AMem)

/-- What is kept at a loop's head: temporaries (with a label: one that is appended to), variables with labels of their cells, maps. -/
structure Keep where
  tm : List (Nat × Nat)
  lc : List (Nat × List Nat)
  mp : List Nat
  it : List Nat := []
  deriving Inhabited

def labels (k : Keep) : List Nat := (k.tm.map (·.2) ++ (k.lc.map (·.2)).flatten).filter (fun n => !(Nat.beq n 0))

/-- A kept temporary, by its label: 0: no right is kept; else it has to be one that may be appended to. What it was called. -/
def keepT (s : St) (l : Nat) (x : T) : Option (T × List (Nat × Nat)) :=
  bif Nat.beq l 0 then (match x with
    | .own 0 sz xs => some (.own 0 sz xs, [])
    | .own _ sz xs => some (.v (.sl sz xs), [])
    | .ld _ _ _ sz xs => some (.v (.sl sz xs), [])
    | .agg _ => x.av.map fun y => (.v y, [])
    | x => some (x, []))
  else (match x with
    | .own k sz xs => bnd ((Nat.beq k 0 || s.live k) && (Nat.beq (elOf l) 0 || bif Nat.beq k 0 then xs.isEmpty else Nat.beq (elOf l) (elOf k))) (some (.own l sz xs, bif Nat.beq k 0 then [] else [(k, l)]))
    | _ => none)

def keepTs (s : St) : List (Nat × Nat) → Option (List (Nat × T) × List (Nat × Nat))
  | [] => some ([], [])
  | (t, l) :: r => (keepT s l (s.tm t)).bind fun (x, ks) => (keepTs s r).map fun (xs, ks') => ((t, x) :: xs, ks ++ ks')

def keepCells (s : St) : List Nat → List T → Option (List T × List (Nat × Nat))
  | _, [] => some ([], [])
  | ls, c :: r => (keepT s (ls.headD 0) c).bind fun (x, ks) => (keepCells s ls.tail r).map fun (xs, ks') => (x :: xs, ks ++ ks')

def keepLs (s : St) : List (Nat × List Nat) → Option (List (Nat × List T) × List (Nat × Nat))
  | [] => some ([], [])
  | (t, ls) :: r => match s.lc t with
    | none => keepLs s r
    | some cs => (keepCells s ls cs).bind fun (x, ks) => (keepLs s r).map fun (xs, ks') => ((t, x) :: xs, ks ++ ks')

def ofL {α : Type} : List (Nat × α) → Nat → Option α
  | [], _ => none
  | (k, x) :: r, j => bif j.beq k then some x else ofL r j

/-- A temporary that leads into the frame leads to what is kept. -/
def leads (ls : List (Nat × List T)) (mps its : List Nat) : T → T
  | .reg t off => match ofL ls t with | some _ => .reg t off | none => .any
  | .mref t off len sz ag => match ofL ls t with | some _ => .mref t off len sz ag | none => .any
  | .omap t => bif mps.contains t then .omap t else .any
  | .sit t => bif its.contains t then .sit t else .any
  | x => x

def canon (k : Keep) (s : St) : Option St :=
  (keepTs s k.tm).bind fun (ts, ks) => (keepLs s k.lc).bind fun (ls, ks') =>
    bnd (distinct ((ks ++ ks').map (·.1))) (some
      { tm := fun j => match ofL ts j with | some x => leads ls k.mp k.it x | none => .any
        lc := fun j => ofL ls j
        mp := fun j => bif k.mp.contains j then s.mp j else none
        it := fun j => bif k.it.contains j then s.it j else none
        live := fun j => (labels k).contains j
        seen := fun j => (labels k).contains j || (k.lc.map (·.1)).contains j || k.mp.contains j || k.it.contains j
        df := s.df })

def loopN (k : Option Keep) (body : St → AMem → RT) : Nat → St → AMem → RT
  | 0, _, _ => none
  | n + 1, s, m => k.bind fun kp => (canon kp s).bind fun s => (body s m).bind fun r => match r with
    | (.normal, s, m) => loopN k body n s m
    | r => some r

def firstRegion : Code → Nat
  | .region id _ _ => id
  | .seq a _ => firstRegion a
  | .block _ b => firstRegion b
  | .loop b => firstRegion b
  | _ => 1000000

/-- What a function's run is told: which variables stay in the frame; what is kept at each loop's head. -/
structure Ann where
  regs : List Nat := []
  keep : List (Nat × Keep) := []
  deriving Inhabited

def aCode (E : Env) (call : CallT) (keep : List (Nat × Keep)) (n : Nat) : Code → St → AMem → RT
  | .skip, s, m => some (.normal, s, m)
  | .region _ ops draw, s, m => (aRegion E call ops draw (s, m)).map fun (s, m) => (.normal, s, m)
  | .seq a b, s, m => (aCode E call keep n a s m).bind fun r => match r with
    | (.normal, s, m) => aCode E call keep n b s m
    | r => some r
  | .cond c a b, s, m => ((s.ev c).bind boolOf).bind fun c => match c with
    | true => aCode E call keep n a s m
    | false => aCode E call keep n b s m
  | .block id b, s, m => (aCode E call keep n b s m).map fun r => match r with
    | (.exit j, s, m) => bif j.beq id then (.normal, s, m) else (.exit j, s, m)
    | r => r
  | .loop b, s, m => loopN (ofL keep (firstRegion b)) (aCode E call keep n b) n s m
  | .exit id, s, m => some (.exit id, s, m)
  | .ret, s, m => some (.ret, s, m)
  | _, _, _ => none

structure FnD where
  np : Nat
  nt : Nat
  results : List ResultVar
  body : Code
  ann : Ann
  deriving Inhabited

structure Prg where
  ti : Nat → TI
  fn : FuncId → Option FnD
  /-- functions that are known by their contracts -/
  spec : FuncId → Option (List AV → AMem → Option (AV × AMem))

def enterSt (args : List AV) : St :=
  { tm := fun j => match args[j]? with | some x => .v x | none => .undef
    lc := fun _ => none, mp := fun _ => none, it := fun _ => none, live := fun _ => false, seen := fun _ => false, df := [] }

/-- What a result is read from. -/
def resT (E : Env) (s : St) (m : AMem) : ResultVar → Option T
  | .tmp t => some (s.tm t)
  | .cell a ty => bnd (E.ti ty).ok ((aLoad E s m ty (s.tm a)).map (·.val))

def resOf (E : Env) (s : St) (m : AMem) (rs : List ResultVar) : Option AV :=
  (rs.mapM (resT E s m)).bind fun ts => (escs s ts).bind fun (xs, ls, ps) => bnd (distinct ls && distinct ps) (match xs with
    | [x] => some x
    | xs => some (.tup xs))

def runDefers (call : CallT) : List AV → AMem → Option AMem
  | [], m => some m
  | .fn f cap :: r, m => (call f cap m).bind fun (_, m) => runDefers call r m
  | _, _ => none

def FnD.env (P : Prg) (d : FnD) : Env := { ti := P.ti, regs := d.ann.regs, nt := d.nt }

/-- A body's run. -/
def aBody (P : Prg) (call : CallT) (n : Nat) (d : FnD) (args : List AV) (m : AMem) : Option (St × AMem) :=
  bnd (Nat.beq args.length d.np && Nat.ble d.np d.nt) ((aCode (d.env P) call d.ann.keep n d.body (enterSt args) m).bind fun r => match r with
    | (.exit _, _, _) => none
    | (_, s, m) => some (s, m))

/-- A deferred call: of a function that defers nothing. -/
def aDef (P : Prg) (call : CallT) (n : Nat) : CallT := fun f args m =>
  (P.fn f).bind fun d => (aBody P call n d args m).bind fun (s, m) => bnd s.df.isEmpty ((resOf (d.env P) s m d.results).map (·, m))

def aCall (P : Prg) : Nat → CallT
  | 0, _, _, _ => none
  | n + 1, f, args, m => match P.spec f with
    | some g => g args m
    | none => (P.fn f).bind fun d => (aBody P (aCall P n) n d args m).bind fun (s, m) => (runDefers (aDef P (aCall P n) n) s.df m).bind fun m' => (resOf (d.env P) s m' d.results).map (·, m')

end Go.Ax
