/- Seat facts: the machine's program, and the contracts it takes. -/
import Derived.Test.YtkekijhpolgcmaaAxEnv
import Derived.Test.YtkekijhpolgcmaaAxM9
import Derived.Lib.Bytealg
set_option linter.unusedVariables false
namespace Go.Proofs.Ytkekijhpolgcmaa.X
open Go Go.Ax
def sIndexByte : List AV → AMem → Option (AV × AMem)
  | [.str l, .int .u8 c], m => some (.int .i64 (Lib.indexByte l c.toNat.toUInt8), m)
  | _, _ => none
def sCopyCheck : List AV → AMem → Option (AV × AMem)
  | [.ptr id off], m => (m.blk id).bind fun cs => match cs[off]? with
    | some (.v .nilp) => bnd (Nat.beq (m.ty id) 40 && Nat.beq off 0 && Nat.beq cs.length 2) <| some (.tup [], { m with blk := upd m.blk id (some (cs.set off (.v (.ptr id off)))) })
    | some (.v (.ptr i o)) => if i = id ∧ o = off ∧ off = 0 then some (.tup [], m) else none
    | _ => none
  | _, _ => none
def sString : List AV → AMem → Option (AV × AMem)
  | [.ptr id off], m => bnd (Nat.beq (m.ty id) 40 && Nat.beq off 0) <| (m.blk id).bind fun (cs : List T) => match (cs[1]? : Option T) with
    | some (T.own k 1 xs) => bnd (!(Nat.beq k 0) && !(xs.isEmpty) && Nat.beq (elOf k) 5 && Nat.ble xs.length 1000000000000) ((bytesOf xs).map fun l => (.str l, { m with blk := upd m.blk id (some (cs.set 1 (.v (.sl 1 xs)))) }))
    | _ => none
  | _, _ => none
def spec : FuncId → Option (List AV → AMem → Option (AV × AMem))
  | 59 => some sIndexByte
  | 35 => some sCopyCheck
  | 12 => some sString
  | _ => none
noncomputable def P0 : Prg := { ti := ti, fn := fn, spec := spec }
/-- lives, a call without arguments, is known by its value. -/
def sLives : List AV → AMem → Option (AV × AMem)
  | [], m => some (.bool true, m)
  | _, _ => none
noncomputable def P : Prg := { ti := ti, fn := fn, spec := fun f => bif Nat.beq f 7 then some sLives else spec f }
end Go.Proofs.Ytkekijhpolgcmaa.X
