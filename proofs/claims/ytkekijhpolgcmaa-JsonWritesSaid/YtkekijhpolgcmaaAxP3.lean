/- The program is what the machine is told: lives by its run. -/
import Derived.Test.YtkekijhpolgcmaaAxP2
set_option linter.unusedVariables false
namespace Go.Proofs.Ytkekijhpolgcmaa.X
open Go Go.Ax Go.RowKit
set_option maxRecDepth 100000
theorem spec_ok (f : FuncId) (g : List AV → AMem → Option (AV × AMem)) (h : spec f = some g) : SpecOk Try.prog f g := by
  unfold spec at h
  split at h
  · injection h with h; subst h; exact spec_index
  · injection h with h; subst h; exact spec_cc
  · injection h with h; subst h; exact spec_str
  · cases h
theorem prg0 : PrgOk Try.prog P0 := ⟨mixed, tys_ok, fn_ok, spec_ok⟩
def m0 : AMem := { next := 1, blk := fun _ => none, ty := fun _ => 0 }
theorem lives_run : (aCall P0 300 7 [] m0).map (fun x => match x.1 with | .bool b => b | _ => false) = some true := by kernel_rfl
theorem lives_ok : ∃ m1, aCall P0 300 7 [] m0 = some (.bool true, m1) := by
  have h := lives_run
  cases hr : aCall P0 300 7 [] m0 with
  | none => rw [hr] at h; cases h
  | some x =>
    obtain ⟨v, m1⟩ := x
    rw [hr] at h
    simp only [Option.map_some, Option.some.injEq] at h
    cases v <;> first | (cases h; done) | skip
    rename_i b
    simp only at h
    subst h
    exact ⟨m1, rfl⟩
theorem spec_lives : SpecOk Try.prog 7 sLives := by
  obtain ⟨m1, h⟩ := lives_ok
  have := closed_spec prg0 rfl (by decide) h
  have e : sLives = fun args m => match args with | [] => some (.bool true, m) | _ => none := by
    funext args m
    cases args <;> rfl
  rw [e]; exact this
theorem prg : PrgOk Try.prog P := ⟨mixed, tys_ok, fn_ok, fun f g h => by
  change (bif Nat.beq f 7 then some sLives else spec f) = some g at h
  cases hf : Nat.beq f 7 with
  | true =>
    rw [hf] at h
    obtain rfl := Nat.eq_of_beq_eq_true hf
    injection h with h; subst h; exact spec_lives
  | false => rw [hf] at h; exact spec_ok f g h⟩
end Go.Proofs.Ytkekijhpolgcmaa.X
