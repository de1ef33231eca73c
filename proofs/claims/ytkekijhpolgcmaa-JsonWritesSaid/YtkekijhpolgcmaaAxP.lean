/- Seat facts: what the machine is told of the program is so. -/
import Derived.Test.YtkekijhpolgcmaaAxM8
import Derived.Test.YtkekijhpolgcmaaAxF
import Derived.Test.YtkekijhpolgcmaaAxG
set_option linter.unusedVariables false
set_option linter.unusedSimpArgs false
namespace Go.Proofs.Ytkekijhpolgcmaa.X
open Go Go.Ax Go.RowKit
set_option maxRecDepth 100000
theorem tys_check : tysB Try.prog ti 105 = true := by kernel_rfl
theorem ti_out : ∀ t, 105 ≤ t → (ti t).ok = false := by
  intro t h
  unfold ti
  split <;> first | omega | rfl
theorem tys_ok : TysOk Try.prog ti := tysB_ok tys_check ti_out (fun t h => by
  unfold TI.ok at h
  split at h
  · rename_i hk; rw [hk]; rfl
  · cases h)
theorem mixed : Try.prog.follows .mixedOrders = true := by kernel_rfl

theorem fd_ok {f : Func} {a : Ann} {d : FnD} (h : fd f a = some d) : f.body = some d.body ∧ f.ntmps = d.nt ∧ f.results.toList = d.results := by
  unfold fd at h
  obtain ⟨b, h1, h2⟩ := Option.map_eq_some_iff.1 h
  subst h2
  exact ⟨h1, rfl, rfl⟩
theorem fn_ok (f : FuncId) (d : FnD) (h : fn f = some d) : ∃ fn : Func, Try.prog.funcs[f]? = some fn ∧ fn.body = some d.body ∧ fn.ntmps = d.nt ∧ fn.results.toList = d.results ∧ (fn.name == "runtime.NumGoroutine") = false := by
  unfold fn at h
  split at h
  · obtain ⟨h1, h2, h3⟩ := fd_ok h; exact ⟨_, Try.func2, h1, h2, h3, by kernel_rfl⟩
  · obtain ⟨h1, h2, h3⟩ := fd_ok h; exact ⟨_, Try.func3, h1, h2, h3, by kernel_rfl⟩
  · obtain ⟨h1, h2, h3⟩ := fd_ok h; exact ⟨_, Try.func4, h1, h2, h3, by kernel_rfl⟩
  · obtain ⟨h1, h2, h3⟩ := fd_ok h; exact ⟨_, Try.func5, h1, h2, h3, by kernel_rfl⟩
  · obtain ⟨h1, h2, h3⟩ := fd_ok h; exact ⟨_, Try.func6, h1, h2, h3, by kernel_rfl⟩
  · obtain ⟨h1, h2, h3⟩ := fd_ok h; exact ⟨_, Try.func7, h1, h2, h3, by kernel_rfl⟩
  · obtain ⟨h1, h2, h3⟩ := fd_ok h; exact ⟨_, Try.func8, h1, h2, h3, by kernel_rfl⟩
  · obtain ⟨h1, h2, h3⟩ := fd_ok h; exact ⟨_, Try.func9, h1, h2, h3, by kernel_rfl⟩
  · obtain ⟨h1, h2, h3⟩ := fd_ok h; exact ⟨_, Try.func10, h1, h2, h3, by kernel_rfl⟩
  · obtain ⟨h1, h2, h3⟩ := fd_ok h; exact ⟨_, Try.func11, h1, h2, h3, by kernel_rfl⟩
  · obtain ⟨h1, h2, h3⟩ := fd_ok h; exact ⟨_, Try.func12, h1, h2, h3, by kernel_rfl⟩
  · obtain ⟨h1, h2, h3⟩ := fd_ok h; exact ⟨_, Try.func13, h1, h2, h3, by kernel_rfl⟩
  · obtain ⟨h1, h2, h3⟩ := fd_ok h; exact ⟨_, Try.func14, h1, h2, h3, by kernel_rfl⟩
  · obtain ⟨h1, h2, h3⟩ := fd_ok h; exact ⟨_, Try.func15, h1, h2, h3, by kernel_rfl⟩
  · obtain ⟨h1, h2, h3⟩ := fd_ok h; exact ⟨_, Try.func16, h1, h2, h3, by kernel_rfl⟩
  · obtain ⟨h1, h2, h3⟩ := fd_ok h; exact ⟨_, Try.func17, h1, h2, h3, by kernel_rfl⟩
  · obtain ⟨h1, h2, h3⟩ := fd_ok h; exact ⟨_, Try.func18, h1, h2, h3, by kernel_rfl⟩
  · obtain ⟨h1, h2, h3⟩ := fd_ok h; exact ⟨_, Try.func19, h1, h2, h3, by kernel_rfl⟩
  · obtain ⟨h1, h2, h3⟩ := fd_ok h; exact ⟨_, Try.func20, h1, h2, h3, by kernel_rfl⟩
  · obtain ⟨h1, h2, h3⟩ := fd_ok h; exact ⟨_, Try.func21, h1, h2, h3, by kernel_rfl⟩
  · obtain ⟨h1, h2, h3⟩ := fd_ok h; exact ⟨_, Try.func22, h1, h2, h3, by kernel_rfl⟩
  · obtain ⟨h1, h2, h3⟩ := fd_ok h; exact ⟨_, Try.func23, h1, h2, h3, by kernel_rfl⟩
  · obtain ⟨h1, h2, h3⟩ := fd_ok h; exact ⟨_, Try.func24, h1, h2, h3, by kernel_rfl⟩
  · obtain ⟨h1, h2, h3⟩ := fd_ok h; exact ⟨_, Try.func25, h1, h2, h3, by kernel_rfl⟩
  · obtain ⟨h1, h2, h3⟩ := fd_ok h; exact ⟨_, Try.func26, h1, h2, h3, by kernel_rfl⟩
  · obtain ⟨h1, h2, h3⟩ := fd_ok h; exact ⟨_, Try.func27, h1, h2, h3, by kernel_rfl⟩
  · obtain ⟨h1, h2, h3⟩ := fd_ok h; exact ⟨_, Try.func28, h1, h2, h3, by kernel_rfl⟩
  · obtain ⟨h1, h2, h3⟩ := fd_ok h; exact ⟨_, Try.func29, h1, h2, h3, by kernel_rfl⟩
  · obtain ⟨h1, h2, h3⟩ := fd_ok h; exact ⟨_, Try.func30, h1, h2, h3, by kernel_rfl⟩
  · obtain ⟨h1, h2, h3⟩ := fd_ok h; exact ⟨_, Try.func31, h1, h2, h3, by kernel_rfl⟩
  · obtain ⟨h1, h2, h3⟩ := fd_ok h; exact ⟨_, Try.func32, h1, h2, h3, by kernel_rfl⟩
  · obtain ⟨h1, h2, h3⟩ := fd_ok h; exact ⟨_, Try.func33, h1, h2, h3, by kernel_rfl⟩
  · obtain ⟨h1, h2, h3⟩ := fd_ok h; exact ⟨_, Try.func34, h1, h2, h3, by kernel_rfl⟩
  · obtain ⟨h1, h2, h3⟩ := fd_ok h; exact ⟨_, Try.func35, h1, h2, h3, by kernel_rfl⟩
  · obtain ⟨h1, h2, h3⟩ := fd_ok h; exact ⟨_, Try.func36, h1, h2, h3, by kernel_rfl⟩
  · obtain ⟨h1, h2, h3⟩ := fd_ok h; exact ⟨_, Try.func37, h1, h2, h3, by kernel_rfl⟩
  · obtain ⟨h1, h2, h3⟩ := fd_ok h; exact ⟨_, Try.func38, h1, h2, h3, by kernel_rfl⟩
  · obtain ⟨h1, h2, h3⟩ := fd_ok h; exact ⟨_, Try.func39, h1, h2, h3, by kernel_rfl⟩
  · obtain ⟨h1, h2, h3⟩ := fd_ok h; exact ⟨_, Try.func40, h1, h2, h3, by kernel_rfl⟩
  · obtain ⟨h1, h2, h3⟩ := fd_ok h; exact ⟨_, Try.func41, h1, h2, h3, by kernel_rfl⟩
  · obtain ⟨h1, h2, h3⟩ := fd_ok h; exact ⟨_, Try.func42, h1, h2, h3, by kernel_rfl⟩
  · obtain ⟨h1, h2, h3⟩ := fd_ok h; exact ⟨_, Try.func44, h1, h2, h3, by kernel_rfl⟩
  · obtain ⟨h1, h2, h3⟩ := fd_ok h; exact ⟨_, Try.func45, h1, h2, h3, by kernel_rfl⟩
  · obtain ⟨h1, h2, h3⟩ := fd_ok h; exact ⟨_, Try.func46, h1, h2, h3, by kernel_rfl⟩
  · obtain ⟨h1, h2, h3⟩ := fd_ok h; exact ⟨_, Try.func47, h1, h2, h3, by kernel_rfl⟩
  · obtain ⟨h1, h2, h3⟩ := fd_ok h; exact ⟨_, Try.func48, h1, h2, h3, by kernel_rfl⟩
  · obtain ⟨h1, h2, h3⟩ := fd_ok h; exact ⟨_, Try.func49, h1, h2, h3, by kernel_rfl⟩
  · obtain ⟨h1, h2, h3⟩ := fd_ok h; exact ⟨_, Try.func50, h1, h2, h3, by kernel_rfl⟩
  · obtain ⟨h1, h2, h3⟩ := fd_ok h; exact ⟨_, Try.func51, h1, h2, h3, by kernel_rfl⟩
  · obtain ⟨h1, h2, h3⟩ := fd_ok h; exact ⟨_, Try.func52, h1, h2, h3, by kernel_rfl⟩
  · obtain ⟨h1, h2, h3⟩ := fd_ok h; exact ⟨_, Try.func53, h1, h2, h3, by kernel_rfl⟩
  · obtain ⟨h1, h2, h3⟩ := fd_ok h; exact ⟨_, Try.func54, h1, h2, h3, by kernel_rfl⟩
  · obtain ⟨h1, h2, h3⟩ := fd_ok h; exact ⟨_, Try.func55, h1, h2, h3, by kernel_rfl⟩
  · obtain ⟨h1, h2, h3⟩ := fd_ok h; exact ⟨_, Try.func56, h1, h2, h3, by kernel_rfl⟩
  · obtain ⟨h1, h2, h3⟩ := fd_ok h; exact ⟨_, Try.func57, h1, h2, h3, by kernel_rfl⟩
  · obtain ⟨h1, h2, h3⟩ := fd_ok h; exact ⟨_, Try.func58, h1, h2, h3, by kernel_rfl⟩
  · obtain ⟨h1, h2, h3⟩ := fd_ok h; exact ⟨_, Try.func60, h1, h2, h3, by kernel_rfl⟩
  · obtain ⟨h1, h2, h3⟩ := fd_ok h; exact ⟨_, Try.func61, h1, h2, h3, by kernel_rfl⟩
  · obtain ⟨h1, h2, h3⟩ := fd_ok h; exact ⟨_, Try.func62, h1, h2, h3, by kernel_rfl⟩
  · cases h

/-- A call of a function with a body is entered. -/
theorem enters {f : FuncId} {g : Func} {b : Code} (h1 : Try.prog.funcs[f]? = some g) (h2 : g.body = some b) (h3 : (g.name == "runtime.NumGoroutine") = false) (vs : Array Value) (w : World) : (callFunc f vs).run Try.prog w = .ok (.enter f vs) w := by
  have h6 : ¬ g.name = "runtime.NumGoroutine" := by simpa using h3
  simp [callFunc, h1, h2, h6]
end Go.Proofs.Ytkekijhpolgcmaa.X
