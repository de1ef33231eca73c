/- A JSON value that can be read as data. -/
import Derived.Test.YtkekijhpolgcmaaAxM8
import Derived.Test.YtkekijhpolgcmaaAxJ
import Derived.Test.YtkekijhpolgcmaaProg
set_option linter.unusedVariables false
set_option linter.unusedSimpArgs false
namespace Go.Proofs.Ytkekijhpolgcmaa.X
open Go Go.Ax Go.RowKit
set_option maxRecDepth 100000
section
variable {D : Type} {en : TypeId × Value → D} {W : World} {sp : Nat → Bool} {hd : Bool}
theorem cells3 : Try.prog.cellsOf 3 = 1 := by kernel_rfl
theorem cells9 : Try.prog.cellsOf 9 = 1 := by kernel_rfl
theorem cells22 : Try.prog.cellsOf 22 = 1 := by kernel_rfl
theorem cells23 : Try.prog.cellsOf 23 = 1 := by kernel_rfl
theorem cells25 : Try.prog.cellsOf 25 = 5 := by kernel_rfl
theorem rd_int {fuel : Nat} {c : Value} {x : DataW D × List MemPlace} (h : DataW.trod en Try.prog W 0 sp hd fuel 3 [c] = some x) : ∃ n : Int, c = .int .i64 n := by
  cases fuel with
  | zero => cases h
  | succ fuel =>
    unfold DataW.trod at h
    rw [Try.underlying3] at h
    simp only at h
    split at h <;> simp_all
theorem rd_str {fuel : Nat} {c : Value} {x : DataW D × List MemPlace} (h : DataW.trod en Try.prog W 0 sp hd fuel 9 [c] = some x) : ∃ s : ByteArray, c = .string s := by
  cases fuel with
  | zero => cases h
  | succ fuel =>
    unfold DataW.trod at h
    rw [Try.underlying9] at h
    simp only at h
    split at h <;> simp_all

theorem rd_sl {fuel : Nat} {t e : TypeId} {c : Value} {x : DataW D × List MemPlace} (hu : Try.prog.underlying t = some (.slice e)) (h : DataW.trod en Try.prog W 0 sp hd (fuel + 1) t [c] = some x) :
    c = .slice none 0 0 ∨ ∃ a len cap ys, c = .slice (some a) len cap ∧ len ≤ cap ∧ (List.range len).mapM (fun i => (W.cells? 0 (a.add (i * Try.prog.cellsOf e)) (Try.prog.cellsOf e)).bind (DataW.trod en Try.prog W 0 sp hd fuel e)) = some ys := by
  unfold DataW.trod at h
  rw [hu] at h
  simp only at h
  split at h
  all_goals first
    | (cases h; done)
    | (rename_i he _; cases he; done)
    | (rename_i he; cases he; done)
    | skip
  · rename_i he hc
    injection hc with hc
    exact .inl hc
  · rename_i e' a len cap he hc
    injection he with he; injection he with he; subst he
    injection hc with hc
    split at h
    · rename_i hb
      obtain ⟨ys, h1, h2⟩ := Option.bind_eq_some_iff.1 h
      exact .inr ⟨a, len, cap, ys, hc, hb.2.1, h1⟩
    · cases h
  all_goals (rename_i he; injection he with he; cases he)

theorem rd_strs {fuel : Nat} {c : Value} {x : DataW D × List MemPlace} (h : DataW.trod en Try.prog W 0 sp hd fuel 22 [c] = some x) : ∃ ns : List (List UInt8), V (Hw W) (.sl 1 (ns.map .str)) c ∧ c.oneCell' = true := by
  cases fuel with
  | zero => cases h
  | succ fuel =>
    rcases rd_sl Try.underlying22 h with rfl | ⟨a, len, cap, ys, rfl, hc, h1⟩
    · exact ⟨[], ⟨none, 0, rfl, Nat.le_refl _, .inl rfl⟩, rfl⟩
    · rw [cells9] at h1
      obtain ⟨ns, _, hv⟩ := rd_slice W AV.str 1 Nat.one_pos (DataW.trod en Try.prog W 0 sp hd fuel 9) (fun cs d h2 hl => by
        obtain ⟨u, rfl⟩ : ∃ u, cs = [u] := by
          match cs, hl with
          | [u], _ => exact ⟨u, rfl⟩
        obtain ⟨s, rfl⟩ := rd_str h2
        refine ⟨s.data.toList, .string s, ?_, rfl, fun u hu => by simp at hu; subst hu; rfl⟩
        show Value.string s = .string ⟨s.data.toList.toArray⟩
        simp) h1 hc
      exact ⟨ns, hv, rfl⟩

theorem rd_kids {fuel : Nat} {c : Value} {x : DataW D × List MemPlace} (ih : ∀ cs d, DataW.trod en Try.prog W 0 sp hd fuel 25 cs = some d → ∃ v : J, RdOk W (enc v) cs)
    (h : DataW.trod en Try.prog W 0 sp hd (fuel + 1) 23 [c] = some x) : ∃ ks : List J, V (Hw W) (.sl 5 (encs ks)) c ∧ c.oneCell' = true := by
  rcases rd_sl Try.underlying23 h with rfl | ⟨a, len, cap, ys, rfl, hc, h1⟩
  · exact ⟨[], ⟨none, 0, rfl, Nat.le_refl _, .inl rfl⟩, rfl⟩
  · rw [cells25] at h1
    obtain ⟨ks, _, hv⟩ := rd_slice W enc 5 (by decide) (DataW.trod en Try.prog W 0 sp hd fuel 25) (fun cs d h2 _ => ih cs d h2) h1 hc
    exact ⟨ks, by rw [encs_eq]; exact hv, rfl⟩

theorem rd_json : ∀ (fuel : Nat) (cs : List Value) (d : DataW D × List MemPlace), DataW.trod en Try.prog W 0 sp hd fuel 25 cs = some d → ∃ v : J, RdOk W (enc v) cs
  | 0, cs, d, h => by cases h
  | 1, cs, d, h => by
    unfold DataW.trod at h
    rw [Try.underlying25] at h
    simp only at h
    split at h
    · simp [DataW.trod] at h
    · cases h
  | fuel + 2, cs, d, h => by
    unfold DataW.trod at h
    rw [Try.underlying25] at h
    simp only at h
    split at h
    · rename_i hl
      rw [cells25] at hl
      obtain ⟨c0, c1, c2, c3, c4, rfl⟩ : ∃ c0 c1 c2 c3 c4, cs = [c0, c1, c2, c3, c4] := by
        match cs, hl with
        | [c0, c1, c2, c3, c4], _ => exact ⟨c0, c1, c2, c3, c4, rfl⟩
      obtain ⟨xs, h1, _⟩ := Option.map_eq_some_iff.1 h
      obtain ⟨_, h2⟩ := mapM_get h1
      obtain ⟨y0, g0, _⟩ := h2 0 _ rfl
      obtain ⟨y1, g1, _⟩ := h2 1 _ rfl
      obtain ⟨y2, g2, _⟩ := h2 2 _ rfl
      obtain ⟨y3, g3, _⟩ := h2 3 _ rfl
      obtain ⟨y4, g4, _⟩ := h2 4 _ rfl
      simp only [cells3, cells9, cells22, cells23, List.drop, List.take] at g0 g1 g2 g3 g4
      obtain ⟨k, rfl⟩ := rd_int g0
      obtain ⟨n, rfl⟩ := rd_int g1
      obtain ⟨s, rfl⟩ := rd_str g2
      obtain ⟨ns, v3, o3⟩ := rd_strs g3
      obtain ⟨ks, v4, o4⟩ := rd_kids (fun cs d h => rd_json fuel cs d h) g4
      refine ⟨.mk k n s.data.toList ns ks, .agg #[.int .i64 k, .int .i64 n, .string s, c3, c4], ?_, ?_, ?_⟩
      · unfold enc V
        refine ⟨[.int .i64 k, .int .i64 n, .string s, c3, c4], rfl, ⟨_, _, rfl, rfl, rfl, _, _, rfl, rfl, rfl, _, _, rfl, rfl, ?_, _, _, rfl, o3, v3, _, _, rfl, o4, v4, rfl⟩⟩
        show Value.string s = .string ⟨s.data.toList.toArray⟩
        simp
      · simp only [Value.cells]
      · intro u hu
        simp at hu
        rcases hu with rfl | rfl | rfl | rfl | rfl <;> first | rfl | assumption
    · cases h
end
end Go.Proofs.Ytkekijhpolgcmaa.X
