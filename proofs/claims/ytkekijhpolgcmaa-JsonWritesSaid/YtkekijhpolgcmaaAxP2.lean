/- The contracts that the machine takes, proved; the program is what the machine is told. -/
import Derived.Test.YtkekijhpolgcmaaAxP
import Derived.Test.YtkekijhpolgcmaaAxM8
set_option linter.unusedVariables false
set_option linter.unusedSimpArgs false
namespace Go.Proofs.Ytkekijhpolgcmaa.X
open Go Go.Ax Go.RowKit
set_option maxRecDepth 100000

theorem spec_index : SpecOk Try.prog 59 sIndexByte := by
  intro w0 d args m r m' h H w vs hw hv
  unfold sIndexByte at h
  split at h
  · rename_i m l c
    simp only [Option.some.injEq, Prod.mk.injEq] at h
    obtain ⟨rfl, rfl⟩ := h
    obtain ⟨u, us, rfl, hu, u2, us2, rfl, hu2, h3⟩ := hv
    have e1 : u = .string ⟨l.toArray⟩ := hu
    have e2 : u2 = .int .u8 c := hu2
    have e3 : us2 = [] := h3
    subst e1 e2 e3
    refine .inl ⟨.int .i64 (Lib.indexByte l c.toNat.toUInt8), w, ?_, H, hw, Ext.refl _ _ _ _ _, rfl⟩
    rw [run_callFunc_extern Try.func59 (by kernel_rfl) (by kernel_rfl) (by kernel_rfl) (e := Extern.BytealgIndexByte.indexByte) (by kernel_rfl)]
    rw [Lib.run_indexByteString]
    simp [Result.andThen]
  · cases h

theorem cell_heap {w : World} {c : Nat} {arr : Array Value} {e : TypeId} {fr : Nat × Nat} (h : w.heap[c]? = some (.cells arr e fr)) (i : Nat) : w.cell? ⟨c, i, none⟩ = arr[i]? := cell_block h i

theorem spec_cc : SpecOk Try.prog 35 sCopyCheck := by
  intro w0 d args m r m' h H w vs hw hv
  unfold sCopyCheck at h
  split at h
  · rename_i m id off
    obtain ⟨cs, hb, h1⟩ := Option.bind_eq_some_iff.1 h
    obtain ⟨u, us, rfl, hu, h3⟩ := hv
    have e3 : us = [] := h3
    subst e3
    obtain ⟨c, rfl, hc⟩ := hu
    obtain ⟨arr, ty, harr, hB, hall⟩ := hw.blk hb hc
    split at h1
    · rename_i hoff
      obtain ⟨hg, h2⟩ := bnd_some h1
      simp only [Bool.and_eq_true] at hg
      simp only [Option.some.injEq, Prod.mk.injEq] at h2
      obtain ⟨rfl, rfl⟩ := h2
      have hty := Nat.eq_of_beq_eq_true hg.1.1
      obtain rfl := Nat.eq_of_beq_eq_true hg.1.2
      have hlen := Nat.eq_of_beq_eq_true hg.2
      have e4 : ty = 40 := (hw.memT c id hc arr ty _ harr).trans hty
      subst e4
      obtain ⟨u, hu1, hu2⟩ := hall.get 0 _ hoff
      have e5 : u = .pointer none := hu2.2
      subst e5
      have hsz : arr.size = 2 := by have := hall.length; simp at this; omega
      have hcell : w.cell? ⟨c, 0, none⟩ = some (.pointer none) := by rw [cell_heap harr]; simpa using hu1
      refine runs_of_calls (enters Try.func35 rfl (by kernel_rfl) _ _) ((cc_fresh c w hcell (by simp [World.shape?, harr, hsz]) (by simp [World.frozen?, harr])).mono ?_)
      rintro e w' ⟨rfl, rfl⟩
      obtain ⟨g1, g2⟩ := mem_set (x := .ptr id 0) (v := .pointer (some ⟨c, 0, none⟩)) (off := 0) hw hb hc harr hall rfl ⟨c, rfl, hc⟩ d w.heap.size
      rw [← setCell_blk harr] at g1 g2
      exact ⟨H, g1, g2, ⟨[], rfl, rfl⟩⟩
    · rename_i i o hoff
      split at h1
      · rename_i he
        obtain ⟨rfl, rfl, rfl⟩ := he
        simp only [Option.some.injEq, Prod.mk.injEq] at h1
        obtain ⟨rfl, rfl⟩ := h1
        obtain ⟨u, hu1, hu2⟩ := hall.get 0 _ hoff
        obtain ⟨c', rfl, hc'⟩ := hu2.2
        obtain rfl := hw.memU c c' i hc hc'
        have hcell : w.cell? ⟨c, 0, none⟩ = some (.pointer (some ⟨c, 0, none⟩)) := by rw [cell_heap harr]; simpa using hu1
        refine runs_of_calls (enters Try.func35 rfl (by kernel_rfl) _ _) ((cc_used c w hcell).mono ?_)
        rintro e w' ⟨rfl, rfl⟩
        exact ⟨H, hw, Ext.refl _ _ _ _ _, ⟨[], rfl, rfl⟩⟩
      · cases h1
    · cases h1
  · cases h
theorem spec_str : SpecOk Try.prog 12 sString := by
  intro w0 d args m r m' h H w vs hw hv
  unfold sString at h
  split at h
  · rename_i mm id off
    obtain ⟨hg, h1⟩ := bnd_some h
    simp only [Bool.and_eq_true] at hg
    have hty := Nat.eq_of_beq_eq_true hg.1
    obtain rfl := Nat.eq_of_beq_eq_true hg.2
    obtain ⟨cs, hb, h1⟩ := Option.bind_eq_some_iff.1 h1
    obtain ⟨u, us, rfl, hu, h3⟩ := hv
    have e3 : us = [] := h3
    subst e3
    obtain ⟨c, rfl, hc⟩ := hu
    obtain ⟨arr, ty, harr, hB, hall⟩ := hw.blk hb hc
    split at h1
    · rename_i k xs hoff
      obtain ⟨hk, h2⟩ := bnd_some h1
      obtain ⟨l, hl, h2⟩ := Option.map_eq_some_iff.1 h2
      simp only [Prod.mk.injEq] at h2
      obtain ⟨rfl, rfl⟩ := h2
      simp only [Bool.and_eq_true, Bool.not_eq_true'] at hk
      have hk63 := Nat.le_of_ble_eq_true hk.2
      have hk5 := Nat.eq_of_beq_eq_true hk.1.2
      have hk0 : k ≠ 0 := by rintro rfl; exact absurd hk.1.1.1 (by simp)
      have hxs : xs ≠ [] := by rintro rfl; exact absurd hk.1.1.2 (by simp)
      obtain ⟨zs, rfl, rfl⟩ := bytesOf_nums hl
      obtain ⟨u, hu1, hV, _, hM⟩ := hall.get 1 _ hoff
      obtain ⟨hkn, hR⟩ := hM hk0
      have hV0 := hV
      obtain ⟨a, cap, rfl, hle, hx⟩ := hV
      obtain ⟨a', cap', e, hR⟩ := hR
      injection e with e1 _ e3
      subst e1 e3
      rcases hR with ⟨_, hz⟩ | ⟨g, o, f, rfl, _, hg1⟩
      · exact absurd (List.eq_nil_of_length_eq_zero (hz (by show elOf k ≠ 0; omega))) hxs
      obtain ⟨g', o', f', r', e4, hg2, _, hE⟩ := hx.resolve_left hxs
      injection e4 with e4; injection e4 with e4 e5 _; subst e4 e5
      rw [hg1] at hg2; injection hg2 with e6 _; subst e6
      obtain ⟨arr2, ty2, fr2, hg3, hg4, hg5⟩ := hw.froz g f _ hg1
      obtain ⟨hgB, hg6, hg7, hg8⟩ := hg5 _ rfl
      have ht2 : ty2 = 5 := (hw.rowT g f _ hg1 (by show elOf k ≠ 0; omega) arr2 ty2 fr2 hg3).trans hk5
      subst ht2
      have hzl : (zs.map fun n => AV.int .u8 n).length = zs.length := List.length_map _
      rw [hzl] at hle hg6 hu1 hk63
      simp only at hg6
      have hz0 : zs ≠ [] := by rintro rfl; exact hxs rfl
      have hcell : w.cell? ⟨c, 1, none⟩ = some (.slice (some ⟨g, o, none⟩) zs.length cap) := by rw [cell_heap harr]; simpa using hu1
      have hcells : ∀ j x, zs[j]? = some x → w.cell? ((⟨g, o, none⟩ : Addr).add j) = some (.int .u8 x) := by
        intro j x hj
        obtain ⟨v, v1, v2, v3⟩ := VE_get hE j (.int .u8 x) (by rw [List.getElem?_map, hj]; rfl)
        have v1 : v = .int .u8 x := v1
        subst v1
        have := (v3 0 (.int .u8 x) rfl).2
        have h9 := hg4 _ _ this
        have ha : (⟨g, o, none⟩ : Addr).add j = ⟨g, o + j, none⟩ := by unfold Addr.add; by_cases hj : j = 0 <;> simp [hj]
        rw [ha, cell_heap hg3]
        simpa using h9
      refine runs_of_calls (enters Try.func12 rfl (by kernel_rfl) _ _) ((str_row c g o cap arr2.size zs w hz0 hcell hle (by simp [World.shape?, hg3]) (by omega) (by omega) hcells).mono ?_)
      rintro e w' ⟨rfl, rfl⟩
      obtain ⟨g1, g2⟩ := mem_set (x := .sl 1 (zs.map fun n => AV.int .u8 n)) (v := .slice (some ⟨g, o, none⟩) (zs.map fun n => AV.int .u8 n).length cap) (off := 1) hw hb hc harr hall (by rfl) hV0 d w.heap.size
      have hid : arr.setIfInBounds 1 (.slice (some ⟨g, o, none⟩) (zs.map fun n => AV.int .u8 n).length cap) = arr := by
        apply Array.ext_getElem?
        intro i
        rw [Array.getElem?_setIfInBounds]
        split
        · rename_i e; subst e
          split
          · rw [hzl]; simpa using hu1.symm
          · rename_i hn; rw [Array.getElem?_eq_none (by omega)]
        · rfl
      rw [hid, setBlk_id harr] at g1 g2
      have hun : Unclaimed { m with blk := upd m.blk id (some (cs.set 1 (.v (.sl 1 (zs.map fun n => AV.int .u8 n))))) } (.mv k) := by
        intro id2 cs2 off2 k2 sz2 xs2 p1 p2 p3 e
        injection e with e; subst e
        by_cases e : id2 = id
        · subst e
          simp only [Go.Ax.upd_same, Option.some.injEq] at p1; subst p1
          rw [List.getElem?_set] at p2
          split at p2
          · split at p2 <;> simp at p2
          · rename_i hne
            exact hne (hw.mvU _ _ _ _ _ _ _ _ _ _ _ hb hoff hb p2 hk0).2
        · simp only [Go.Ax.upd_ne _ _ e] at p1
          exact e (hw.mvU _ _ _ _ _ _ _ _ _ _ _ p1 p2 hb hoff hk0).1
      obtain ⟨k1, k2⟩ := froz_write g1 hg1 (arr' := arr2) hg3 rfl (f' := f) (fun _ _ h => h) hg4 (r' := none) (fun q hq => by cases hq) hun d w.heap.size (fun _ _ e => by cases e) (fun q hq => by cases hq)
      rw [setBlk_id hg3] at k1 k2
      have k3 := k1.drew
      obtain ⟨fr', hfr⟩ := freeze_blk (w := w.drew) (o := o) (n := zs.length) (show w.drew.heap[g]? = some (.cells arr2 5 fr2) from hg3)
      obtain ⟨q1, q2⟩ := refreeze k3 hgB (Go.Ax.upd_same _ _ _) (show w.drew.heap[g]? = some (.cells arr2 5 fr2) from hg3) fr' d w.heap.size
      rw [hfr]
      exact ⟨_, q1, (g2.trans k2).trans ((Ext.drew _ _ _ _ _).trans q2), rfl⟩
    · cases h1
  · cases h
end Go.Proofs.Ytkekijhpolgcmaa.X
