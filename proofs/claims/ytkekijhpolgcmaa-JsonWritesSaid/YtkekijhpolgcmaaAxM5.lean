/- The machine Ax, part AxM5: its steps and why they are sound. -/
import Derived.Test.YtkekijhpolgcmaaAxM4
import Derived.Laws.Append
import Derived.IntWalk
/- Ax: new slices; tokens; draws. -/
set_option linter.unusedVariables false
set_option linter.unusedSimpArgs false
namespace Go.Ax
open Go.RowKit
variable {P : Program} {ti : Nat → TI}
variable {nt N d : Nat} {s : St} {m : AMem} {H : Hp} {lam : Nat → Option Nat} {a : Act} {w w0 : World}
variable {Hi : Hp} {mi : AMem} {wi : World}

theorem run_new (o : Obj) : (newObj o).run P w = .ok w.heap.size (w.alloc o) := rfl

theorem WOk.drew (hw : WOk w0 H m w) : WOk w0 H m w.drew := ⟨hw.below.drew, hw.free, hw.froz, hw.mem, hw.memU, hw.memN, hw.fmap, hw.next, hw.mvU, hw.memT, hw.rowT⟩
theorem Ext.drew (d N : Nat) (H : Hp) (m : AMem) (w : World) : Ext d N H m w H m w.drew :=
  ⟨HLe.refl H, fun _ h _ => ⟨h, rfl⟩, fun _ _ _ _ _ _ _ _ => ⟨rfl, rfl⟩, Nat.le_refl _, fun id off cs k sz xs h1 h2 _ _ => ⟨⟨cs, h1, h2⟩, fun _ _ => rfl⟩, fun _ _ h _ => h, Nat.le_refl _⟩
theorem Fr.drew (hf : Fr nt N d s m H lam a w) : Fr nt N d s m H lam a w.drew := hf.ext (Ext.drew _ w.heap.size _ _ _) (Nat.le_refl _)

theorem buildSlice_ok (E : Env) (hti : TysOk P E.ti) (hw : WOk w0 H m w) (hf : Fr nt N d s m H lam a w) (x : Ext d N Hi mi wi H m w) (hN : N ≤ w.heap.size) {ty len : Nat} {ps : List (Nat × T)} {qs : Array (Nat × Value)} {y : T} (hps : All2 (fun p q => p.1 = q.1 ∧ VT d H m w lam s p.2 q.2) ps qs.toList)
    (h : aBuildSlice E ty len ps = some y) {dst : Option Tmp} (hd : dstOk nt dst = true) : OpOk P nt N d w0 Hi mi wi s m a w dst { val := y } (Instr.buildSlice ty len qs) := by
  unfold aBuildSlice at h
  split at h
  · rename_i el hk
    obtain ⟨cs, hcs, h1⟩ := Option.bind_eq_some_iff.1 h
    obtain ⟨xs, hxs, h2⟩ := Option.bind_eq_some_iff.1 h1
    obtain ⟨hb, h3⟩ := bnd_some h2
    simp only [Option.some.injEq] at h3; subst h3
    simp only [Bool.and_eq_true] at hb
    obtain ⟨⟨hb0, hb1⟩, hb2⟩ := hb
    have hl := Nat.eq_of_beq_eq_true hb0
    have hle := Nat.le_of_ble_eq_true hb1
    have hsz : 0 < (E.ti el).sz := by simp [Nat.blt] at hb2; omega
    have hel := hti.ok el (hti.sub _ _ (by rw [hk]; exact List.mem_cons_self))
    obtain ⟨z, hz, hz2, hz3, _⟩ := run_zero hel hl w
    have hund := und_slice hti hk
    have hszr := run_sizeOf hel (P := P) w
    have hrow : ∃ Z : Array Value, ((len * (E.ti el).sz = 0 ∧ Z = #[]) ∨ (¬ len * (E.ti el).sz = 0 ∧ (zeroValue el).run P w = .ok z w ∧ Z = z.cells)) ∧ All2 (VQ d H s) (reps len (E.ti el).zero) ((Array.range (len * (E.ti el).sz)).map (fun i => Z[i % Z.size]!)).toList := by
      by_cases h0 : len = 0
      · subst h0
        exact ⟨#[], .inl ⟨by simp, rfl⟩, by simp [reps, All2]⟩
      · refine ⟨z.cells, .inr ⟨by have := Nat.mul_pos (Nat.pos_of_ne_zero h0) hsz; omega, hz, rfl⟩, ?_⟩
        have := row_reps z.cells (by omega) len
        rw [hz3] at this
        rw [hz3, this]
        exact reps_All2 (zero_VQ hz2) len
    obtain ⟨Z, hZ, hall⟩ := hrow
    obtain ⟨arr, h5, h6⟩ := fill_ok (pc := fun i => some (i * (E.ti el).sz, (E.ti el).sz)) (fun i q hq => (bnd_some hq).2) hps hall hcs
    have h7 := chunk_ok (f := fun i => arr[i]?) len 0 hxs h6 (fun j u hj _ => by simpa using hj)
    refine ⟨.slice (some ⟨w.heap.size, 0, none⟩) len len, w.alloc (.cells arr el), ?_, ?_⟩
    · simp only [Instr.buildSlice, Sem.run_bind, run_underlying hund, Result.andThen_ok, hszr]
      rw [if_neg (by omega)]
      rcases hZ with ⟨g1, rfl⟩ | ⟨g1, g2, rfl⟩
      · rw [if_pos g1]
        simp only [Sem.run_bind, Sem.run_pure, Result.andThen_ok, h5, newRow, run_new]
      · rw [if_neg g1]
        simp only [Sem.run_bind, Sem.run_pure, Result.andThen_ok, g2, h5, newRow, run_new]
    · refine froz_inv hw hf x hN ⟨rfl, rfl, rfl, rfl, rfl, rfl, rfl, rfl⟩ hd arr el (0, 0) none (fun i => arr[i]?) (fun _ _ h => h) (by simp) (by simp) ?_
      have hle : HLe H (upd H w.heap.size (.froz (fun i => arr[i]?) none)) := HLe.of_same fun c hc => upd_ne _ _ (fun e => hc (hw.free c (by omega)))
      refine ⟨.inl rfl, ⟨some ⟨w.heap.size, 0, none⟩, len, by rw [h7.1], by rw [h7.1]; exact Nat.le_refl _, ?_⟩, fun _ => ⟨_, by rw [h7.1]⟩, fun h => absurd rfl h⟩
      by_cases h0 : len = 0
      · left; exact List.eq_nil_of_length_eq_zero (by rw [h7.1, h0])
      · exact .inr ⟨_, _, _, _, rfl, upd_same _ _ _, hsz, VE_mono hle (fun _ _ h => h) _ _ _ h7.2⟩
  · cases h

theorem str_bytes_VE {f : Nat → Option Value} : ∀ (l : List UInt8) (o : Nat), (∀ j (h : j < l.length), f (o + j) = some (.int .u8 (l[j].toNat : Int))) → VE H f 1 (ofBytes l) o
  | [], _, _ => trivial
  | b :: l, o, h => by
    refine ⟨⟨.int .u8 b.toNat, rfl, rfl, fun j u hj => ?_⟩, str_bytes_VE l (o + 1) fun j hj => ?_⟩
    · cases j with
      | zero =>
        have := h 0 (by simp)
        simp only [Value.cells] at hj
        simp at hj
        subst hj
        exact ⟨rfl, by simpa using this⟩
      | succ j => simp [Value.cells] at hj
    · have := h (j + 1) (by simpa using hj)
      rw [show o + 1 + j = o + (j + 1) from by omega]
      simpa using this

theorem strBytes_ok (E : Env) (hti : TysOk P E.ti) (hw : WOk w0 H m w) (hf : Fr nt N d s m H lam a w) (x : Ext d N Hi mi wi H m w) (hN : N ≤ w.heap.size) {src ds el : Nat} (h1 : (E.ti src).k = .str) (h2 : (E.ti ds).k = .slice el) (h3 : (E.ti el).k = .int .u8) {l : List UInt8} {v : Value} (hv : V H (.str l) v)
    {dst : Option Tmp} (hd : dstOk nt dst = true) : OpOk P nt N d w0 Hi mi wi s m a w dst { val := .v (.sl 1 (ofBytes l)) } (convert src ds v) := by
  obtain rfl := hv
  have hrun := run_bytes_of_string (P := P) w src ds el ⟨l.toArray⟩ (und_str hti h1) (und_slice hti h2) (und_int hti h3)
  have hcap : l.length ≤ grownCap w (⟨l.toArray⟩ : ByteArray).size 0 el := by
    simp only [grownCap, Question.cut, ByteArray.size, List.size_toArray]; omega
  refine ⟨_, _, hrun, ?_⟩
  generalize grownCap w (⟨l.toArray⟩ : ByteArray).size 0 el = cap at hcap
  have hsz : (bytesRow ⟨l.toArray⟩ cap).size = cap := by simp [bytesRow, ByteArray.size]; omega
  have hget : ∀ i (hi : i < l.length), (bytesRow ⟨l.toArray⟩ cap)[i]? = some (.int .u8 (l[i].toNat : Int)) := by
    intro i hi
    unfold bytesRow
    rw [Array.getElem?_append_left (by simpa using hi)]
    simp [hi]
  refine froz_inv hw.drew hf.drew (x.trans (Ext.drew _ _ _ _ _)) hN (w := w.drew) ⟨rfl, rfl, rfl, rfl, rfl, rfl, rfl, rfl⟩ hd (bytesRow ⟨l.toArray⟩ cap) el _ none (fun i => (bytesRow ⟨l.toArray⟩ cap)[i]?) (fun _ _ h => h) (by simp) (by simp) ?_
  refine ⟨some ⟨w.heap.size, 0, none⟩, cap, by simp [ofBytes, ByteArray.size], by simpa [ofBytes] using hcap, .inr ⟨_, _, _, _, rfl, upd_same _ _ _, Nat.one_pos, ?_⟩⟩
  exact str_bytes_VE l 0 fun j hj => by rw [Nat.zero_add]; exact hget j hj

/-- A token that is new in a frame. -/
theorem newTok_inv {k sz : Nat} {xs : List AV} {ks : List Nat} {H1 : Hp} {m1 : AMem} {w1 : World} (hw : WOk w0 H1 m1 w1) (hf : Fr nt N d (s.kill ks) m1 H1 lam a w1) (x : Ext d N Hi mi wi H1 m1 w1) (hN : N ≤ w1.heap.size) {dst : Option Tmp} (hd : dstOk nt dst = true) (hk0 : k ≠ 0) (hs : s.seen k = false)
    {v : Value} (hV : V H1 (.sl sz xs) v) (hR : Roomy H1 (.tok d k) sz xs.length v) {e : Eff} (he : { e with mr := false, mw := none, lr := [], pr := [], ir := [] } = { val := .own k sz xs, kill := ks, new := [k] }) (hm : e.mw.getD m = m1) :
    Inv nt N d w0 Hi mi wi (s.put dst e) (e.mw.getD m) (a.put dst v) w1 := by
  rw [hm]
  injection he with e1 e2 e3 e4 e5 e6 e7 e8 e9 e10 e11 e12 e13
  have hput : s.put dst e = { s with tm := putT s.tm dst (.own k sz xs), live := fun j => [k].contains j || s.live j && !(ks.contains j), seen := fun j => [k].contains j || s.seen j } := by
    unfold St.put
    simp only [e1, e2, e3, e4, e10, e11, e12, e13, updL, List.contains_nil, Bool.or_false, List.nil_append]
  rw [hput]
  have hst : StLe (s.kill ks) { s with tm := putT s.tm dst (.own k sz xs), live := fun j => [k].contains j || s.live j && !(ks.contains j), seen := fun j => [k].contains j || s.seen j } lam lam := by
    refine ⟨fun j h => ?_, fun j h hl => ?_, fun _ _ h => ⟨h, rfl⟩, fun _ _ h => ⟨h, rfl⟩, fun _ _ h => ⟨h, rfl⟩⟩
    · have : s.seen j = true := h
      simp [this]
    · have hj : s.seen j = true := h
      have : j ≠ k := by rintro rfl; rw [hs] at hj; cases hj
      simp only [List.contains_cons, List.contains_nil, Bool.or_false, Bool.or_eq_true, beq_iff_eq, this, false_or] at hl
      exact hl
  refine ⟨H1, lam, hw, Fr.step hf hst (dst := dst) (x := .own k sz xs) rfl ?_ hd ?_ ?_ ?_ hf.inj hf.lamN rfl ?_, x, hN⟩
  · exact ⟨.inr (by simp), hV, fun h => absurd h hk0, fun _ _ => hR⟩
  · intro t cs h
    obtain ⟨q0, c, arr, ty, q1, q2, q3, q4, q5⟩ := hf.lcQ h
    exact ⟨hst.seen t q0, c, arr, ty, q1, q2, q3, q4, q5.mono fun _ _ _ h => h.st hst⟩
  · intro t es h
    obtain ⟨q0, q⟩ := hf.mp t es h
    exact ⟨hst.seen t q0, q⟩
  · intro t l p h
    obtain ⟨q0, q⟩ := hf.it t l p h
    exact ⟨hst.seen t q0, q⟩
  · intro j h
    simp only [List.contains_cons, List.contains_nil, Bool.or_false, Bool.or_eq_true, beq_iff_eq, Bool.and_eq_true] at h ⊢
    exact h.imp id fun h => hf.live j (by simp only [St.kill, Bool.and_eq_true]; exact h)

end Go.Ax
/- Ax: append. -/
set_option linter.unusedVariables false
set_option linter.unusedSimpArgs false
namespace Go.Ax
open Go.RowKit
variable {P : Program} {ti : Nat → TI}
variable {nt N d : Nat} {s : St} {m : AMem} {H : Hp} {lam : Nat → Option Nat} {a : Act} {w w0 : World}
variable {Hi : Hp} {mi : AMem} {wi : World}

/-- What is appended: its cells. -/
structure News (P : Program) (w : World) (H : Hp) (sz : Nat) (ys : List AV) (vx : Value) (us : List Value) : Prop where
  len : ∀ w', (Builtin.lenOf vx).run P w' = .ok ys.length w'
  first : ∀ w' : World, w'.heap = w.heap → (Builtin.firstCells sz ys.length vx).run P w' = .ok us.toArray w'
  size : us.length = ys.length * sz
  one : ∀ u ∈ us, u.oneCell' = true
  ve : ∀ (H' : Hp) (f : Nat → Option Value) (o : Nat), HLe H H' → (∀ j u, us[j]? = some u → f (o + j) = some u) → VE H' f sz ys o

theorem VE_some {f : Nat → Option Value} {sz : Nat} : ∀ {xs : List AV} {o : Nat}, VE H f sz xs o → ∀ j, j < xs.length * sz → ∃ u, f (o + j) = some u ∧ u.oneCell' = true
  | [], o, _, j, h => by simp at h
  | x :: xs, o, ⟨⟨v, hv, hs, hj⟩, hr⟩, j, h => by
    by_cases h0 : j < sz
    · obtain ⟨u, hu⟩ : ∃ u, v.cells[j]? = some u := ⟨v.cells[j]'(by omega), by simp [hs, h0]⟩
      exact ⟨u, (hj j u hu).2, (hj j u hu).1⟩
    · rw [List.length_cons, Nat.succ_mul] at h
      obtain ⟨u, h1, h2⟩ := VE_some hr (j - sz) (by omega)
      exact ⟨u, by rw [show o + j = o + sz + (j - sz) from by omega]; exact h1, h2⟩

theorem VE_move {f g : Nat → Option Value} {sz : Nat} : ∀ {xs : List AV} {o o' : Nat}, VE H f sz xs o → (∀ j u, j < xs.length * sz → f (o + j) = some u → g (o' + j) = some u) → VE H g sz xs o'
  | [], _, _, _, _ => trivial
  | x :: xs, o, o', ⟨⟨v, hv, hs, hj⟩, hr⟩, h => by
    rw [List.length_cons, Nat.succ_mul] at h
    refine ⟨⟨v, hv, hs, fun j u hu => ⟨(hj j u hu).1, h j u ?_ (hj j u hu).2⟩⟩, VE_move hr fun j u hlt hu => ?_⟩
    · have : j < v.cells.size := by
        rcases Nat.lt_or_ge j v.cells.size with h | h
        · exact h
        · rw [Array.getElem?_eq_none h] at hu; cases hu
      omega
    · have := h (sz + j) u (by omega) (by rw [← Nat.add_assoc]; exact hu)
      rwa [← Nat.add_assoc] at this

theorem VE_app {f : Nat → Option Value} {sz : Nat} : ∀ {xs ys : List AV} {o : Nat}, VE H f sz xs o → VE H f sz ys (o + xs.length * sz) → VE H f sz (xs ++ ys) o
  | [], ys, o, _, h => by simpa using h
  | x :: xs, ys, o, ⟨h1, h2⟩, h => by
    refine ⟨h1, VE_app h2 ?_⟩
    rw [List.length_cons, Nat.succ_mul] at h
    rwa [show o + sz + xs.length * sz = o + (xs.length * sz + sz) from by omega]

theorem slice_news (hw : WOk w0 H m w) {sz szx : Nat} {ys : List AV} {v : Value} (hV : V H (.sl szx ys) v) (hs : szx = sz ∨ ys = []) : ∃ us, News P w H sz ys v us := by
  obtain ⟨b, cap, rfl, hl, h⟩ := hV
  by_cases h0 : ys = []
  · subst h0
    refine ⟨[], fun _ => rfl, fun w' _ => ?_, by simp, by simp, fun _ _ _ _ _ => trivial⟩
    cases b <;> simp [Builtin.firstCells, loadCells, loadCellsFrom]
  · obtain rfl := hs.resolve_right h0
    obtain ⟨c, o, f, r, rfl, hc, hsz, hE⟩ := h.resolve_left h0
    obtain ⟨arr, ty, fr, h1, h2, _⟩ := hw.froz c f r hc
    have hlen : ((arr.toList.drop o).take (ys.length * szx)).length = ys.length * szx := by
      have hpos : 0 < ys.length * szx := Nat.mul_pos (List.length_pos_iff.2 h0) hsz
      obtain ⟨u, hu, _⟩ := VE_some hE (ys.length * szx - 1) (by omega)
      have := h2 _ _ hu
      have : o + (ys.length * szx - 1) < arr.size := by
        rcases Nat.lt_or_ge (o + (ys.length * szx - 1)) arr.size with h | h
        · exact h
        · rw [Array.getElem?_eq_none h] at this; cases this
      simp; omega
    have hget : ∀ (j : Nat) u, ((arr.toList.drop o).take (ys.length * szx))[j]? = some u → j < ys.length * szx ∧ f (o + j) = some u := by
      intro j u hj
      have hlt : j < ys.length * szx := by
        rcases Nat.lt_or_ge j (ys.length * szx) with h | h
        · exact h
        · rw [List.getElem?_eq_none (by omega)] at hj; cases hj
      obtain ⟨u', hu', _⟩ := VE_some hE j hlt
      have h3 := h2 _ _ hu'
      have h4 := take_drop_get hj
      rw [Array.getElem?_toList, h3] at h4
      injection h4 with h4; subst h4
      exact ⟨hlt, hu'⟩
    refine ⟨(arr.toList.drop o).take (ys.length * szx), fun _ => rfl, fun w' hw' => ?_, hlen, fun u hu => ?_, fun H' g o' hle hg => ?_⟩
    · exact run_loadCells (CellsAt.of_block (by rw [hw']; exact h1) o _) hlen
    · obtain ⟨j, hj⟩ := List.mem_iff_getElem?.1 hu
      obtain ⟨hlt, hf⟩ := hget j u hj
      obtain ⟨u', hu', h1⟩ := VE_some hE j hlt
      rw [hf] at hu'; injection hu' with hu'; subst hu'
      exact h1
    · refine VE_move (VE_mono hle (fun _ _ h => h) _ _ _ hE) fun j u hlt hu => hg j u ?_
      obtain ⟨u2, hu2⟩ : ∃ u2, ((arr.toList.drop o).take (ys.length * szx))[j]? = some u2 := ⟨_, List.getElem?_eq_getElem (by omega)⟩
      have := (hget j u2 hu2).2
      rw [hu] at this; injection this with this; subst this
      exact hu2

theorem mref_news (hf : Fr nt N d s m H lam a w) {t off len sz : Nat} {ag : Bool} {v : Value} {cs : List T} {ys : List AV} (hv : VT d H m w lam s (.mref t off len sz ag) v) (hc : s.lc t = some cs) (hx : chunk sz ag len (cs.drop off) = some ys) : ∃ us, News P w H sz ys v us := by
  obtain ⟨c, cap, b, q1, rfl, q3, q4⟩ := hv.2 (by rw [hc]; rfl)
  obtain ⟨r0, c', arr, ty, r1, r2, r3, r4, r5⟩ := hf.lcQ hc
  obtain rfl : c = c' := by rw [q1] at r1; exact Option.some.inj r1
  have hall := r5.drop off
  obtain ⟨g1, g2⟩ := chunk_ok (f := fun i => arr[i]?) len off hx hall (fun j u hj _ => by rw [List.getElem?_drop] at hj; simpa using hj)
  by_cases h0 : len = 0
  · subst h0
    have : ys = [] := List.eq_nil_of_length_eq_zero g1
    subst this
    refine ⟨[], fun _ => rfl, fun w' _ => ?_, by simp, by simp, fun _ _ _ _ _ => trivial⟩
    cases b <;> simp [Builtin.firstCells, loadCells, loadCellsFrom]
  · obtain rfl := q4 (by omega)
    have hlen : ((arr.toList.drop off).take (ys.length * sz)).length = ys.length * sz := by
      rcases Nat.eq_zero_or_pos sz with rfl | hsz
      · simp
      have hpos : 0 < ys.length * sz := Nat.mul_pos (by omega) hsz
      obtain ⟨u, hu, _⟩ := VE_some g2 (ys.length * sz - 1) (by omega)
      have : off + (ys.length * sz - 1) < arr.size := by
        rcases Nat.lt_or_ge (off + (ys.length * sz - 1)) arr.size with h | h
        · exact h
        · rw [Array.getElem?_eq_none h] at hu; cases hu
      simp; omega
    refine ⟨(arr.toList.drop off).take (ys.length * sz), fun _ => by rw [g1]; rfl, fun w' hw' => ?_, hlen, fun u hu => ?_, fun H' g o' hle hg => ?_⟩
    · exact run_loadCells (CellsAt.of_block (by rw [hw']; exact r4) off _) hlen
    · have : All2 (VQ d H s) (cs.drop off) (arr.toList.drop off) := hall
      exact this.cells_one u (List.mem_of_mem_take hu)
    · refine VE_move (VE_mono hle (fun _ _ h => h) _ _ _ g2) fun j u hlt hu => hg j u ?_
      rw [List.getElem?_take_of_lt hlt, List.getElem?_drop, Array.getElem?_toList]
      exact hu

theorem str_news {l : List UInt8} {v : Value} (hv : V H (.str l) v) : ∃ us, News P w H 1 (ofBytes l) v us := by
  obtain rfl := hv
  refine ⟨l.map fun b => .int .u8 b.toNat, fun w' => by simp [Builtin.lenOf, ofBytes, ByteArray.size], fun w' _ => ?_, by simp [ofBytes], fun u hu => ?_, fun H' f o _ h => str_bytes_VE l o fun j hj => h j _ (by simp [hj])⟩
  · have : (ByteArray.extract ⟨l.toArray⟩ 0 (ofBytes l).length).data = l.toArray := by simp [ofBytes, ByteArray.extract, ByteArray.copySlice]
    show (pure ((ByteArray.extract ⟨l.toArray⟩ 0 (ofBytes l).length).data.map fun b => Value.int .u8 b.toNat) : Sem (Array Value)).run P w' = _
    rw [this, Sem.run_pure]
    simp
  · obtain ⟨b, _, rfl⟩ := List.mem_map.1 hu
    rfl

end Go.Ax
/- Ax: what append does. -/
set_option linter.unusedVariables false
set_option linter.unusedSimpArgs false
namespace Go.Ax
open Go.RowKit
variable {P : Program} {ti : Nat → TI}
variable {nt N d : Nat} {s : St} {m : AMem} {H : Hp} {lam : Nat → Option Nat} {a : Act} {w w0 : World}
variable {Hi : Hp} {mi : AMem} {wi : World}

/-- append's types: the base's, and that the second operand is no length. -/
structure AppTys (P : Program) (ats : Array TypeId) (ty el sz : Nat) : Prop where
  und : P.underlying ty = some (.slice el)
  at0 : ats[0]? = some ty
  at1 : ats[1]? = none ∨ ∃ t D, ats[1]? = some t ∧ P.underlying t = some D ∧ ∀ k, D ≠ .int k
  size : ∀ w, (sizeOf el).run P w = .ok sz w

variable {ats : Array TypeId} {ty el sz : Nat}

theorem run_append_some (h : AppTys P ats ty el sz) (rt : TypeId) {ys : List AV} {vx : Value} {us : List Value} (hn : News P w H sz ys vx us) {b : Addr} {len cap : Nat} (hfit : len + ys.length ≤ cap) {w1 : World} (hst : (storeCells (b.add (len * sz)) us).run P w = .ok () w1) :
    (Builtin.append_ ats rt #[.slice (some b) len cap, vx]).run P w = .ok (.slice (some b) (len + ys.length) cap) w1 := by
  unfold Builtin.append_
  rcases h.at1 with h1 | ⟨t, D, h1, h2, h3⟩
  · simp only [h.at0, h1, List.getElem?_toArray, List.getElem?_cons_zero, List.getElem?_cons_succ, Sem.run_bind, run_underlying h.und, Result.andThen_ok, h.size, Sem.run_pure, Bool.false_eq_true, if_false, hn.len]
    rw [if_pos hfit]
    simp only [Sem.run_bind, Bool.not_false, if_true, hn.first w rfl, Result.andThen_ok, hst, Sem.run_pure]
  · have hD : (match D with | .int _ => true | _ => false) = false := by cases D <;> first | rfl | exact absurd rfl (h3 _)
    simp only [h.at0, h1, List.getElem?_toArray, List.getElem?_cons_zero, List.getElem?_cons_succ, Sem.run_bind, run_underlying h.und, run_underlying h2, Result.andThen_ok, h.size, Sem.run_pure, hD, Bool.false_eq_true, if_false, hn.len]
    rw [if_pos hfit]
    simp only [Sem.run_bind, Bool.not_false, if_true, hn.first w rfl, Result.andThen_ok, hst, Sem.run_pure]

theorem run_append_none (h : AppTys P ats ty el sz) (rt : TypeId) {ys : List AV} {vx : Value} {us : List Value} (hn : News P w H sz ys vx us) {len cap : Nat} (hfit : len + ys.length ≤ cap) :
    (Builtin.append_ ats rt #[.slice none len cap, vx]).run P w = .ok (.slice none (len + ys.length) cap) w := by
  unfold Builtin.append_
  rcases h.at1 with h1 | ⟨t, D, h1, h2, h3⟩
  · simp only [h.at0, h1, List.getElem?_toArray, List.getElem?_cons_zero, List.getElem?_cons_succ, Sem.run_bind, run_underlying h.und, Result.andThen_ok, h.size, Sem.run_pure, Bool.false_eq_true, if_false, hn.len]
    rw [if_pos hfit]
    simp only [Sem.run_bind, Bool.not_false, if_true, hn.first w rfl, Result.andThen_ok, Sem.run_pure]
  · have hD : (match D with | .int _ => true | _ => false) = false := by cases D <;> first | rfl | exact absurd rfl (h3 _)
    simp only [h.at0, h1, List.getElem?_toArray, List.getElem?_cons_zero, List.getElem?_cons_succ, Sem.run_bind, run_underlying h.und, run_underlying h2, Result.andThen_ok, h.size, Sem.run_pure, hD, Bool.false_eq_true, if_false, hn.len]
    rw [if_pos hfit]
    simp only [Sem.run_bind, Bool.not_false, if_true, hn.first w rfl, Result.andThen_ok, Sem.run_pure]

theorem run_append_grow' (h : AppTys P ats ty el sz) (rt : TypeId) {ys xs : List AV} {vx : Value} {us olds : List Value} (hn : News P w H sz ys vx us) {b : Option Addr} {cap : Nat} (ho : News P w H sz xs (.slice b xs.length cap) olds) (hfit : ¬ xs.length + ys.length ≤ cap) {info : TypeInfo} (hi : P.info? el = some info) (hb0 : 0 < info.bytes) (hb : (xs.length + ys.length) * info.bytes ≤ 140737488355328)
    {z : Value} (hz : info.zero = some z) (hzs : z.cells.size = sz) :
    ∃ (newCap : Nat) (rest : Array Value), xs.length + ys.length ≤ newCap ∧ rest.size = (newCap - (xs.length + ys.length)) * sz ∧
    (Builtin.append_ ats rt #[.slice b xs.length cap, vx]).run P w = .ok (.slice (some ⟨w.heap.size, 0, none⟩) (xs.length + ys.length) newCap) (w.drew.alloc (.cells (olds.toArray ++ us.toArray ++ rest) el)) := by
  refine ⟨grownCap w (xs.length + ys.length) cap el, Builtin.zeroCells z.cells (grownCap w (xs.length + ys.length) cap el - (xs.length + ys.length)), by simp only [grownCap, Question.cut]; omega, by simp [Builtin.zeroCells, hzs], ?_⟩
  have h48 := growslice_fits (need := xs.length + ys.length) (old := cap) (bytes := info.bytes) (by omega) hb
  have hti : ∀ w', (typeInfo el).run P w' = .ok info w' := fun w' => run_typeInfo hi w'
  have hzr : ∀ w', (zeroValue el).run P w' = .ok z w' := fun w' => by simp [zeroValue, hti, hz]
  have hask : ∀ n w', (askRoom n).run P w' = .ok () w' := fun n w' => by unfold askRoom; split <;> rfl
  have hch : (choose (.appendCap (xs.length + ys.length) cap el)).run P w = .ok (grownCap w (xs.length + ys.length) cap el) w.drew := by
    simp [choose, Sem.run, Question.forced, grownCap]
  unfold Builtin.append_
  rcases h.at1 with h1 | ⟨t, D, h1, h2, h3⟩
  · simp only [h.at0, h1, List.getElem?_toArray, List.getElem?_cons_zero, List.getElem?_cons_succ, Sem.run_bind, run_underlying h.und, Result.andThen_ok, h.size, Sem.run_pure, Bool.false_eq_true, if_false, hn.len]
    rw [if_neg hfit]
    simp only [Sem.run_bind, hti, Result.andThen_ok, false_or]
    rw [if_neg (by omega)]
    simp only [Sem.run_bind, Sem.run_pure, hti, Result.andThen_ok]
    rw [if_neg (by omega)]
    simp only [Sem.run_bind, Sem.run_pure, hch, hask, ho.first w.drew rfl, hn.first w.drew rfl, hzr, hti, Result.andThen_ok, Bool.not_false, if_true, newRow, run_new]
    rfl
  · have hD : (match D with | .int _ => true | _ => false) = false := by cases D <;> first | rfl | exact absurd rfl (h3 _)
    simp only [h.at0, h1, List.getElem?_toArray, List.getElem?_cons_zero, List.getElem?_cons_succ, Sem.run_bind, run_underlying h.und, run_underlying h2, Result.andThen_ok, h.size, Sem.run_pure, hD, Bool.false_eq_true, if_false, hn.len]
    rw [if_neg hfit]
    simp only [Sem.run_bind, hti, Result.andThen_ok, false_or]
    rw [if_neg (by omega)]
    simp only [Sem.run_bind, Sem.run_pure, hti, Result.andThen_ok]
    rw [if_neg (by omega)]
    simp only [Sem.run_bind, Sem.run_pure, hch, hask, ho.first w.drew rfl, hn.first w.drew rfl, hzr, hti, Result.andThen_ok, Bool.not_false, if_true, newRow, run_new]
    rfl

end Go.Ax
/- Ax: what append leaves. -/
set_option linter.unusedVariables false
set_option linter.unusedSimpArgs false
namespace Go.Ax
open Go.RowKit
variable {P : Program} {ti : Nat → TI}
variable {nt N d : Nat} {s : St} {m : AMem} {H : Hp} {lam : Nat → Option Nat} {a : Act} {w w0 : World}
variable {Hi : Hp} {mi : AMem} {wi : World} {ats : Array TypeId} {ty el sz : Nat}

theorem Ext.priv_all {D N' : Nat} {H' : Hp} {m' : AMem} {w' : World} (x : ∀ N', Ext D N' H m w H' m' w') : ∀ c, H c = .priv → H' c = .priv ∧ w'.heap[c]? = w.heap[c]? := fun c h => (x (c + 1)).priv c h (Nat.lt_succ_self c)

theorem append_core (h : AppTys P ats ty el sz) (rt : TypeId) {info : TypeInfo} (hi : P.info? el = some info) (hb0 : 0 < info.bytes) {z : Value} (hz : info.zero = some z) (hzs : z.cells.size = sz) (hsz : 0 < sz)
    (hw : WOk w0 H m w) {xs ys : List AV} {vb vx : Value} {us : List Value} (hn : News P w H sz ys vx us) (hV : V H (.sl sz xs) vb) (hb : (xs.length + ys.length) * info.bytes ≤ 140737488355328)
    (L : RL → Prop) (k : Nat) (hk : elOf k ≠ 0 → elOf k = el) (hT : (Full xs.length vb ∧ (elOf k ≠ 0 → xs = [])) ∨ ∃ l, Roomy H l sz xs.length vb ∧ Unclaimed m l ∧ (∀ d' k, l = .tok d' k → d ≤ d') ∧ L l ∧ l.el = elOf k) :
    ∃ v w1 H1, (Builtin.append_ ats rt #[vb, vx]).run P w = .ok v w1 ∧ WOk w0 H1 m w1 ∧ (∀ N', Ext d N' H m w H1 m w1) ∧ (∀ l2 sz n v, ¬ L l2 → Roomy H l2 sz n v → Roomy H1 l2 sz n v) ∧ V H1 (.sl sz (xs ++ ys)) v ∧ Roomy H1 (.tok d k) sz (xs.length + ys.length) v := by
  obtain ⟨olds, ho⟩ := slice_news (P := P) hw hV (sz := sz) (.inl rfl)
  obtain ⟨b, cap, rfl, hle, hx⟩ := hV
  by_cases hfit : xs.length + ys.length ≤ cap
  · -- it fits
    have hT' : (cap = xs.length ∧ (elOf k ≠ 0 → xs.length = 0)) ∨ ∃ l c o f, b = some ⟨c, o, none⟩ ∧ H c = .froz f (some ⟨l, o + xs.length * sz, o + cap * sz⟩) ∧ Unclaimed m l ∧ (∀ d' k, l = .tok d' k → d ≤ d') ∧ L l ∧ l.el = elOf k := by
      rcases hT with ⟨⟨b', e⟩, hz⟩ | ⟨l, ⟨b', cap', e, hr⟩, h1, h2, h3, h4⟩
      · injection e with _ _ e3; exact .inl ⟨e3, fun h => by rw [hz h]; rfl⟩
      · injection e with e1 _ e3; subst e1 e3
        rcases hr with ⟨e, hz⟩ | ⟨c, o, f, e1, _, e2⟩
        · exact .inl ⟨e, fun h => hz (by rw [h4]; exact h)⟩
        · exact .inr ⟨l, c, o, f, e1, e2, h1, h2, h3, h4⟩
    rcases hT' with ⟨e, hz0⟩ | ⟨l, c, o, f, rfl, hc, hu, hd, hL, hle0⟩
    · have hy : ys = [] := List.eq_nil_of_length_eq_zero (by omega)
      subst hy
      have hus : us = [] := List.eq_nil_of_length_eq_zero (by have := hn.size; simpa using this)
      subst hus
      refine ⟨.slice b xs.length cap, w, H, ?_, hw, fun N' => Ext.refl _ _ _ _ _, fun _ _ _ _ _ h => h, by rw [List.append_nil]; exact ⟨b, cap, rfl, hle, hx⟩, b, cap, rfl, .inl ⟨by simpa using e, fun h => by simpa using hz0 h⟩⟩
      cases b with
      | none => exact run_append_none h rt hn hfit
      | some b => exact run_append_some h rt hn hfit (by simp [storeCells])
    · obtain ⟨arr, aty, fr, q1, q2, q3⟩ := hw.froz c f _ hc
      obtain ⟨q4, q5, q6, q7⟩ := q3 _ rfl
      simp only at q5 q6 q7
      have hmul : (xs.length + ys.length) * sz ≤ cap * sz := Nat.mul_le_mul_right _ hfit
      rw [Nat.add_mul] at hmul
      have husl := hn.size
      have hst := run_storeCells (P := P) us 0 (o := o + xs.length * sz) q1 (by omega) (fun j h1 h2 => q7 j (by omega) (by omega)) hn.one
      simp only [Nat.add_zero] at hst
      have hnew : ∀ j u, us[j]? = some u → (setCells arr (o + xs.length * sz) us)[o + xs.length * sz + j]? = some u := by
        intro j u hj
        have hlt : j < us.length := by
          rcases Nat.lt_or_ge j us.length with h | h
          · exact h
          · rw [List.getElem?_eq_none h] at hj; cases hj
        rw [← Array.getElem?_toList, setCells_toList, setAt_new _ _ _ _ (by simp; omega) hlt, hj]
      have hold : ∀ i u, f i = some u → (setCells arr (o + xs.length * sz) us)[i]? = some u := by
        intro i u hi
        have := q6 i u hi
        rw [← Array.getElem?_toList, setCells_toList, setAt_old _ _ _ _ (.inl this), Array.getElem?_toList]
        exact q2 i u hi
      let f' : Nat → Option Value := fun i => if i < o + xs.length * sz then f i else if i < o + (xs.length + ys.length) * sz then (setCells arr (o + xs.length * sz) us)[i]? else none
      have hff : ∀ i u, f i = some u → f' i = some u := fun i u hi => by
        have := q6 i u hi
        show (if i < o + xs.length * sz then f i else _) = some u
        rw [if_pos this]; exact hi
      have hfw := fun N' => froz_write hw hc q1 (setCells_size us arr (o + xs.length * sz)) (f' := f') hff (fun i u hi => by
          show _ = some u
          change (if i < o + xs.length * sz then f i else if i < o + (xs.length + ys.length) * sz then (setCells arr (o + xs.length * sz) us)[i]? else none) = some u at hi
          split at hi
          · exact hold i u hi
          · split at hi
            · exact hi
            · cases hi) (r' := some ⟨.tok d k, o + (xs.length + ys.length) * sz, o + cap * sz⟩) (fun q hq => by
          injection hq with hq; subst hq
          refine ⟨by show o + xs.length * sz ≤ o + (xs.length + ys.length) * sz; rw [Nat.add_mul]; omega, Nat.le_refl _, fun i u hi => ?_⟩
          change (if i < o + xs.length * sz then f i else if i < o + (xs.length + ys.length) * sz then (setCells arr (o + xs.length * sz) us)[i]? else none) = some u at hi
          split at hi
          · rename_i h1; show i < o + (xs.length + ys.length) * sz; rw [Nat.add_mul]; omega
          · split at hi
            · assumption
            · cases hi) hu d N' hd (fun q hq h => by injection hq with hq; subst hq; exact hle0.symm)
      obtain ⟨g1, _⟩ := hfw 0
      refine ⟨.slice (some ⟨c, o, none⟩) (xs.length + ys.length) cap, _, _, run_append_some h rt hn hfit (by rw [add_plain]; exact hst), g1, fun N' => (hfw N').2, fun l2 sz' n v hl hr => Roomy_ne hc (fun e => hl (by rw [e]; exact hL)) hr, ?_, ?_⟩
      · refine ⟨some ⟨c, o, none⟩, cap, by rw [List.length_append], by rw [List.length_append]; exact hfit, ?_⟩
        by_cases h0 : xs ++ ys = []
        · exact .inl h0
        · refine .inr ⟨c, o, _, _, rfl, upd_same _ _ _, hsz, VE_app ?_ ?_⟩
          · by_cases h1 : xs = []
            · subst h1; trivial
            · obtain ⟨c', o', f0, r0, e1, e2, e3, hE⟩ := hx.resolve_left h1
              injection e1 with e1; injection e1 with e1 e4 _; subst e1 e4
              rw [hc] at e2
              injection e2 with e2 _; subst e2
              exact VE_mono ((hfw 0).2).hle hff _ _ _ hE
          · exact hn.ve _ _ _ ((hfw 0).2).hle fun j u hj => by
              have hlt : j < us.length := by
                rcases Nat.lt_or_ge j us.length with h | h
                · exact h
                · rw [List.getElem?_eq_none h] at hj; cases hj
              show (if o + xs.length * sz + j < o + xs.length * sz then f _ else if o + xs.length * sz + j < o + (xs.length + ys.length) * sz then (setCells arr (o + xs.length * sz) us)[o + xs.length * sz + j]? else none) = some u
              rw [if_neg (by omega), if_pos (by rw [Nat.add_mul]; omega)]
              exact hnew j u hj
      · exact ⟨_, _, rfl, .inr ⟨c, o, _, rfl, hsz, upd_same _ _ _⟩⟩
  · -- it grows
    obtain ⟨nc, rest, r1, r2, r3⟩ := run_append_grow' h rt hn ho hfit hi hb0 hb hz hzs
    have hol := ho.size
    have hus := hn.size
    let arr : Array Value := olds.toArray ++ us.toArray ++ rest
    have harr : arr.size = nc * sz := by
      show (olds.toArray ++ us.toArray ++ rest).size = nc * sz
      have hle : (xs.length + ys.length) * sz ≤ nc * sz := Nat.mul_le_mul_right _ r1
      rw [Nat.sub_mul] at r2
      rw [Nat.add_mul] at hle r2
      simp; omega
    let f' : Nat → Option Value := fun i => if i < (xs.length + ys.length) * sz then arr[i]? else none
    have hal := fun N' => alloc_ok (D := d) (N' := N') (hw.drew) (.cells arr el) (.froz f' (some ⟨.tok d k, 0 + (xs.length + ys.length) * sz, 0 + nc * sz⟩)) (by simp) (fun f r e => by
      injection e with e1 e2; subst e1 e2
      refine ⟨arr, el, (0, 0), rfl, fun i u hi => ?_, fun q hq => ?_⟩
      · change (if i < (xs.length + ys.length) * sz then arr[i]? else none) = some u at hi
        split at hi
        · exact hi
        · cases hi
      · injection hq with hq; subst hq
        refine ⟨by simp only; omega, fun i u hi => ?_, by simp⟩
        change (if i < (xs.length + ys.length) * sz then arr[i]? else none) = some u at hi
        split at hi
        · simp only; omega
        · cases hi) (by simp) (fun f q e hq arr' e' fr' ho => by
      injection e with _ e2; injection e2 with e2; subst e2
      injection ho with _ h2 _; rw [← h2]; exact (hk hq).symm)
    obtain ⟨g1, g2, g3⟩ := hal 0
    have hle' : HLe H (upd H w.heap.size (.froz f' (some ⟨.tok d k, 0 + (xs.length + ys.length) * sz, 0 + nc * sz⟩))) := g2.hle
    refine ⟨_, _, _, r3, g1, fun N' => (Ext.drew _ _ _ _ _).trans (hal N').2.1, fun l2 sz' n v _ hr => hr.same g3, ?_, ?_⟩
    · refine ⟨some ⟨w.heap.size, 0, none⟩, nc, by rw [List.length_append], by rw [List.length_append]; exact r1, ?_⟩
      by_cases h0 : xs ++ ys = []
      · exact .inl h0
      · refine .inr ⟨w.heap.size, 0, _, _, rfl, upd_same _ _ _, hsz, VE_app ?_ ?_⟩
        · exact ho.ve _ _ _ hle' fun j u hj => by
            have hlt : j < olds.length := by
              rcases Nat.lt_or_ge j olds.length with h | h
              · exact h
              · rw [List.getElem?_eq_none h] at hj; cases hj
            show (if 0 + j < (xs.length + ys.length) * sz then arr[0 + j]? else none) = some u
            rw [Nat.zero_add, if_pos (by rw [Nat.add_mul]; omega)]
            show (olds.toArray ++ us.toArray ++ rest)[j]? = some u
            rw [Array.getElem?_append_left (by simp; omega), Array.getElem?_append_left (by simpa using hlt)]
            simpa using hj
        · exact hn.ve _ _ _ hle' fun j u hj => by
            have hlt : j < us.length := by
              rcases Nat.lt_or_ge j us.length with h | h
              · exact h
              · rw [List.getElem?_eq_none h] at hj; cases hj
            show (if 0 + xs.length * sz + j < (xs.length + ys.length) * sz then arr[0 + xs.length * sz + j]? else none) = some u
            rw [if_pos (by rw [Nat.add_mul]; omega)]
            show (olds.toArray ++ us.toArray ++ rest)[0 + xs.length * sz + j]? = some u
            rw [Array.getElem?_append_left (by simp; omega), Array.getElem?_append_right (by simp; omega)]
            simp only [List.size_toArray, List.getElem?_toArray]
            rw [show 0 + xs.length * sz + j - olds.length = j from by omega]
            exact hj
    · exact ⟨_, _, rfl, .inr ⟨w.heap.size, 0, f', rfl, hsz, upd_same _ _ _⟩⟩

end Go.Ax
/- Ax: append, make, as operations. -/
set_option linter.unusedVariables false
set_option linter.unusedSimpArgs false
namespace Go.Ax
open Go.RowKit
variable {P : Program} {ti : Nat → TI}
variable {nt N d : Nat} {s : St} {m : AMem} {H : Hp} {lam : Nat → Option Nat} {a : Act} {w w0 : World}
variable {Hi : Hp} {mi : AMem} {wi : World} {ats : Array TypeId} {ty el sz : Nat}

theorem News.resize {szx : Nat} {ys : List AV} {vx : Value} {us : List Value} (h : News P w H szx ys vx us) (hs : szx = sz ∨ ys = []) : ∃ us, News P w H sz ys vx us := by
  by_cases e : szx = sz
  · subst e; exact ⟨us, h⟩
  · obtain rfl := hs.resolve_left e
    refine ⟨[], h.len, fun w' hw' => ?_, by simp, by simp, fun _ _ _ _ _ => trivial⟩
    have h1 := h.len w'
    cases vx <;> first | (simp [Builtin.lenOf, stuck, Sem.run] at h1; done) | skip
    · rename_i s
      have := h.first w' hw'
      have e : ∀ z, Builtin.firstCells z ([] : List AV).length (.string s) = pure ((s.extract 0 0).data.map fun b => Value.int .u8 b.toNat) := fun z => rfl
      rw [e] at this ⊢
      have h2 := h.size
      have : us = [] := List.eq_nil_of_length_eq_zero (by simpa using h2)
      subst this
      assumption
    · rename_i b n c
      cases b <;> simp [Builtin.firstCells, loadCells, loadCellsFrom]

theorem V_resize {sz sz' : Nat} {xs : List AV} {v : Value} (h : V H (.sl sz xs) v) (hs : sz = sz' ∨ xs = []) : V H (.sl sz' xs) v := by
  rcases hs with rfl | rfl
  · exact h
  · obtain ⟨a, cap, e, hl, _⟩ := h
    exact ⟨a, cap, e, hl, .inl rfl⟩

theorem kill_nil (s : St) : s.kill [] = s := by simp [St.kill]

theorem core_leaves {H1 : Hp} {w1 : World} (hx : ∀ N', Ext d N' H m w H1 m w1) {L : RL → Prop} (hr : ∀ l2 sz n v, ¬ L l2 → Roomy H l2 sz n v → Roomy H1 l2 sz n v) {ks : List Nat} (hL : ∀ j, j ∉ ks → ¬ L (.tok d j)) (hl : ∀ k, s.live k = true → s.seen k = true) : Leaves (lam := lam) d N s (s.kill ks) H m w H1 m w1 where
  hle := (hx 0).hle
  priv c h _ := Ext.priv_all (D := d) (N' := 0) hx c h
  room k sz n v _ h h1 := hr _ _ _ _ (hL k (kill_not h)) h1
  next := (hx 0).next
  mv := (hx 0).mv
  size := (hx 0).size
  st := kill_le _ _
  tm := rfl
  lc _ _ h := h
  mp _ _ h := h
  it _ _ h := h
  df := rfl
  live k h := by
    have : s.live k = true := by simp only [St.kill, Bool.and_eq_true] at h; exact h.1
    exact hl k this

theorem appTys {E : Env} (hti : TysOk P E.ti) (hk : (E.ti ty).k = .slice el) (h0 : ats[0]? = some ty) (h1 : appTy E ats[1]? = true) : AppTys P ats ty el (E.ti el).sz := by
  refine ⟨und_slice hti hk, h0, ?_, run_sizeOf (hti.ok el (hti.sub _ _ (by rw [hk]; exact List.mem_cons_self)))⟩
  cases h2 : ats[1]? with
  | none => exact .inl rfl
  | some t =>
    rw [h2] at h1
    simp only [appTy] at h1
    split at h1
    · rename_i e he; exact .inr ⟨t, _, rfl, und_slice hti he, by simp⟩
    · rename_i he; exact .inr ⟨t, _, rfl, und_str hti he, by simp⟩
    · cases h1

theorem el_info {E : Env} (hti : TysOk P E.ti) (hk : (E.ti ty).k = .slice el) (hl : (E.ti el).zero.length = (E.ti el).sz) : ∃ info z, P.info? el = some info ∧ info.bytes = (E.ti el).by_ ∧ info.zero = some z ∧ All2 Zr (E.ti el).zero z.cells.toList ∧ z.cells.size = (E.ti el).sz := by
  obtain ⟨x, h1, h2, h3, h4⟩ := (hti.ok el (hti.sub _ _ (by rw [hk]; exact List.mem_cons_self))).info
  obtain ⟨z, h5, h6, _⟩ := h4 hl
  exact ⟨x, z, h1, h3, h5, h6, by have := h6.length; simp at this; omega⟩

theorem append_ok (E : Env) (hti : TysOk P E.ti) (hw : WOk w0 H m w) (hf : Fr nt N d s m H lam a w) (x : Ext d N Hi mi wi H m w) (hN : N ≤ w.heap.size) (h0 : ats[0]? = some ty) (h1 : appTy E ats[1]? = true) (rt : TypeId) {k szx : Nat} {base : T} {ys : List AV} {e : Eff} {vb vx : Value} {us : List Value}
    (h : aAppend E s m ty k base szx ys = some e) (hv : VT d H m w lam s base vb) (hn : News P w H szx ys vx us) {dst : Option Tmp} (hd : dstOk nt dst = true) :
    OpOk P nt N d w0 Hi mi wi s m a w dst e (Builtin.append_ ats rt #[vb, vx]) := by
  unfold aAppend at h
  split at h
  · rename_i el hk
    obtain ⟨hb, h2⟩ := bnd_some h
    simp only [Bool.and_eq_true, Bool.or_eq_true, List.isEmpty_iff] at hb
    obtain ⟨hb1, hb2⟩ := hb
    have hl := Nat.eq_of_beq_eq_true hb2
    obtain ⟨us', hn'⟩ := hn.resize (sz := (E.ti el).sz) (hb1.imp Nat.eq_of_beq_eq_true id)
    obtain ⟨info, z, g1, g2, g3, g4, g5⟩ := el_info hti hk hl
    have hat := appTys hti hk h0 h1
    split at h2
    · rename_i kb sz xs
      generalize hq : tk k (bif Nat.beq kb 0 then (bif xs.isEmpty then el else 0) else elOf kb) = q at h2
      obtain ⟨hb, h3⟩ := bnd_some h2
      simp only [Option.some.injEq] at h3; subst h3
      simp only [Bool.and_eq_true, Bool.or_eq_true, List.isEmpty_iff, Bool.not_eq_true', room] at hb
      obtain ⟨⟨⟨⟨⟨⟨⟨c1, c2⟩, c3, c4⟩, c5⟩, c6⟩, c7⟩, c8⟩, c9⟩ := hb
      have hel : el < 65536 := by simp [Nat.blt] at c9; omega
      have hby : 0 < info.bytes := by rw [g2]; simp [Nat.blt] at c3; omega
      have hroom : (xs.length + ys.length) * info.bytes ≤ 140737488355328 := by rw [g2]; exact Nat.le_of_ble_eq_true c4
      have hsz : 0 < (E.ti el).sz := by simp [Nat.blt] at c5; omega
      have hk0 : q ≠ 0 := by rw [← hq]; simp [Nat.blt] at c7; unfold tk; omega
      have hV := V_resize hv.2.1 (sz' := (E.ti el).sz) (c2.imp Nat.eq_of_beq_eq_true And.left)
      by_cases hz : kb = 0
      · subst hz
        simp only [Nat.beq_refl, cond_true] at hq
        have heq : elOf q = bif xs.isEmpty then el else 0 := by rw [← hq]; exact elOf_tk (by cases xs.isEmpty <;> simp [hel])
        obtain ⟨v, w1, H1, r1, r2, r3, r4, r5, r6⟩ := append_core (d := d) hat rt g1 hby g3 g5 hsz hw hn' hV hroom (fun _ => False) q (fun h => by rw [heq] at h ⊢; cases hx : xs.isEmpty <;> simp_all) (.inl ⟨hv.2.2.1 rfl, fun h => by rw [heq] at h; cases hx : xs.isEmpty <;> simp_all⟩)
        refine ⟨v, w1, r1, ?_⟩
        have hle := core_leaves (N := N) (lam := lam) (s := s) r3 r4 (ks := []) (fun _ _ => id) hf.live
        exact newTok_inv (ks := []) r2 (hf.leaves hle) (x.trans (r3 N)) (Nat.le_trans hN (r3 N).size) hd hk0 c6 r5 (by rw [List.length_append]; exact r6) rfl rfl
      · have hlive : s.live kb = true := by
          rcases c1 with c1 | c1
          · exact absurd (Nat.eq_of_beq_eq_true c1) hz
          · exact c1
        have hbk : Nat.beq kb 0 = false := beq_ne hz
        simp only [hbk, cond_false] at hq
        have heq : elOf q = elOf kb := by rw [← hq]; exact elOf_tk (elOf_lt _)
        have hkq : elOf q ≠ 0 → elOf q = el := fun h => by
          rw [heq] at h ⊢
          rcases c8 with c8 | c8
          · exact absurd (Nat.eq_of_beq_eq_true c8) h
          · exact Nat.eq_of_beq_eq_true c8
        by_cases hss : sz = (E.ti el).sz
        · subst hss
          obtain ⟨v, w1, H1, r1, r2, r3, r4, r5, r6⟩ := append_core (d := d) hat rt g1 hby g3 g5 hsz hw hn' hV hroom (fun l => l = .tok d kb) q hkq (.inr ⟨.tok d kb, hv.2.2.2 hz hlive, (fun _ _ _ _ _ _ _ _ _ e => by cases e), (fun d' k' e => by injection e with e _; omega), rfl, heq.symm⟩)
          refine ⟨v, w1, r1, ?_⟩
          have hle := core_leaves (N := N) (lam := lam) (s := s) r3 r4 (ks := [kb]) (fun j hj e => by injection e with _ e; exact hj (by simp [e])) hf.live
          refine newTok_inv (ks := [kb]) r2 (hf.leaves hle) (x.trans (r3 N)) (Nat.le_trans hN (r3 N).size) hd hk0 c6 r5 (by rw [List.length_append]; exact r6) ?_ rfl
          have : Nat.beq kb 0 = false := beq_ne hz
          simp only [this, cond_false]
        · have hs0 : sz = 0 := by
            rcases c2 with c2 | c2
            · exact absurd (Nat.eq_of_beq_eq_true c2) hss
            · rcases c2.2 with c2 | c2
              · exact absurd (Nat.eq_of_beq_eq_true c2) hz
              · exact Nat.eq_of_beq_eq_true c2
          have hfull : Full xs.length vb ∧ (elOf q ≠ 0 → xs = []) := by
            obtain ⟨b, cap, e, hh⟩ := hv.2.2.2 hz hlive
            rcases hh with ⟨rfl, hz2⟩ | ⟨_, _, _, _, h0, _⟩
            · exact ⟨⟨b, e⟩, fun h => List.eq_nil_of_length_eq_zero (hz2 (by show elOf kb ≠ 0; rw [← heq]; exact h))⟩
            · omega
          obtain ⟨v, w1, H1, r1, r2, r3, r4, r5, r6⟩ := append_core (d := d) hat rt g1 hby g3 g5 hsz hw hn' hV hroom (fun _ => False) q hkq (.inl hfull)
          refine ⟨v, w1, r1, ?_⟩
          have hle := core_leaves (N := N) (lam := lam) (s := s) r3 r4 (ks := [kb]) (fun _ _ => id) hf.live
          refine newTok_inv (ks := [kb]) r2 (hf.leaves hle) (x.trans (r3 N)) (Nat.le_trans hN (r3 N).size) hd hk0 c6 r5 (by rw [List.length_append]; exact r6) ?_ rfl
          simp only [hbk, cond_false]
    · rename_i id off kb sz xs
      obtain ⟨cs, hcs, h3⟩ := Option.bind_eq_some_iff.1 h2
      split at h3
      · rename_i k' sz' xs' hoff
        split at h3
        · rename_i ek
          subst ek
          obtain ⟨hb, h4⟩ := bnd_some h3
          simp only [Option.some.injEq] at h4; subst h4
          simp only [Bool.and_eq_true, Bool.not_eq_true', room] at hb
          obtain ⟨⟨⟨⟨⟨c2, c3, c4⟩, c5⟩, c6⟩, c7⟩, c8⟩ := hb
          have heq : elOf (tk k (elOf k')) = elOf k' := elOf_tk (elOf_lt _)
          have hkq : elOf (tk k (elOf k')) ≠ 0 → elOf (tk k (elOf k')) = el := fun h => by
            rw [heq] at h ⊢
            simp only [Bool.or_eq_true] at c8
            rcases c8 with c8 | c8
            · exact absurd (Nat.eq_of_beq_eq_true c8) h
            · exact Nat.eq_of_beq_eq_true c8
          have hby : 0 < info.bytes := by rw [g2]; simp [Nat.blt] at c3; omega
          have hroom : (xs.length + ys.length) * info.bytes ≤ 140737488355328 := by rw [g2]; exact Nat.le_of_ble_eq_true c4
          have hsz : 0 < (E.ti el).sz := by simp [Nat.blt] at c5; omega
          have hk0 : tk k (elOf k') ≠ 0 := by simp [Nat.blt] at c7; unfold tk; omega
          obtain rfl := Nat.eq_of_beq_eq_true c2
          obtain ⟨hV, q1, q2, q3⟩ := hv
          obtain ⟨e1, e2, c, q4, q5⟩ := q3 cs sz' xs' hcs hoff
          subst e1 e2
          obtain ⟨arr, aty, harr, hcB, hall⟩ := hw.blk hcs q4
          obtain ⟨u, hu, hvm⟩ := hall.get off _ hoff
          have : u = vb := by
            rw [cell_block harr] at q5
            rw [Array.getElem?_toList, q5] at hu
            exact (Option.some.inj hu).symm
          subst this
          have hRm := (hvm.2.2 q1).2
          have hset : ∀ (j k2 sz2 : Nat) (xs2 : List AV), (cs.set off (T.v (.sl (E.ti el).sz xs')))[j]? = some (.own k2 sz2 xs2) → j ≠ off ∧ cs[j]? = some (.own k2 sz2 xs2) := by
            intro j k2 sz2 xs2 hj
            rw [List.getElem?_set] at hj
            split at hj
            · split at hj <;> simp at hj
            · rename_i hne; exact ⟨fun e => hne e.symm, hj⟩
          obtain ⟨m1, m2⟩ := mem_write (n0 := m.next) (D := d) (N' := N) (cs' := cs.set off (.v (.sl (E.ti el).sz xs'))) hw hcs q4 harr (arr' := arr)
            (by
              have := hall.set off (T.v (.sl (E.ti el).sz xs')) u ⟨V_one hV (by simp) (by simp), hV⟩
              have e : arr.toList.set off u = arr.toList := by
                apply List.ext_getElem?
                intro j
                rw [List.getElem?_set]
                split
                · rename_i e; subst e
                  split
                  · exact hu.symm
                  · rename_i hn; rw [List.getElem?_eq_none (by omega)]
                · rfl
              rw [e] at this; exact this)
            (fun j k2 sz2 xs2 hj _ => .inl ⟨(hset j k2 sz2 xs2 hj).2, rfl⟩) (Nat.le_refl _) (fun j k2 sz2 xs2 hj _ _ => (hset j k2 sz2 xs2 hj).2)
          obtain ⟨_, m3⟩ := mem_write (n0 := m.next) (D := d + 1) (N' := w.heap.size) (cs' := cs.set off (.v (.sl (E.ti el).sz xs'))) hw hcs q4 harr (arr' := arr)
            (by
              have := hall.set off (T.v (.sl (E.ti el).sz xs')) u ⟨V_one hV (by simp) (by simp), hV⟩
              have e : arr.toList.set off u = arr.toList := by
                apply List.ext_getElem?
                intro j
                rw [List.getElem?_set]
                split
                · rename_i e; subst e
                  split
                  · exact hu.symm
                  · rename_i hn; rw [List.getElem?_eq_none (by omega)]
                · rfl
              rw [e] at this; exact this)
            (fun j k2 sz2 xs2 hj _ => .inl ⟨(hset j k2 sz2 xs2 hj).2, rfl⟩) (Nat.le_refl _) (fun j k2 sz2 xs2 hj _ _ => (hset j k2 sz2 xs2 hj).2)
          rw [setBlk_id harr] at m1 m2 m3
          have hf1 := hf.ext m3 (Nat.le_refl _)
          have hun : Unclaimed { m with blk := upd m.blk id (some (cs.set off (.v (.sl (E.ti el).sz xs')))) } (.mv k') := by
            intro id2 cs2 off2 k2 sz2 xs2 p1 p2 _ e
            injection e with e; subst e
            by_cases e : id2 = id
            · subst e
              simp only [upd_same, Option.some.injEq] at p1; subst p1
              obtain ⟨p3, p4⟩ := hset _ _ _ _ p2
              exact p3 (hw.mvU _ _ _ _ _ _ _ _ _ _ _ hcs p4 hcs hoff q1).2
            · simp only [upd_ne _ _ e] at p1
              exact e (hw.mvU _ _ _ _ _ _ _ _ _ _ _ p1 p2 hcs hoff q1).1
          obtain ⟨v, w1, H1, r1, r2, r3, r4, r5, r6⟩ := append_core (d := d) hat rt g1 hby g3 g5 hsz m1 hn' hV hroom (fun l => l = .mv k') (tk k (elOf k')) hkq (.inr ⟨.mv k', hRm, hun, (fun _ _ e => by cases e), rfl, heq.symm⟩)
          refine ⟨v, w1, r1, ?_⟩
          have hle := core_leaves (N := N) (lam := lam) (s := s) r3 r4 (ks := []) (fun j hj e => by cases e) hf.live
          exact newTok_inv (ks := []) r2 (hf1.leaves hle) ((x.trans m2).trans (r3 N)) (Nat.le_trans hN (r3 N).size) hd hk0 c6 r5 (by rw [List.length_append]; exact r6) rfl rfl
        · cases h3
      · cases h3
    · cases h2
  · cases h

end Go.Ax
/- Ax: make of a slice. -/
set_option linter.unusedVariables false
set_option linter.unusedSimpArgs false
namespace Go.Ax
open Go.RowKit
variable {P : Program} {ti : Nat → TI}
variable {nt N d : Nat} {s : St} {m : AMem} {H : Hp} {lam : Nat → Option Nat} {a : Act} {w w0 : World}
variable {Hi : Hp} {mi : AMem} {wi : World} {ats : Array TypeId} {ty el sz : Nat}

theorem run_makeSlice {E : Env} (hti : TysOk P E.ti) (hk : (E.ti ty).k = .slice el) (hz : (E.ti el).zero.length = (E.ti el).sz) (hsz : 0 < (E.ti el).sz) (hby : 0 < (E.ti el).by_) {l c : Int} (h0 : 0 ≤ l) (h1 : l ≤ c) (hroom : c.toNat * (E.ti el).by_ ≤ 140737488355328) (kl kc : IntKind) :
    ∃ row : Array Value, (Instr.makeSlice ty (.int kl l) (.int kc c)).run P w = .ok (.slice (some ⟨w.heap.size, 0, none⟩) l.toNat c.toNat) (w.alloc (.cells row el)) ∧ All2 Zr (reps c.toNat (E.ti el).zero) row.toList ∧ row.size = c.toNat * (E.ti el).sz := by
  obtain ⟨info, z, g1, g2, g3, g4, g5⟩ := el_info hti hk hz
  have hel := hti.ok el (hti.sub _ _ (by rw [hk]; exact List.mem_cons_self))
  have hcN : c.toNat ≤ 140737488355328 := by
    have : c.toNat * 1 ≤ c.toNat * (E.ti el).by_ := Nat.mul_le_mul_left _ hby
    omega
  have hlw : IntKind.i64.wrap l = l := IntWalk.i64_in l (by omega)
  have hcw : IntKind.i64.wrap c = c := IntWalk.i64_in c (by omega)
  have hb : ((E.ti el).by_ : Int) * c ≤ 281474976710656 := by
    have : ((c.toNat * (E.ti el).by_ : Nat) : Int) = c * ((E.ti el).by_ : Int) := by
      rw [Int.natCast_mul, Int.toNat_of_nonneg (by omega)]
    rw [Int.mul_comm, ← this]; omega
  have hgt : decide (c < 0) = false := by simp; omega
  have hgt2 : decide (((E.ti el).by_ : Int) * c > 2 ^ 48) = false := by simp; omega
  have hask : ∀ n w', (askRoom n).run P w' = .ok () w' := fun n w' => by unfold askRoom; split <;> rfl
  have hrow : ∃ Z : Array Value, ((c.toNat * (E.ti el).sz = 0 ∧ Z = #[]) ∨ (¬ c.toNat * (E.ti el).sz = 0 ∧ Z = z.cells)) ∧ All2 Zr (reps c.toNat (E.ti el).zero) ((Array.range (c.toNat * (E.ti el).sz)).map (fun i => Z[i % Z.size]!)).toList := by
    by_cases h0 : c.toNat = 0
    · rw [h0]
      exact ⟨#[], .inl ⟨by simp, rfl⟩, by simp [reps, All2]⟩
    · refine ⟨z.cells, .inr ⟨by have := Nat.mul_pos (Nat.pos_of_ne_zero h0) hsz; omega, rfl⟩, ?_⟩
      have := row_reps z.cells (by omega) c.toNat
      rw [g5] at this
      rw [g5, this]
      exact reps_All2 g4 _
  obtain ⟨Z, hZ, hall⟩ := hrow
  refine ⟨(Array.range (c.toNat * (E.ti el).sz)).map (fun i => Z[i % Z.size]!), ?_, hall, by simp⟩
  have hti' : ∀ w', (typeInfo el).run P w' = .ok info w' := fun w' => run_typeInfo g1 w'
  have hzr : ∀ w', (zeroValue el).run P w' = .ok z w' := fun w' => by simp [zeroValue, hti', g3]
  have hai : ∀ k n w', (asInt (.int k n)).run P w' = .ok n w' := fun k n w' => rfl
  have hcond : ((decide (c < 0) || decide (((E.ti el).by_ : Int) * c > 2 ^ 48) || decide (l < 0) || decide (l > c)) = true) = False := by
    rw [hgt, hgt2]; simp; omega
  simp only [Instr.makeSlice, Sem.run_bind, run_underlying (und_slice hti hk), Result.andThen_ok, hai, hti', hlw, hcw, g2]
  simp only [hcond, if_false, Sem.run_bind, hask, Result.andThen_ok, run_sizeOf hel]
  rcases hZ with ⟨q1, rfl⟩ | ⟨q1, rfl⟩
  · rw [if_pos q1]
    simp only [Sem.run_bind, Sem.run_pure, Result.andThen_ok, newRow, run_new]
  · rw [if_neg q1]
    simp only [Sem.run_bind, Sem.run_pure, Result.andThen_ok, hzr, newRow, run_new]

theorem makeSlice_ok (E : Env) (hti : TysOk P E.ti) (hw : WOk w0 H m w) (hf : Fr nt N d s m H lam a w) (x : Ext d N Hi mi wi H m w) (hN : N ≤ w.heap.size) {k : Nat} {l c : Int} {kl kc : IntKind} {e : Eff} (h : aMakeSlice E ty k s l c = some e) (hd : dstOk nt (some k) = true) :
    OpOk P nt N d w0 Hi mi wi s m a w (some k) e (Instr.makeSlice ty (.int kl l) (.int kc c)) := by
  unfold aMakeSlice at h
  split at h
  · rename_i el hk
    simp only at h
    split at h
    · rename_i hlc
      obtain ⟨hb, h2⟩ := bnd_some h
      simp only [room, Bool.and_eq_true] at hb
      obtain ⟨⟨⟨b1, b2⟩, b3⟩, b4⟩ := hb
      have hby : 0 < (E.ti el).by_ := by simp [Nat.blt] at b1; omega
      have hsz : 0 < (E.ti el).sz := by simp [Nat.blt] at b3; omega
      obtain ⟨row, r1, r2, r3⟩ := run_makeSlice (P := P) (w := w) hti hk (Nat.eq_of_beq_eq_true b4) hsz hby hlc.1 hlc.2 (Nat.le_of_ble_eq_true b2) kl kc
      refine ⟨_, _, r1, ?_⟩
      split at h2
      · rename_i hl
        subst hl
        obtain ⟨hs, h3⟩ := bnd_some h2
        simp only [Option.some.injEq] at h3; subst h3
        simp only [Bool.not_eq_true'] at hs
        exact newLoc_inv hw hf x hN hd hs (zero_VQ r2) rfl fun H' m' w' s' lam' h1 h2 => ⟨h1, fun _ => ⟨w.heap.size, _, _, h2, rfl, Nat.le_refl _, fun _ => rfl⟩⟩
      · split at h2
        · rename_i hne hl
          subst hl
          obtain ⟨hs, h3⟩ := bnd_some h2
          simp only [Option.some.injEq] at h3; subst h3
          simp only [Bool.and_eq_true, Bool.not_eq_true'] at hs
          have hel : el < 65536 := by have := hs.2; simp [Nat.blt] at this; omega
          have hk0 : tk k el ≠ 0 := by have := hs.1.2; simp [Nat.blt] at this; unfold tk; omega
          have hal := fun N' => alloc_ok (D := d) (N' := N') hw (.cells row el) (.froz (fun _ => none) (some ⟨.tok d (tk k el), 0 + 0 * (E.ti el).sz, 0 + c.toNat * (E.ti el).sz⟩)) (by simp) (fun f r e => by
            injection e with e1 e2; subst e1 e2
            exact ⟨row, el, (0, 0), rfl, fun i u hi => (by cases hi), fun q hq => by
              injection hq with hq; subst hq
              exact ⟨by simp only; omega, fun i u hi => (by cases hi), by simp⟩⟩) (by simp) (fun f q e hq arr' e' fr' ho => by
            injection e with _ e2; injection e2 with e2; subst e2
            injection ho with _ h2 _; rw [← h2]; exact (elOf_tk hel).symm)
          obtain ⟨g1, g2, g3⟩ := hal N
          have hle := core_leaves (N := N) (lam := lam) (s := s) (L := fun _ => False) (fun N' => (hal N').2.1) (fun l2 sz n v _ hr => hr.same g3) (ks := []) (fun j hj => id) hf.live
          exact newTok_inv (ks := []) g1 (hf.leaves hle) (x.trans g2) (by rw [heap_size]; omega) hd hk0 hs.1.1 ⟨_, _, rfl, Nat.zero_le _, .inl rfl⟩ ⟨_, _, rfl, .inr ⟨w.heap.size, 0, _, rfl, hsz, upd_same _ _ _⟩⟩ rfl rfl
        · cases h2
    · cases h
  · cases h

end Go.Ax
/- Ax: an operation does what the machine says. -/
set_option linter.unusedVariables false
set_option linter.unusedSimpArgs false
namespace Go.Ax
open Go.RowKit
variable {P : Program} {ti : Nat → TI}
variable {nt N d : Nat} {s : St} {m : AMem} {H : Hp} {lam : Nat → Option Nat} {a : Act} {w w0 : World}
variable {Hi : Hp} {mi : AMem} {wi : World} {K : Act → World → Prop} {Q : Exit → Act → World → Prop}

/-- A function that is called answers so: one that has no body does so at once. -/
def Runs (P : Program) (f : FuncId) (vs : Array Value) (w : World) (R : Value → World → Prop) : Prop :=
  (∃ v w', (callFunc f vs).run P w = .ok (.value v) w' ∧ R v w') ∨
  ((callFunc f vs).run P w = .ok (.enter f vs) w ∧ Calls P f vs w fun e w' => match e with | .returned v => R v w' | _ => False)

/-- The machine's calls are the program's, d deep and deeper. -/
def CallOk (P : Program) (w0 : World) (d : Nat) (call : CallT) : Prop :=
  ∀ f args m r m', call f args m = some (r, m') → ∀ H w (vs : List Value), WOk w0 H m w → VL H args vs →
    Runs P f vs.toArray w fun v w' => ∃ H', WOk w0 H' m' w' ∧ Ext d w.heap.size H m w H' m' w' ∧ V H' r v

theorem wp_value {o : Oper} {v : Value} {w' : World} (h : (execOp a.eval o).run P w = .ok (.value v) w') (hk : K (a.put o.dst v) w') : o.wp P a w K Q := by
  unfold Oper.wp; rw [h]; exact hk

theorem wp_op {o : Oper} {e : Eff} {x : Sem Value} (hx : execOp a.eval o = (do pure (.value (← x)))) (h : OpOk P nt N d w0 Hi mi wi s m a w o.dst e x) (hK : ∀ a' w', Inv nt N d w0 Hi mi wi (s.put o.dst e) (e.mw.getD m) a' w' → K a' w') : o.wp P a w K Q := by
  obtain ⟨v, w', h1, h2⟩ := h
  exact wp_value (by rw [hx]; simp only [Sem.run_bind, h1, Result.andThen_ok, Sem.run_pure]) (hK _ _ h2)

theorem wp_unit {o : Oper} {e : Eff} {x : Sem Unit} (hx : execOp a.eval o = (do x; pure .skip)) (h : ∃ w', x.run P w = .ok () w' ∧ Inv nt N d w0 Hi mi wi (s.put o.dst e) (e.mw.getD m) (a.put o.dst undef) w') (hK : ∀ a' w', Inv nt N d w0 Hi mi wi (s.put o.dst e) (e.mw.getD m) a' w' → K a' w') : o.wp P a w K Q := by
  obtain ⟨w', h1, h2⟩ := h
  unfold Oper.wp
  rw [hx]
  simp only [Sem.run_bind, h1, Result.andThen_ok, Sem.run_pure]
  exact hK _ _ h2

theorem OpOk.quiet (hw : WOk w0 H m w) (hf : Fr nt N d s m H lam a w) (x : Ext d N Hi mi wi H m w) (hN : N ≤ w.heap.size) {e : Eff} (hq : Quiet e) {dst : Option Tmp} (hd : dstOk nt dst = true) {y : Sem Value} (h : ∃ v, y.run P w = .ok v w ∧ VT d H m w lam s e.val v) : OpOk P nt N d w0 Hi mi wi s m a w dst e y := by
  obtain ⟨v, h1, h2⟩ := h
  exact ⟨v, w, h1, quiet_inv hw hf x hN hq hd h2⟩

theorem one_some {x : Option T} {e : Eff} (h : one x = some e) : ∃ y, x = some y ∧ e = { val := y } := by
  obtain ⟨y, h1, h2⟩ := Option.map_eq_some_iff.1 h
  exact ⟨y, h1, h2.symm⟩
theorem oneV_some {x : Option AV} {e : Eff} (h : oneV x = some e) : ∃ y, x = some y ∧ e = { val := .v y } := by
  obtain ⟨y, h1, h2⟩ := Option.map_eq_some_iff.1 h
  exact ⟨y, h1, h2.symm⟩
theorem oneR_some {x : T} {y : Option T} {e : Eff} (h : oneR s x y = some e) : opn s x = true ∧ ∃ z, y = some z ∧ e = { val := z, lr := rds x } := by
  obtain ⟨h1, h2⟩ := bnd_some h
  obtain ⟨z, h3, h4⟩ := Option.map_eq_some_iff.1 h2
  exact ⟨h1, z, h3, h4.symm⟩

theorem quiet_val (y : T) : Quiet { val := y } := ⟨rfl, rfl, rfl, rfl, rfl, rfl, rfl, rfl⟩
theorem quiet_lr (y : T) (l : List Nat) : Quiet { val := y, lr := l } := ⟨rfl, rfl, rfl, rfl, rfl, rfl, rfl, rfl⟩

theorem mapM_all2 {α β γ : Type} {R : β → γ → Prop} {f : α → Option β} {g : α → γ} (hR : ∀ x y, f x = some y → R y (g x)) : ∀ {l : List α} {r : List β}, l.mapM f = some r → All2 R r (l.map g)
  | [], r, h => by simp at h; subst h; trivial
  | x :: l, r, h => by
    rw [List.mapM_cons] at h
    obtain ⟨y, h1, h2⟩ := Option.bind_eq_some_iff.1 h
    obtain ⟨ys, h3, h4⟩ := Option.bind_eq_some_iff.1 h2
    injection h4 with h4; subst h4
    exact ⟨hR x y h1, mapM_all2 hR h3⟩

theorem boolOf_some {x : T} {b : Bool} (h : boolOf x = some b) : x = .v (.bool b) := by
  unfold boolOf at h
  split at h
  · injection h with h; subst h; rfl
  · cases h

theorem load_ok (E : Env) (hti : TysOk P E.ti) (hw : WOk w0 H m w) (hf : Fr nt N d s m H lam a w) {ty : Nat} (hg : (E.ti ty).ok = true) {p : T} {e : Eff} {v : Value} (h : aLoad E s m ty p = some e) (hv : VT d H m w lam s p v) : Quiet e ∧ ∃ u, (Instr.loadAt ty v).run P w = .ok u w ∧ VT d H m w lam s e.val u := by
  unfold aLoad at h
  split at h
  · rename_i t off
    obtain ⟨cs, h1, h2⟩ := Option.bind_eq_some_iff.1 h
    obtain ⟨y, h3, rfl⟩ := Option.map_eq_some_iff.1 h2
    exact ⟨quiet_lr _ _, load_reg hf hti hg hv h1 h3⟩
  · rename_i id off
    obtain ⟨cs, h1, h2⟩ := Option.bind_eq_some_iff.1 h
    obtain ⟨g1, g2⟩ := load_mem (nt := nt) (N := N) (d := d) (s := s) (lam := lam) (a := a) hw hti hg hv h1
    split at h2
    · rename_i hag
      obtain ⟨y, h3, rfl⟩ := Option.map_eq_some_iff.1 h2
      exact ⟨⟨rfl, rfl, rfl, rfl, rfl, rfl, rfl, rfl⟩, g1 y hag h3⟩
    · rename_i hag
      obtain ⟨y, h3, rfl⟩ := Option.map_eq_some_iff.1 h2
      exact ⟨⟨rfl, rfl, rfl, rfl, rfl, rfl, rfl, rfl⟩, g2 y hag h3⟩
  · rename_i sz xs i off
    obtain ⟨x, h1, h2⟩ := Option.bind_eq_some_iff.1 h
    obtain ⟨g1, g2⟩ := load_ea (d := d) (s := s) (lam := lam) hw hti hg hv h1
    split at h2
    · rename_i hag
      obtain ⟨hb, h3⟩ := bnd_some h2
      simp only [Option.some.injEq] at h3; subst h3
      exact ⟨quiet_val _, g1 hag (Nat.le_of_ble_eq_true hb)⟩
    · rename_i hag
      obtain ⟨y, h3, rfl⟩ := Option.map_eq_some_iff.1 h2
      exact ⟨quiet_val _, g2 y hag h3⟩
  · cases h

end Go.Ax
