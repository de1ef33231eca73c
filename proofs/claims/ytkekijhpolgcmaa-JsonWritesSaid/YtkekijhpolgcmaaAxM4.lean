/- The machine Ax, part AxM4: its steps and why they are sound. -/
import Derived.Test.YtkekijhpolgcmaaAxM3
import Derived.Laws.IdiomStrings
/- Ax: closed blocks that are appended to, or that go to another owner; stores. -/
set_option linter.unusedVariables false
set_option linter.unusedSimpArgs false
namespace Go.Ax
open Go.RowKit
variable {P : Program} {ti : Nat → TI}
variable {nt N d : Nat} {s : St} {m : AMem} {H : Hp} {lam : Nat → Option Nat} {a : Act} {w w0 : World}
variable {Hi : Hp} {mi : AMem} {wi : World}

theorem Roomy_ne {c0 : Nat} {f f' : Nat → Option Value} {l : RL} {x y : Nat} {r' : Option Room} (hc : H c0 = .froz f (some ⟨l, x, y⟩)) {l2 : RL} (hl : l2 ≠ l) {sz n : Nat} {v : Value} (h : Roomy H l2 sz n v) : Roomy (upd H c0 (.froz f' r')) l2 sz n v := by
  obtain ⟨b, cap, e, h⟩ := h
  refine ⟨b, cap, e, h.imp id ?_⟩
  rintro ⟨c, o, g, ea, h0, hj⟩
  have : c ≠ c0 := by
    rintro rfl
    rw [hc] at hj
    injection hj with _ h2
    injection h2 with h2
    injection h2 with h2 _ _
    exact hl h2.symm
  exact ⟨c, o, g, ea, h0, by rw [upd_ne _ _ this, hj]⟩

/-- No memory cell appends to the row that bears the label. -/
def Unclaimed (m : AMem) (l : RL) : Prop := ∀ (id : Nat) (cs : List T) (off k sz : Nat) (xs : List AV), m.blk id = some cs → cs[off]? = some (.own k sz xs) → k ≠ 0 → l ≠ .mv k

theorem froz_write (hw : WOk w0 H m w) {c0 : Nat} {f : Nat → Option Value} {l : RL} {x y : Nat} (hc : H c0 = .froz f (some ⟨l, x, y⟩)) {arr arr' : Array Value} {ty : TypeId} {fr : Nat × Nat} (harr : w.heap[c0]? = some (.cells arr ty fr)) (hsz : arr'.size = arr.size)
    {f' : Nat → Option Value} (hff : ∀ i v, f i = some v → f' i = some v) (hfa : ∀ i v, f' i = some v → arr'[i]? = some v) {r' : Option Room} (hr : ∀ q, r' = some q → x ≤ q.from_ ∧ q.to_ ≤ y ∧ ∀ i v, f' i = some v → i < q.from_)
    (hu : Unclaimed m l) (D N' : Nat) (hD : ∀ d' k, l = .tok d' k → D ≤ d') (ht : ∀ q : Room, r' = some q → q.l.el ≠ 0 → q.l.el = l.el) :
    WOk w0 (upd H c0 (.froz f' r')) m (setBlk w c0 (.cells arr' ty fr)) ∧ Ext D N' H m w (upd H c0 (.froz f' r')) m (setBlk w c0 (.cells arr' ty fr)) := by
  have hlt := lt_of_heap harr
  obtain ⟨arr0, ty0, fr0, q1, q2, q3⟩ := hw.froz c0 f _ hc
  obtain ⟨hB, q4, q5, q6⟩ := q3 _ rfl
  rw [harr] at q1
  injection q1 with q1
  injection q1 with e1 e2 e3
  subst e1 e2 e3
  have hs : ∀ j, j ≠ c0 → upd H c0 (.froz f' r') j = H j := fun j h => upd_ne _ _ h
  have hne : ∀ {j : Nat} {x : HB}, H j = x → (∀ f r, x ≠ .froz f r) → j ≠ c0 := by rintro j x h hx rfl; rw [hc] at h; exact hx _ _ h.symm
  have hle : HLe H (upd H c0 (.froz f' r')) := ⟨fun j g r h => by
      by_cases e : j = c0
      · subst e
        rw [hc] at h
        injection h with h1 h2
        subst h1
        exact ⟨f', r', upd_same _ _ _, hff⟩
      · exact ⟨g, r, by rw [hs j e, h], fun _ _ h => h⟩, fun j id h => by rw [hs j (hne h (by simp)), h], fun j k v h => by rw [hs j (hne h (by simp)), h]⟩
  refine ⟨⟨below_setBlk hw.below hB _, ?_, ?_, ?_, ?_, ?_, ?_, hw.next, hw.mvU, fun j id hj => by
    by_cases e : j = c0
    · subst e; rw [upd_same] at hj; cases hj
    · rw [hs j e] at hj; rw [setBlk_ne _ e]; exact hw.memT j id hj, fun j g q hj hq arr1 e1 fr1 ha => by
    by_cases e : j = c0
    · subst e; rw [upd_same] at hj; injection hj with _ hj
      rw [setBlk_same _ hlt] at ha; injection ha with ha; injection ha with _ h2 _
      have hl := ht q hj hq
      rw [hl, ← h2]
      exact hw.rowT j f _ hc (by show l.el ≠ 0; rw [← hl]; exact hq) arr ty fr harr
    · rw [hs j e] at hj; rw [setBlk_ne _ e] at ha; exact hw.rowT j g q hj hq arr1 e1 fr1 ha⟩, ⟨hle, ?_, ?_, Nat.le_refl _, ?_, ?_, by rw [setBlk_size]; exact Nat.le_refl _⟩⟩
  · intro j hj
    rw [setBlk_size] at hj
    rw [hs j (by omega)]; exact hw.free j hj
  · intro j g r hj
    by_cases e : j = c0
    · subst e
      rw [upd_same] at hj
      injection hj with h1 h2
      subst h1 h2
      refine ⟨arr', ty, fr, setBlk_same _ hlt, hfa, fun q hq => ?_⟩
      obtain ⟨g1, g2, g3⟩ := hr q hq
      refine ⟨hB, ?_, g3, fun i h1 h2 => q6 i ?_ (by omega)⟩
      · rw [hsz]; exact Nat.le_trans g2 q4
      · exact Nat.le_trans g1 h1
    · rw [hs j e] at hj
      obtain ⟨arr, ty, fr, h1, h2⟩ := hw.froz j g r hj
      exact ⟨arr, ty, fr, by rw [setBlk_ne _ e, h1], h2⟩
  · intro id cs h
    obtain ⟨j, arr, ty, h1, h2, h3, h4⟩ := hw.mem id cs h
    have e := hne h1 (by simp)
    refine ⟨j, arr, ty, by rw [hs j e, h1], by rw [setBlk_ne _ e, h2], h3, ?_⟩
    have h5 : ∀ (off : Nat) (u : T), cs[off]? = some u → ∀ v, VM1 H m u v → VM1 (upd H c0 (.froz f' r')) m u v := by
      intro off u hu' v hv
      cases u <;> first | exact hv.elim | skip
      case v => exact ⟨hv.1, V_mono hle _ _ hv.2⟩
      case own k sz xs => exact ⟨V_mono hle _ _ hv.1, hv.2.1, fun hk => ⟨(hv.2.2 hk).1, Roomy_ne hc (hu id cs off k sz xs h hu' hk).symm (hv.2.2 hk).2⟩⟩
    exact h4.mono fun u v hm hv => by
      obtain ⟨off, ho⟩ := List.mem_iff_getElem?.1 hm
      exact h5 off u ho v hv
  · intro j j' id h1 h2
    have q : ∀ j, upd H c0 (.froz f' r') j = .mem id → H j = .mem id := by
      intro j hj
      by_cases e : j = c0
      · subst e; rw [upd_same] at hj; cases hj
      · rwa [hs j e] at hj
    exact hw.memU j j' id (q j h1) (q j' h2)
  · intro j id hj
    by_cases e : j = c0
    · subst e; rw [upd_same] at hj; cases hj
    · rw [hs j e] at hj; exact hw.memN j id hj
  · intro j ks vs hj
    by_cases e : j = c0
    · subst e; rw [upd_same] at hj; cases hj
    · rw [hs j e] at hj
      obtain ⟨es, clk, h1, h2⟩ := hw.fmap j ks vs hj
      exact ⟨es, clk, by rw [setBlk_ne _ e, h1], h2⟩
  · intro j hj _
    have e := hne hj (by simp)
    exact ⟨by rw [hs j e, hj], setBlk_ne _ e⟩
  · intro j g d' k x y hj hd'
    have e : j ≠ c0 := by
      rintro rfl
      rw [hc] at hj
      injection hj with _ h2
      injection h2 with h2
      injection h2 with h2 _ _
      have := hD d' k h2
      omega
    exact ⟨hs j e, setBlk_ne _ e⟩
  · intro id off cs k sz xs h1 h2 _ _
    refine ⟨⟨cs, h1, h2⟩, fun j hj => ?_⟩
    have e := hne hj (by simp)
    simp only [World.cell?]
    rw [setBlk_ne _ e]
  · intro j id hj _
    by_cases e : j = c0
    · subst e; rw [upd_same] at hj; cases hj
    · rwa [hs j e] at hj

def St.kill (s : St) (ks : List Nat) : St := { s with live := fun j => s.live j && !(ks.contains j) }

theorem kill_le (s : St) (ks : List Nat) : StLe s (s.kill ks) lam lam :=
  ⟨fun _ h => h, fun k _ h => by simp only [St.kill, Bool.and_eq_true] at h; exact h.1, fun _ _ h => ⟨h, rfl⟩, fun _ _ h => ⟨h, rfl⟩, fun _ _ h => ⟨h, rfl⟩⟩

theorem kill_not {s : St} {ks : List Nat} {k : Nat} (h : (s.kill ks).live k = true) : k ∉ ks := by
  simp only [St.kill, Bool.and_eq_true, Bool.not_eq_true', List.contains_eq_mem, decide_eq_false_iff_not] at h
  exact h.2

/-- A row of which a token of the frame has had the end goes to another owner. -/
theorem tok_relabel (hw : WOk w0 H m w) (hf : Fr nt N d s m H lam a w) {k sz n : Nat} {v : Value} (hR : Roomy H (.tok d k) sz n v) (l' : RL) (hel : l'.el ≠ 0 → l'.el = elOf k) :
    ∃ H1, WOk w0 H1 m w ∧ Ext d N H m w H1 m w ∧ Leaves (lam := lam) d N s (s.kill [k]) H m w H1 m w ∧ Roomy H1 l' sz n v := by
  have hl : ∀ j, (s.kill [k]).live j = true → (s.kill [k]).seen j = true := fun j h => hf.live j ((kill_le (lam := lam) s [k]).live j (by
    have : s.live j = true := by simp only [St.kill, Bool.and_eq_true] at h; exact h.1
    exact hf.live j this) h)
  obtain ⟨b, cap, rfl, h⟩ := hR
  rcases h with ⟨rfl, hz⟩ | ⟨c, o, f, ea, h0, hc⟩
  · exact ⟨H, hw, Ext.refl _ _ _ _ _, ⟨HLe.refl _, fun _ h _ => ⟨h, rfl⟩, fun _ _ _ _ _ _ h => h, Nat.le_refl _, fun id off cs k sz xs h1 h2 _ _ => ⟨⟨cs, h1, h2⟩, fun _ _ => rfl⟩, Nat.le_refl _, kill_le _ _, rfl, fun _ _ h => h, fun _ _ h => h, fun _ _ h => h, rfl, hl⟩, b, cap, rfl, .inl ⟨rfl, fun h => hz (by show elOf k ≠ 0; rw [← hel h]; exact h)⟩⟩
  · obtain ⟨arr, ty, fr, h1, h2, h3⟩ := hw.froz c f _ hc
    obtain ⟨g1, g2⟩ := froz_write hw hc (arr' := arr) h1 rfl (f' := f) (fun _ _ h => h) h2 (r' := some ⟨l', o + n * sz, o + cap * sz⟩) (fun q hq => by
      injection hq with hq; subst hq
      exact ⟨Nat.le_refl _, Nat.le_refl _, (h3 _ rfl).2.2.1⟩) (fun _ _ _ _ _ _ _ _ _ e => by cases e) d N (fun d' k' e => by injection e with e1 e2; omega) (fun q hq h => by injection hq with hq; subst hq; exact hel h)
    rw [setBlk_id h1] at g1 g2
    refine ⟨_, g1, g2, ⟨g2.hle, fun j hj _ => ⟨?_, rfl⟩, fun k' sz n v _ hl' hr => Roomy_ne hc ?_ hr, Nat.le_refl _, g2.mv, Nat.le_refl _, kill_le _ _, rfl, fun _ _ h => h, fun _ _ h => h, fun _ _ h => h, rfl, hl⟩, b, cap, rfl, .inr ⟨c, o, f, ea, h0, upd_same _ _ _⟩⟩
    · have : j ≠ c := by rintro rfl; rw [hc] at hj; cases hj
      rw [upd_ne _ _ this, hj]
    · intro e
      injection e with e1 e2
      exact kill_not hl' (by simp [e2])

theorem WOk.bump (hw : WOk w0 H m w) (j : Nat) : WOk w0 H { m with next := m.next + j } w :=
  ⟨hw.below, hw.free, hw.froz, fun id cs h => by
    obtain ⟨c, arr, e, h1, h2, h3, h4⟩ := hw.mem id cs h
    exact ⟨c, arr, e, h1, h2, h3, h4.mono fun _ _ _ h => h.mono (HLe.refl _) (fun _ _ _ _ _ h => h) (Nat.le_add_right _ _)⟩, hw.memU, fun c id h => Nat.lt_of_lt_of_le (hw.memN c id h) (Nat.le_add_right _ _), hw.fmap, Nat.lt_of_lt_of_le hw.next (Nat.le_add_right _ _), hw.mvU, hw.memT, hw.rowT⟩

theorem VQ_down {y : T} {u : Value} (h : VQ d H s y u) : VM1 H m (down y) u ∧ ∀ k sz xs, down y = .own k sz xs → k = 0 := by
  have h1 := VQ_one h
  have h2 := h.2
  cases y <;> first | exact h2.elim | skip
  case v => exact ⟨h2, fun _ _ _ e => by cases e⟩
  case own k sz xs =>
    cases k with
    | zero => exact ⟨⟨h2.1, h2.2.1, fun h => absurd rfl h⟩, fun _ _ _ e => by injection e with e _ _; exact e.symm⟩
    | succ k => exact ⟨⟨h1, h2.1⟩, fun _ _ _ e => by cases e⟩

theorem All2_down : ∀ {ys : List T} {us : List Value}, All2 (VQ d H s) ys us → All2 (VM1 H m) (ys.map down) us ∧ ∀ (j k sz : Nat) (xs : List AV), (ys.map down)[j]? = some (.own k sz xs) → k = 0
  | [], [], _ => ⟨trivial, fun j k sz xs h => by simp at h⟩
  | y :: ys, u :: us, ⟨h1, h2⟩ => by
    obtain ⟨g1, g2⟩ := All2_down h2
    refine ⟨⟨(VQ_down h1).1, g1⟩, fun j k sz xs h => ?_⟩
    cases j with
    | zero => simp at h; exact (VQ_down (m := m) h1).2 _ _ _ h
    | succ j => exact g2 j k sz xs (by simpa using h)
  | [], _ :: _, h => h.elim
  | _ :: _, [], h => h.elim

end Go.Ax
/- Ax: what a store does. -/
set_option linter.unusedVariables false
set_option linter.unusedSimpArgs false
namespace Go.Ax
open Go.RowKit
variable {P : Program} {ti : Nat → TI}
variable {nt N d : Nat} {s : St} {m : AMem} {H : Hp} {lam : Nat → Option Nat} {a : Act} {w w0 : World}
variable {Hi : Hp} {mi : AMem} {wi : World}

theorem updL_app {α : Type} (f : Nat → α) : ∀ (l r : List (Nat × α)), updL f (l ++ r) = updL (updL f r) l
  | [], r => rfl
  | (k, x) :: l, r => by funext j; simp only [List.cons_append, updL, updL_app f l r]

theorem put_close (s : St) (ls ps : List Nat) (dst : Option Tmp) (e : Eff) : (closeS s ls ps).put dst e = s.put dst { e with lw := e.lw ++ closeL ls, pw := e.pw ++ closeP ps } := by
  unfold St.put closeS
  simp only [updL_app]

theorem put_kill (s : St) (dst : Option Tmp) (x : T) (ks : List Nat) (e : Eff) (he : { e with mr := false, mw := none, lr := [], pr := [], ir := [] } = { val := x, kill := ks }) : s.put dst e = { s.kill ks with tm := putT s.tm dst x } := by
  injection he with e1 e2 e3 e4 e5 e6 e7 e8 e9 e10 e11 e12 e13
  unfold St.put St.kill
  simp only [e1, e2, e3, e4, e10, e11, e12, e13, updL, List.contains_nil, Bool.false_or, List.nil_append]

theorem All2.cells_one {ys : List T} {us : List Value} (h : All2 (VQ d H s) ys us) : ∀ u ∈ us, u.oneCell' = true := by
  induction ys generalizing us with
  | nil => cases us with
    | nil => simp
    | cons => exact h.elim
  | cons y ys ih => cases us with
    | nil => exact h.elim
    | cons u us =>
      intro v hv
      rcases List.mem_cons.1 hv with rfl | hv
      · exact VQ_one h.1
      · exact ih h.2 v hv

theorem set_setAt {α : Type} (cs : List α) (off : Nat) (x : α) : cs.set off x = setAt cs off [x] := rfl

theorem store_ok (E : Env) (hti : TysOk P E.ti) (hw : WOk w0 H m w) (hf : Fr nt N d s m H lam a w) (x : Ext d N Hi mi wi H m w) (hN : N ≤ w.heap.size) (hB : w0.heap.size ≤ N) {ty : Nat} (hg : (E.ti ty).ok = true) {p y : T} {e : Eff} {vp vy : Value}
    (h : aStore E s m ty p y = some e) (hp : VT d H m w lam s p vp) (hy : VT d H m w lam s y vy) {dst : Option Tmp} (hd : dstOk nt dst = true) :
    ∃ w', (Instr.storeAt ty vp vy).run P w = .ok () w' ∧ Inv nt N d w0 Hi mi wi (s.put dst e) (e.mw.getD m) (a.put dst undef) w' := by
  unfold aStore at h
  split at h
  · rename_i t off
    split at h
    · rename_i t' off' len sz ag
      obtain ⟨es, hes, h⟩ := Option.bind_eq_some_iff.1 h
      obtain ⟨cs, hcs, h⟩ := Option.bind_eq_some_iff.1 h
      obtain ⟨hb, h⟩ := bnd_some h
      simp only [Option.some.injEq] at h; subst h
      simp only [Bool.and_eq_true, Bool.not_eq_true', List.contains_eq_mem, decide_eq_false_iff_not] at hb
      obtain ⟨⟨hb1, hb2⟩, hb3⟩ := hb
      obtain ⟨H1, g1, g2, g3, g4, g5⟩ := esc_ok hw hf hB hes hy d
      have hps : es.ps = [] ∧ ∃ sz xs, es.x = .sl sz xs := by
        unfold esc at hes
        obtain ⟨_, hes⟩ := bnd_some hes
        obtain ⟨cs', _, hes⟩ := Option.bind_eq_some_iff.1 hes
        obtain ⟨xs, _, rfl⟩ := Option.map_eq_some_iff.1 hes
        exact ⟨rfl, _, _, rfl⟩
      obtain ⟨hps, sz1, xs1, hx1⟩ := hps
      have hcs' : (closeS s es.ls es.ps).lc t = some cs := by simp only [closeS, closeL, closeL_get, if_neg hb2, hcs]
      obtain ⟨q0, c, arr, aty, q1, q2, q3, q4, q5⟩ := g3.lcQ hcs'
      obtain ⟨c', q6, rfl⟩ := hp.2 (by rw [hcs]; rfl)
      obtain rfl : c = c' := by rw [q1] at q6; exact Option.some.inj q6
      have hlen := q5.length
      simp only [Array.length_toList] at hlen
      have hb1' : off < cs.length := by simp [Nat.blt] at hb1; omega
      rw [hx1] at g4
      have hone : vy.oneCell' = true := V_one g4 (by simp) (by simp)
      have hcells : vy.cells = #[vy] := oneCell_cells hone
      have hrun := run_storeVar (P := P) hti hg (o := off) (v := vy) q4 (by rw [hcells]; simpa using (Nat.eq_of_beq_eq_true hb3).symm) (by rw [hcells]; simp; omega) (fun j _ _ => by simp) (by rw [hcells]; simpa using hone)
      refine ⟨_, hrun, ?_⟩
      rw [hcells]
      have := writeLc_inv (e := { val := .undef, lw := [(t, some (cs.set off (.v es.x)))], lr := t :: es.ls }) g1 g3 (x.trans g2) hN hB hcs' q1 q2 q3 (arr := setCells arr off [vy]) (ty := aty) (by rw [setCells_toList, set_setAt]; exact setAt_all off q5 ⟨VQ_v hone (by rw [hx1]; exact g4), trivial⟩) rfl hd (v := undef) rfl
      rw [put_close, hps] at this
      exact this
    · rename_i hnm
      obtain ⟨ys, hys, h⟩ := Option.bind_eq_some_iff.1 h
      obtain ⟨cs, hcs, h⟩ := Option.bind_eq_some_iff.1 h
      obtain ⟨hb, h⟩ := bnd_some h
      simp only [Option.some.injEq] at h; subst h
      simp only [Bool.and_eq_true] at hb
      obtain ⟨hb1, hb2⟩ := hb
      obtain ⟨q0, c, arr, aty, q1, q2, q3, q4, q5⟩ := hf.lcQ hcs
      obtain ⟨c', q6, rfl⟩ := hp.2 (by rw [hcs]; rfl)
      obtain rfl : c = c' := by rw [q1] at q6; exact Option.some.inj q6
      have hlen := q5.length
      have hv := cells_ok hys hy
      have hl2 := hv.length
      simp only [Array.length_toList] at hlen hl2
      have e1 := Nat.eq_of_beq_eq_true hb1
      have e2 := Nat.le_of_ble_eq_true hb2
      have hrun := run_storeVar (P := P) hti hg (o := off) (v := vy) q4 (by omega) (by omega) (fun j _ _ => by simp) hv.cells_one
      refine ⟨_, hrun, ?_⟩
      exact writeLc_inv hw hf x hN hB hcs q1 q2 q3 (by rw [setCells_toList]; exact setAt_all off q5 hv) rfl hd (v := undef) rfl
  · rename_i id off
    obtain ⟨cs, hcs, h⟩ := Option.bind_eq_some_iff.1 h
    obtain ⟨c, rfl, hc⟩ := hp
    obtain ⟨arr, aty, harr, hcB, q5⟩ := hw.blk hcs hc
    have hlen := q5.length
    simp only [Array.length_toList] at hlen
    split at h
    · rename_i hag
      obtain ⟨ys, hys, h⟩ := Option.bind_eq_some_iff.1 h
      obtain ⟨hb, h⟩ := bnd_some h
      simp only [Option.some.injEq] at h; subst h
      simp only [Bool.and_eq_true] at hb
      obtain ⟨hb1, hb2⟩ := hb
      have hv := cells_ok hys hy
      have hl2 := hv.length
      simp only [Array.length_toList] at hl2
      have e1 := Nat.eq_of_beq_eq_true hb1
      have e2 := Nat.le_of_ble_eq_true hb2
      have hrun := run_storeVar (P := P) hti hg (o := off) (v := vy) harr (by omega) (by omega) (fun j _ _ => by simp) hv.cells_one
      refine ⟨_, hrun, ?_⟩
      obtain ⟨k1, k2⟩ := All2_down (m := m) hv
      have hold : ∀ (j k sz : Nat) (xs : List AV), (setAt cs off (ys.map down))[j]? = some (.own k sz xs) → k ≠ 0 → cs[j]? = some (.own k sz xs) ∧ (setCells arr off vy.cells.toList)[j]? = arr[j]? := by
        intro j k sz xs hj hk
        by_cases hin : off ≤ j ∧ j < off + ys.length
        · obtain ⟨i, rfl⟩ : ∃ i, j = off + i := ⟨j - off, by omega⟩
          rw [setAt_new _ _ _ _ (by simp; omega) (by simp; omega)] at hj
          exact absurd (k2 _ _ _ _ hj) hk
        · rw [setAt_old _ _ _ _ (by simp; omega)] at hj
          refine ⟨hj, ?_⟩
          rw [← Array.getElem?_toList, setCells_toList, setAt_old _ _ _ _ (by simp; omega), Array.getElem?_toList]
      obtain ⟨g1, g2⟩ := mem_write (n0 := m.next) (D := d + 1) (N' := w.heap.size) hw hcs hc harr (by rw [setCells_toList]; exact setAt_all off q5 k1) (fun j k sz xs hj hk => .inl (hold j k sz xs hj hk)) (Nat.le_refl _) (fun j k sz xs hj hk _ => (hold j k sz xs hj hk).1)
      have hf' := hf.ext g2 (Nat.le_refl _)
      rw [put_kill s dst .undef [] _ rfl]
      have hk0 : s.kill [] = s := by simp [St.kill]
      rw [hk0]
      exact ⟨H, lam, g1, hf'.put (x := .undef) rfl hd, x.trans (g2.weaken (Nat.le_succ d) hN), by rw [setBlk_size]; exact hN⟩
    · rename_i hag
      obtain ⟨hsz, h⟩ := bnd_some h
      have hsz' := Nat.eq_of_beq_eq_true hsz
      obtain ⟨es, hes, h⟩ := Option.bind_eq_some_iff.1 h
      split at h
      · rename_i k sz xs _ _ _
        obtain ⟨⟨c1, m1, ks⟩, hm1, h⟩ := Option.bind_eq_some_iff.1 h
        obtain ⟨hb, h⟩ := bnd_some h
        simp only [Option.some.injEq] at h; subst h
        simp only [Bool.and_eq_true] at hb
        obtain ⟨hb1, hb2⟩ := hb
        have hb1' : off < cs.length := by simp [Nat.blt] at hb1; omega
        have hone : vy.oneCell' = true := V_one hy.2.1 (by simp) (by simp)
        have hcells : vy.cells = #[vy] := oneCell_cells hone
        have hrun := run_storeVar (P := P) hti hg (o := off) (v := vy) harr (by rw [hcells]; simpa using hsz'.symm) (by rw [hcells]; simp; omega) (fun j _ _ => by simp) (by rw [hcells]; simpa using hone)
        refine ⟨_, hrun, ?_⟩
        rw [hcells]
        have hset : ∀ {z : T} {j : Nat} {u : T}, (setAt cs off [z])[j]? = some u → (j = off ∧ u = z) ∨ (j ≠ off ∧ cs[j]? = some u ∧ (setCells arr off [vy])[j]? = arr[j]?) := by
          intro z j u hj
          by_cases e : j = off
          · subst e
            have := setAt_new [z] cs j 0 (by simp; omega) (by simp)
            simp only [Nat.add_zero] at this
            rw [this] at hj
            simp at hj
            exact .inl ⟨rfl, hj.symm⟩
          · rw [setAt_old _ _ _ _ (by simp; omega)] at hj
            exact .inr ⟨e, hj, by rw [← Array.getElem?_toList, setCells_toList, setAt_old _ _ _ _ (by simp; omega), Array.getElem?_toList]⟩
        by_cases hk0 : k = 0
        · subst hk0
          simp only [memCell, Option.some.injEq, Prod.mk.injEq] at hm1
          obtain ⟨rfl, rfl, rfl⟩ := hm1
          obtain ⟨g1, g2⟩ := mem_write (n0 := m.next) (D := d + 1) (N' := w.heap.size) (cs' := setAt cs off [.own 0 sz xs]) hw hcs hc harr (arr' := setCells arr off [vy]) (by rw [setCells_toList]; exact setAt_all off q5 ⟨⟨hy.2.1, hy.2.2.1, fun h => absurd rfl h⟩, trivial⟩) (fun j k sz' xs' hj hk => by
            rcases hset hj with ⟨_, e⟩ | ⟨_, h⟩
            · injection e with e1 _ _; exact absurd e1 hk
            · exact .inl h) (Nat.le_refl _) (fun j k sz' xs' hj hk _ => by
            rcases hset hj with ⟨_, e⟩ | ⟨_, h⟩
            · injection e with e1 _ _; exact absurd e1 hk
            · exact h.1)
          have hf' := hf.ext g2 (Nat.le_refl _)
          rw [put_kill s dst .undef [] _ rfl]
          have hk0 : s.kill [] = s := by simp [St.kill]
          rw [hk0]
          exact ⟨H, lam, g1, hf'.put (x := .undef) rfl hd, x.trans (g2.weaken (Nat.le_succ d) hN), by rw [setBlk_size]; exact hN⟩
        · obtain ⟨k', rfl⟩ : ∃ k', k = k' + 1 := ⟨k - 1, by omega⟩
          simp only [memCell, Option.some.injEq, Prod.mk.injEq] at hm1
          obtain ⟨rfl, rfl, rfl⟩ := hm1
          have hl : s.live (k' + 1) = true := by simpa [Nat.beq] using hb2
          obtain ⟨H1, g1, g2, g3, g4⟩ := tok_relabel hw hf (hy.2.2.2 hk0 hl) (.mv (tk m.next (elOf (k' + 1)))) (fun _ => elOf_tk (elOf_lt _))
          have hf1 := hf.leaves g3
          have hcm : ∀ (id : Nat) (cs : List T) (off sz : Nat) (xs : List AV), m.blk id = some cs → cs[off]? ≠ some (.own (tk m.next (elOf (k' + 1))) sz xs) := by
            intro id cs off sz xs h1 h2
            obtain ⟨_, arr2, _, _, _, _, h3⟩ := hw.mem id cs h1
            obtain ⟨u, _, hu⟩ := h3.get off _ h2
            have := (hu.2.2 (by have := hw.next; unfold tk; omega)).1
            unfold tk at this
            omega
          have hw1 := g1.bump (tk m.next (elOf (k' + 1)) + 1 - m.next)
          rw [show m.next + (tk m.next (elOf (k' + 1)) + 1 - m.next) = tk m.next (elOf (k' + 1)) + 1 by unfold tk; omega] at hw1
          obtain ⟨arr2, aty2, harr2, _, q7⟩ := hw1.blk hcs (g2.hle.mem c id hc)
          rw [harr] at harr2
          injection harr2 with harr2
          injection harr2 with z1 z2 z3
          subst z1 z2
          obtain ⟨k1, k2⟩ := mem_write (n0 := m.next) (D := d + 1) (N' := w.heap.size) (cs' := setAt cs off [.own (tk m.next (elOf (k' + 1))) sz xs]) hw1 hcs (g2.hle.mem c id hc) harr (arr' := setCells arr off [vy])
            (by rw [setCells_toList]; exact setAt_all off q7 ⟨⟨V_mono g2.hle _ _ hy.2.1, fun h => absurd h (by have := hw.next; unfold tk; omega), fun _ => ⟨Nat.lt_succ_self _, g4⟩⟩, trivial⟩) (fun j k sz' xs' hj hk => by
            rcases hset hj with ⟨e0, e⟩ | ⟨_, h⟩
            · injection e with e1 _ _; subst e1
              refine .inr ⟨rfl, hcm, fun j' sz'' xs'' hj' => ?_⟩
              rcases hset hj' with ⟨e2, _⟩ | ⟨_, h⟩
              · rw [e2, e0]
              · exact absurd h.1 (hcm _ _ _ _ _ hcs)
            · exact .inl h) (by show m.next ≤ tk m.next (elOf (k' + 1)) + 1; unfold tk; omega) (fun j k sz' xs' hj hk hlt => by
            rcases hset hj with ⟨_, e⟩ | ⟨_, h⟩
            · injection e with e1 _ _; unfold tk at e1; omega
            · exact h.1)
          have hf' := hf1.leaves (Leaves.mem g1 hf1 k2)
          rw [put_kill s dst .undef [k' + 1] _ rfl]
          exact ⟨H1, lam, k1, hf'.put (x := .undef) rfl hd, (x.trans g2).trans (k2.weaken (Nat.le_succ d) hN), by rw [setBlk_size]; exact hN⟩
      · obtain ⟨y1, hy1, h⟩ := Option.bind_eq_some_iff.1 h
        obtain ⟨hb, h⟩ := bnd_some h
        simp only [Option.some.injEq] at h; subst h
        have hb1' : off < cs.length := by simp [Nat.blt] at hb; omega
        obtain ⟨H1, g1, g2, g3, g4, g5⟩ := esc_ok hw hf hB hes hy d
        have hq : VQ d H1 s y1 vy := cell_ok (m := m) (w := w) (lam := lam) hy1 g4
        have hyv : ∀ k sz xs, y1 ≠ .own k sz xs := by
          intro k sz xs e
          subst e
          unfold T.cell at hy1
          split at hy1 <;> simp_all
        have hone := VQ_one hq
        have hcells : vy.cells = #[vy] := oneCell_cells hone
        have hrun := run_storeVar (P := P) hti hg (o := off) (v := vy) harr (by rw [hcells]; simpa using hsz'.symm) (by rw [hcells]; simp; omega) (fun j _ _ => by simp) (by rw [hcells]; simpa using hone)
        refine ⟨_, hrun, ?_⟩
        rw [hcells]
        obtain ⟨arr2, aty2, harr2, _, q7⟩ := g1.blk hcs (g2.hle.mem c id hc)
        rw [harr] at harr2
        injection harr2 with harr2
        injection harr2 with z1 z2 z3
        subst z1 z2
        have hset : ∀ (j k sz : Nat) (xs : List AV), (setAt cs off [y1])[j]? = some (.own k sz xs) → cs[j]? = some (.own k sz xs) ∧ (setCells arr off [vy])[j]? = arr[j]? := by
          intro j k sz xs hj
          by_cases e : j = off
          · subst e
            have := setAt_new [y1] cs j 0 (by simp; omega) (by simp)
            simp only [Nat.add_zero] at this
            rw [this] at hj
            simp at hj
            exact absurd hj (hyv _ _ _)
          · rw [setAt_old _ _ _ _ (by simp; omega)] at hj
            exact ⟨hj, by rw [← Array.getElem?_toList, setCells_toList, setAt_old _ _ _ _ (by simp; omega), Array.getElem?_toList]⟩
        have hvm : VM1 H1 m y1 vy := by
          have h2 := hq.2
          cases y1 <;> first | exact h2.elim | exact h2 | exact absurd rfl (hyv _ _ _)
        obtain ⟨k1, k2⟩ := mem_write (n0 := m.next) (D := d + 1) (N' := w.heap.size) (cs' := setAt cs off [y1]) g1 hcs (g2.hle.mem c id hc) harr (arr' := setCells arr off [vy])
          (by rw [setCells_toList]; exact setAt_all off q7 ⟨hvm, trivial⟩) (fun j k sz' xs' hj hk => .inl (hset j k sz' xs' hj)) (Nat.le_refl _) (fun j k sz' xs' hj hk _ => (hset j k sz' xs' hj).1)
        have hf' := g3.leaves (Leaves.mem g1 g3 k2)
        have := put_close s es.ls es.ps dst {}
        have hs2 : (closeS s es.ls es.ps).put dst {} = { closeS s es.ls es.ps with tm := putT (closeS s es.ls es.ps).tm dst .undef } := put_val _ _ _
        have e3 : ∀ mm b1 l1 p1, s.put dst { mr := b1, mw := mm, lw := closeL es.ls, lr := l1, pw := closeP es.ps, pr := p1 } = (closeS s es.ls es.ps).put dst {} := fun mm b1 l1 p1 => this.symm
        rw [e3, hs2]
        exact ⟨H1, lam, k1, hf'.put (x := .undef) rfl hd, (x.trans g2).trans (k2.weaken (Nat.le_succ d) hN), by rw [setBlk_size]; exact hN⟩
  · cases h

end Go.Ax
/- Ax: maps and iterators of a frame. -/
set_option linter.unusedVariables false
set_option linter.unusedSimpArgs false
namespace Go.Ax
open Go.RowKit
variable {P : Program} {ti : Nat → TI}
variable {nt N d : Nat} {s : St} {m : AMem} {H : Hp} {lam : Nat → Option Nat} {a : Act} {w w0 : World}
variable {Hi : Hp} {mi : AMem} {wi : World}

/-- A new map of the frame. -/
theorem newMap_inv (hw : WOk w0 H m w) (hf : Fr nt N d s m H lam a w) (x : Ext d N Hi mi wi H m w) (hN : N ≤ w.heap.size) {k : Nat} (hd : dstOk nt (some k) = true) (hs : s.seen k = false) (clk : Nat)
    {y : T} {v : Value} {e : Eff} (he : e = { val := y, pw := [(k, some [])], pr := [k], use := [k] })
    (hy : ∀ H' m' w' s' lam', s'.seen k = true → lam' (3 * k + 1) = some w.heap.size → VT d H' m' w' lam' s' y v) :
    Inv nt N d w0 Hi mi wi (s.put (some k) e) (e.mw.getD m) (a.put (some k) v) (w.alloc (.map #[] clk)) := by
  subst he
  obtain ⟨h1, h2, h3⟩ := alloc_ok (D := d + 1) (N' := w.heap.size) hw (.map #[] clk) .priv (by simp) (by simp) (by simp) (by simp)
  have hf' := hf.ext h2 (Nat.le_refl _)
  obtain ⟨hl1, hl2⟩ := lam_new hf (3 * k + 1)
  refine ⟨_, upd lam (3 * k + 1) (some w.heap.size), h1, ?_, x.trans (h2.weaken (Nat.le_succ d) hN), by rw [heap_size]; omega⟩
  have hle : StLe s (s.put (some k) { val := y, pw := [(k, some [])], pr := [k], use := [k] }) lam (upd lam (3 * k + 1) (some w.heap.size)) := by
    have hne : ∀ t, s.seen t = true → t ≠ k := fun t ht e => by subst e; rw [hs] at ht; cases ht
    refine ⟨fun j hj => by simp [St.put, hj], fun j _ hj => by simpa [St.put] using hj, fun t ht h => ?_, fun t ht h => ?_, fun t ht h => ?_⟩
    · simp only [St.put, updL] at h
      exact ⟨h, upd_ne _ _ (by omega)⟩
    · simp only [St.put, updL, beq_ne (hne t ht), cond_false] at h
      exact ⟨h, upd_ne _ _ (by have := hne t ht; omega)⟩
    · simp only [St.put, updL] at h
      exact ⟨h, upd_ne _ _ (by omega)⟩
  have hsk : (s.put (some k) { val := y, pw := [(k, some [])], pr := [k], use := [k] }).seen k = true := by simp [St.put]
  refine Fr.step hf' hle rfl (hy _ _ _ _ _ hsk (upd_same _ _ _)) hd ?_ ?_ ?_ hl1 (fun i c h => hl2 i c _ (by rw [heap_size]; omega) h) (by simp [St.put]) (fun j hj => ?_)
  · intro t cs' h
    simp only [St.put, updL] at h
    obtain ⟨q0, c, arr', ty', q1, q2, q3, q4, q5⟩ := hf'.lcQ h
    exact ⟨hle.seen t q0, c, arr', ty', by rw [upd_ne _ _ (by omega), q1], q2, q3, q4, q5.mono fun c u _ hq => hq.st hle⟩
  · intro t es h
    simp only [St.put, updL] at h
    by_cases e : t = k
    · subst e
      simp only [Nat.beq_refl, cond_true, Option.some.injEq] at h; subst h
      exact ⟨hsk, w.heap.size, #[], clk, upd_same _ _ _, upd_same _ _ _, hN, heap_new _ _, trivial⟩
    · simp only [beq_ne e, cond_false] at h
      obtain ⟨q0, c, ents, clk, q1, q⟩ := hf'.mp t es h
      exact ⟨hle.seen t q0, c, ents, clk, by rw [upd_ne _ _ (by omega), q1], q⟩
  · intro t l p h
    simp only [St.put, updL] at h
    obtain ⟨q0, c, q1, q⟩ := hf'.it t l p h
    exact ⟨hle.seen t q0, c, by rw [upd_ne _ _ (by omega), q1], q⟩
  · have : s.live j = true := by simpa [St.put] using hj
    exact hle.seen j (hf.live j this)

/-- A new iterator of the frame. -/
theorem newIter_inv (hw : WOk w0 H m w) (hf : Fr nt N d s m H lam a w) (x : Ext d N Hi mi wi H m w) (hN : N ≤ w.heap.size) {k : Nat} (hd : dstOk nt (some k) = true) (hs : s.seen k = false) (bs : List UInt8)
    {y : T} {v : Value} {e : Eff} (he : e = { val := y, iw := [(k, some (bs, 0))], ir := [k], use := [k] })
    (hy : ∀ H' m' w' s' lam', s'.seen k = true → lam' (3 * k + 2) = some w.heap.size → VT d H' m' w' lam' s' y v) :
    Inv nt N d w0 Hi mi wi (s.put (some k) e) (e.mw.getD m) (a.put (some k) v) (w.alloc (.stringIter ⟨bs.toArray⟩ 0)) := by
  subst he
  obtain ⟨h1, h2, h3⟩ := alloc_ok (D := d + 1) (N' := w.heap.size) hw (.stringIter ⟨bs.toArray⟩ 0) .priv (by simp) (by simp) (by simp) (by simp)
  have hf' := hf.ext h2 (Nat.le_refl _)
  obtain ⟨hl1, hl2⟩ := lam_new hf (3 * k + 2)
  refine ⟨_, upd lam (3 * k + 2) (some w.heap.size), h1, ?_, x.trans (h2.weaken (Nat.le_succ d) hN), by rw [heap_size]; omega⟩
  have hle : StLe s (s.put (some k) { val := y, iw := [(k, some (bs, 0))], ir := [k], use := [k] }) lam (upd lam (3 * k + 2) (some w.heap.size)) := by
    have hne : ∀ t, s.seen t = true → t ≠ k := fun t ht e => by subst e; rw [hs] at ht; cases ht
    refine ⟨fun j hj => by simp [St.put, hj], fun j _ hj => by simpa [St.put] using hj, fun t ht h => ?_, fun t ht h => ?_, fun t ht h => ?_⟩
    · simp only [St.put, updL] at h
      exact ⟨h, upd_ne _ _ (by omega)⟩
    · simp only [St.put, updL] at h
      exact ⟨h, upd_ne _ _ (by omega)⟩
    · simp only [St.put, updL, beq_ne (hne t ht), cond_false] at h
      exact ⟨h, upd_ne _ _ (by have := hne t ht; omega)⟩
  have hsk : (s.put (some k) { val := y, iw := [(k, some (bs, 0))], ir := [k], use := [k] }).seen k = true := by simp [St.put]
  refine Fr.step hf' hle rfl (hy _ _ _ _ _ hsk (upd_same _ _ _)) hd ?_ ?_ ?_ hl1 (fun i c h => hl2 i c _ (by rw [heap_size]; omega) h) (by simp [St.put]) (fun j hj => ?_)
  · intro t cs' h
    simp only [St.put, updL] at h
    obtain ⟨q0, c, arr', ty', q1, q2, q3, q4, q5⟩ := hf'.lcQ h
    exact ⟨hle.seen t q0, c, arr', ty', by rw [upd_ne _ _ (by omega), q1], q2, q3, q4, q5.mono fun c u _ hq => hq.st hle⟩
  · intro t es h
    simp only [St.put, updL] at h
    obtain ⟨q0, c, ents, clk, q1, q⟩ := hf'.mp t es h
    exact ⟨hle.seen t q0, c, ents, clk, by rw [upd_ne _ _ (by omega), q1], q⟩
  · intro t l p h
    simp only [St.put, updL] at h
    by_cases e : t = k
    · subst e
      simp only [Nat.beq_refl, cond_true, Option.some.injEq, Prod.mk.injEq] at h
      obtain ⟨rfl, rfl⟩ := h
      exact ⟨hsk, w.heap.size, upd_same _ _ _, upd_same _ _ _, hN, heap_new _ _⟩
    · simp only [beq_ne e, cond_false] at h
      obtain ⟨q0, c, q1, q⟩ := hf'.it t l p h
      exact ⟨hle.seen t q0, c, by rw [upd_ne _ _ (by omega), q1], q⟩
  · have : s.live j = true := by simpa [St.put] using hj
    exact hle.seen j (hf.live j this)

/-! ### keys -/
def DescOk (E : Env) (q : TypeId) (kind : TypeDesc) : AV → Prop
  | .int _ _ => ∃ k, kind = .int k
  | .str _ => kind = .string
  | _ => False

theorem key_desc {E : Env} (hti : TysOk P E.ti) {q : TypeId} {k : AV} (h : keyOk E q k = true) : ∃ kind, P.underlying q = some kind ∧ DescOk E q kind k := by
  unfold keyOk at h
  split at h
  · split at h
    · rename_i k' hk; exact ⟨_, und_int hti hk, k', rfl⟩
    · cases h
  · split at h
    · rename_i hk; exact ⟨_, und_str hti hk, rfl⟩
    · cases h
  · cases h

theorem same_key {E : Env} {q : TypeId} {kind : TypeDesc} {k k' : AV} {u u' : Value} {b : Bool} (hd : DescOk E q kind k) (h : keyEq k k' = some b) (hu : V H k u) (hu' : V H k' u') : Instr.sameNow kind u u' = some b ∧ (b = true → u' = u) := by
  unfold keyEq at h
  split at h
  · obtain ⟨_, rfl⟩ := hd
    obtain rfl := hu
    obtain rfl := hu'
    split at h
    · rename_i e
      subst e
      injection h with h; subst h
      simp [Instr.sameNow]
      exact fun h => h.symm
    · cases h
  · obtain rfl := hd
    obtain rfl := hu
    obtain rfl := hu'
    injection h with h; subst h
    rename_i l l'
    have e : ((⟨l.toArray⟩ : ByteArray) == ⟨l'.toArray⟩) = (l == l') := by
      show (l.toArray == l'.toArray) = (l == l')
      rw [Bool.eq_iff_iff]
      simp
    exact ⟨by simp only [Instr.sameNow, e], fun hb => by simp at hb; subst hb; rfl⟩
  · cases h

theorem find_now {E : Env} {q : TypeId} {kind : TypeDesc} {k : AV} {u : Value} (hd : DescOk E q kind k) (hu : V H k u) : ∀ {es : List (AV × AV)} {l : List MapEntry} {o : Option AV} (i : Nat), All2 (fun p (q : MapEntry) => V H p.1 q.key ∧ V H p.2 q.val) es l → find k es = some o →
    match o with | none => Instr.findNow kind u l i = some none | some y => ∃ j v, Instr.findNow kind u l i = some (some (j, v)) ∧ V H y v
  | [], [], o, i, _, h => by simp [find] at h; subst h; rfl
  | [], _ :: _, _, _, h, _ => h.elim
  | _ :: _, [], _, _, h, _ => h.elim
  | (k', y) :: es, e :: l, o, i, ⟨⟨h1, h2⟩, h3⟩, h => by
    simp only [find] at h
    obtain ⟨b, hb, h⟩ := Option.bind_eq_some_iff.1 h
    obtain ⟨g1, g2⟩ := same_key hd hb hu h1
    cases b with
    | true =>
      simp only [cond_true, Option.some.injEq] at h; subst h
      exact ⟨i, e.val, by simp only [Instr.findNow, g1], h2⟩
    | false =>
      simp only [cond_false] at h
      have := find_now hd hu (i + 1) h3 h
      cases o <;> simpa only [Instr.findNow, g1] using this

theorem mset_now {E : Env} {q : TypeId} {kind : TypeDesc} {k x : AV} {u v : Value} (hd : DescOk E q kind k) (hu : V H k u) (hv : V H x v) (born : Nat) : ∀ {es es' : List (AV × AV)} {l : List MapEntry} (i : Nat), All2 (fun p (q : MapEntry) => V H p.1 q.key ∧ V H p.2 q.val) es l → mset k x es = some es' →
    (Instr.findNow kind u l i = some none ∧ All2 (fun p (q : MapEntry) => V H p.1 q.key ∧ V H p.2 q.val) es' (l ++ [{ key := u, val := v, born := born }])) ∨
    ∃ j z e0, Instr.findNow kind u l i = some (some (i + j, z)) ∧ l[j]? = some e0 ∧ e0.key = u ∧ All2 (fun p (q : MapEntry) => V H p.1 q.key ∧ V H p.2 q.val) es' (l.modify j fun e => { e with key := u, val := v })
  | [], es', [], i, _, h => by simp [mset] at h; subst h; exact .inl ⟨rfl, ⟨hu, hv⟩, trivial⟩
  | [], _, _ :: _, _, h, _ => h.elim
  | _ :: _, _, [], _, h, _ => h.elim
  | (k', y) :: es, es', e :: l, i, ⟨⟨h1, h2⟩, h3⟩, h => by
    simp only [mset] at h
    obtain ⟨b, hb, h⟩ := Option.bind_eq_some_iff.1 h
    obtain ⟨g1, g2⟩ := same_key hd hb hu h1
    cases b with
    | true =>
      simp only [cond_true, Option.some.injEq] at h; subst h
      exact .inr ⟨0, e.val, e, by simp only [Instr.findNow, g1, Nat.add_zero], rfl, g2 rfl, ⟨hu, hv⟩, h3⟩
    | false =>
      simp only [cond_false] at h
      obtain ⟨es1, h', rfl⟩ := Option.map_eq_some_iff.1 h
      rcases mset_now hd hu hv born (i + 1) h3 h' with ⟨q1, q2⟩ | ⟨j, z, e0, q1, q2, q3, q4⟩
      · exact .inl ⟨by simpa only [Instr.findNow, g1] using q1, ⟨h1, h2⟩, q2⟩
      · exact .inr ⟨j + 1, z, e0, by simp only [Instr.findNow, g1]; rw [q1]; congr 3; omega, by simpa using q2, q3, by
          simp only [List.modify_succ_cons]
          exact ⟨⟨h1, h2⟩, q4⟩⟩

end Go.Ax
/- Ax: what the operations on maps and iterators do. -/
set_option linter.unusedVariables false
set_option linter.unusedSimpArgs false
namespace Go.Ax
open Go.RowKit
variable {P : Program} {ti : Nat → TI}
variable {nt N d : Nat} {s : St} {m : AMem} {H : Hp} {lam : Nat → Option Nat} {a : Act} {w w0 : World}
variable {Hi : Hp} {mi : AMem} {wi : World}

/-- An operation that answers a value ends so. -/
def OpOk (P : Program) (nt N d : Nat) (w0 : World) (Hi : Hp) (mi : AMem) (wi : World) (s : St) (m : AMem) (a : Act) (w : World) (dst : Option Tmp) (e : Eff) (x : Sem Value) : Prop :=
  ∃ v w', x.run P w = .ok v w' ∧ Inv nt N d w0 Hi mi wi (s.put dst e) (e.mw.getD m) (a.put dst v) w'

theorem zip_ents : ∀ {ks vs : List AV} {l : List MapEntry}, VL H ks (l.map (·.key)) → VL H vs (l.map (·.val)) → All2 (fun p (q : MapEntry) => V H p.1 q.key ∧ V H p.2 q.val) (ks.zip vs) l
  | [], vs, [], _, _ => by simp [All2]
  | [], vs, _ :: _, h, _ => by simp [VL] at h
  | _ :: _, vs, [], ⟨_, _, e, _⟩, _ => by simp at e
  | _ :: _, [], _ :: _, _, h => by simp [VL] at h
  | k :: ks, v :: vs, e :: l, ⟨u, us, h1, h2, h3⟩, ⟨u', us', h4, h5, h6⟩ => by
    injection h1 with h1 h1'; subst h1 h1'
    injection h4 with h4 h4'; subst h4 h4'
    exact ⟨⟨h2, h5⟩, zip_ents h3 h6⟩

theorem run_checkKey {E : Env} {q : TypeId} {kind : TypeDesc} {k : AV} {u : Value} (hq : P.underlying q = some kind) (hd : DescOk E q kind k) (hu : V H k u) (b : Bool) (n : Nat) (w : World) : (Instr.checkKey b (n + 1) q u).run P w = .ok () w := by
  cases k <;> try exact hd.elim
  · obtain ⟨_, rfl⟩ := hd
    obtain rfl := hu
    simp [Instr.checkKey, run_underlying hq]
  · obtain rfl := hd
    obtain rfl := hu
    simp [Instr.checkKey, run_underlying hq]

theorem run_findKey {E : Env} {q : TypeId} {kind : TypeDesc} {u : Value} (hq : P.underlying q = some kind) {l : List MapEntry} {r : Option (Nat × Value)} (h : Instr.findNow kind u l 0 = some r) (w : World) : (Instr.findKey q u l).run P w = .ok r w := by
  simp [Instr.findKey, run_underlying hq, h]

theorem run_lookup {ty q el : Nat} {vx vk v : Value} {b ok : Bool} {ents : Array MapEntry} (hund : P.underlying ty = some (.map q el)) (hents : (vx = .map none ∧ ents = #[]) ∨ ∃ c clk, vx = .map (some c) ∧ w.heap[c]? = some (.map ents clk))
    (hck : (Instr.checkKey ents.isEmpty 10000 q vk).run P w = .ok () w) {r : Option (Nat × Value)} (hr : (Instr.findKey q vk ents.toList).run P w = .ok r w)
    (hv : (∃ j, r = some (j, v) ∧ b = true) ∨ (r = none ∧ b = false ∧ (zeroValue el).run P w = .ok v w)) : (Instr.lookup ty vx vk ok).run P w = .ok (if ok then .tuple #[v, .bool b] else v) w := by
  rcases hents with ⟨rfl, rfl⟩ | ⟨c, clk, rfl, hc⟩
  · rcases hv with ⟨j, rfl, rfl⟩ | ⟨rfl, rfl, hz⟩
    · simp only [Instr.lookup, Sem.run_bind, run_underlying hund, Result.andThen_ok, Sem.run_pure, hck, hr]
    · simp only [Instr.lookup, Sem.run_bind, run_underlying hund, Result.andThen_ok, Sem.run_pure, hck, hr, hz]
  · rcases hv with ⟨j, rfl, rfl⟩ | ⟨rfl, rfl, hz⟩
    · simp only [Instr.lookup, Sem.run_bind, run_underlying hund, Result.andThen_ok, Sem.run_pure, run_getObj_map _ _ _ _ hc, hck, hr]
    · simp only [Instr.lookup, Sem.run_bind, run_underlying hund, Result.andThen_ok, Sem.run_pure, run_getObj_map _ _ _ _ hc, hck, hr, hz]

theorem lookup_ok (E : Env) (hti : TysOk P E.ti) (hw : WOk w0 H m w) (hf : Fr nt N d s m H lam a w) {ty : Nat} {x k : T} {ok : Bool} {e : Eff} {vx vk : Value}
    (h : aLookup E s ty x k ok = some e) (hx : VT d H m w lam s x vx) (hk : VT d H m w lam s k vk) : Quiet e ∧ ∃ u, (Instr.lookup ty vx vk ok).run P w = .ok u w ∧ VT d H m w lam s e.val u := by
  unfold aLookup at h
  split at h
  · rename_i q el k hty
    obtain ⟨hkey, h⟩ := bnd_some h
    obtain ⟨⟨es, r⟩, hes, h⟩ := Option.bind_eq_some_iff.1 h
    obtain ⟨o, ho, h⟩ := Option.bind_eq_some_iff.1 h
    obtain ⟨y, hy, h⟩ := Option.map_eq_some_iff.1 h
    obtain ⟨kind, hkd, hdo⟩ := key_desc hti hkey
    obtain ⟨ents, hents, hall⟩ : ∃ ents : Array MapEntry, ((vx = .map none ∧ ents = #[]) ∨ ∃ c clk, vx = .map (some c) ∧ w.heap[c]? = some (.map ents clk)) ∧ All2 (fun p (q : MapEntry) => V H p.1 q.key ∧ V H p.2 q.val) es ents.toList := by
      split at hes
      · rename_i ks vs _ _
        simp only [Option.some.injEq, Prod.mk.injEq] at hes
        obtain ⟨rfl, rfl⟩ := hes
        rcases hx with ⟨rfl, rfl, rfl⟩ | ⟨c, us, ws, rfl, hc, h1, h2⟩
        · exact ⟨#[], .inl ⟨rfl, rfl⟩, trivial⟩
        · obtain ⟨ents, clk, g1, rfl, rfl⟩ := hw.fmap c us ws hc
          exact ⟨ents, .inr ⟨c, clk, rfl, g1⟩, zip_ents h1 h2⟩
      · rename_i t _
        obtain ⟨es', hm, hes⟩ := Option.map_eq_some_iff.1 hes
        simp only [Prod.mk.injEq] at hes
        obtain ⟨rfl, rfl⟩ := hes
        obtain ⟨c, q1, rfl⟩ := hx.2 (by rw [hm]; rfl)
        obtain ⟨r0, c', ents, clk, r1, r2, r3, r4, r5⟩ := hf.mp t es' hm
        obtain rfl : c = c' := by rw [q1] at r1; exact Option.some.inj r1
        exact ⟨ents, .inr ⟨c, clk, rfl, r4⟩, r5⟩
      · cases hes
    have hck : (Instr.checkKey ents.isEmpty 10000 q vk).run P w = .ok () w := run_checkKey (E := E) hkd hdo hk _ 9999 w
    have hfn := find_now hdo hk (H := H) 0 hall ho
    have hund : P.underlying ty = some (.map q el) := und_map hti hty
    have hrun : ∃ v b, V H y v ∧ b = o.isSome ∧ (Instr.lookup ty vx vk ok).run P w = .ok (if ok then .tuple #[v, .bool b] else v) w := by
      cases o with
      | some y' =>
        simp only [Option.some.injEq] at hy; subst hy
        obtain ⟨j, v, g1, g2⟩ := hfn
        exact ⟨v, true, g2, rfl, run_lookup hund hents hck (run_findKey (E := E) hkd g1 w) (.inl ⟨j, rfl, rfl⟩)⟩
      | none =>
        obtain ⟨hb, hy⟩ := bnd_some hy
        simp only [Bool.and_eq_true] at hb
        obtain ⟨hb1, hb2⟩ := hb
        obtain ⟨z, hz, hy⟩ := Option.bind_eq_some_iff.1 hy
        obtain ⟨zv, g1, g2, g3, g4, g5⟩ := run_zero (hti.ok el hb2) (Nat.eq_of_beq_eq_true hb1) w
        have hV : V H z (.agg zv.cells) := av_ok (d := d) (m := m) (w := w) (lam := lam) (s := s) hz ⟨zv.cells.toList, rfl, zero_VQ g2⟩
        have hyv : V H y zv := by
          split at hy
          · rename_i c
            obtain ⟨q1, hy⟩ := bnd_some hy
            injection hy with hy; subst hy
            obtain ⟨vs, e1, u, us, e2, _, h1, h2⟩ := hV
            have := oneCell_cells (g5 (by simpa using q1))
            rw [this] at e1
            injection e1 with e1
            have : [zv] = vs := by simpa using congrArg Array.toList e1
            rw [← this] at e2
            injection e2 with e2 _
            rw [e2]; exact h1
          · rename_i cs _
            obtain ⟨q1, hy⟩ := bnd_some hy
            injection hy with hy; subst hy
            obtain ⟨arr, rfl⟩ := g4 q1
            exact hV
          · cases hy
        exact ⟨zv, false, hyv, rfl, run_lookup hund hents hck (run_findKey (E := E) hkd hfn w) (.inr ⟨rfl, rfl, g1⟩)⟩
    obtain ⟨v, b, h1, rfl, h2⟩ := hrun
    cases ok with
    | true =>
      simp only at h; subst h
      exact ⟨⟨rfl, rfl, rfl, rfl, rfl, rfl, rfl, rfl⟩, _, h2, [v, .bool o.isSome], rfl, v, _, rfl, h1, _, _, rfl, rfl, rfl⟩
    | false =>
      simp only at h; subst h
      exact ⟨⟨rfl, rfl, rfl, rfl, rfl, rfl, rfl, rfl⟩, _, h2, h1⟩
  · cases h

end Go.Ax
/- Ax: what writes to maps, iterators and own variables do. -/
set_option linter.unusedVariables false
set_option linter.unusedSimpArgs false
namespace Go.Ax
open Go.RowKit
variable {P : Program} {ti : Nat → TI}
variable {nt N d : Nat} {s : St} {m : AMem} {H : Hp} {lam : Nat → Option Nat} {a : Act} {w w0 : World}
variable {Hi : Hp} {mi : AMem} {wi : World}

theorem run_setObj_at {c : Nat} {o o' : Obj} (h : w.heap[c]? = some o) (ho : ∀ a t f, o ≠ .cells a t f) : (setObj c o').run P w = .ok () (setBlk w c o') := by
  cases o <;> first | exact absurd rfl (ho _ _ _) | (simp [setObj, Sem.run, setBlk, h]; done)

/-- An operation that writes a map of the frame. -/
theorem writeMp_inv (hw : WOk w0 H m w) (hf : Fr nt N d s m H lam a w) (x : Ext d N Hi mi wi H m w) (hN : N ≤ w.heap.size) (hB : w0.heap.size ≤ N) {t c : Nat} {es es' : List (AV × AV)} (hcs : s.mp t = some es) (hl : lam (3 * t + 1) = some c) (hc : H c = .priv) (hNc : N ≤ c) {ents : Array MapEntry} {clk : Nat}
    (h2 : All2 (fun p (q : MapEntry) => V H p.1 q.key ∧ V H p.2 q.val) es' ents.toList) {e : Eff} (he : { e with lr := [], ir := [], pr := [], mr := false } = { val := e.val, pw := [(t, some es')] }) {dst : Option Tmp} (hd : dstOk nt dst = true) {v : Value} (hv : VT d H m w lam s e.val v) :
    Inv nt N d w0 Hi mi wi (s.put dst e) (e.mw.getD m) (a.put dst v) (setBlk w c (.map ents clk)) := by
  have hlt : c < w.heap.size := hf.lamN _ _ hl
  obtain ⟨g1, g2⟩ := priv_write (D := d) hw hc (by omega) (.map ents clk) N hNc
  have hseen := (hf.mp t es hcs).1
  obtain ⟨k1, k2⟩ := hf.write (s' := { s with mp := upd s.mp t (some es') }) hl hc hNc (w' := setBlk w c (.map ents clk)) (fun j h => setBlk_ne _ h) (setBlk_size _) rfl rfl rfl rfl (fun t' es h => .inl ⟨h, by omega⟩) (fun t' cs0 h => by
      by_cases e : t' = t
      · subst e
        simp only [upd_same, Option.some.injEq] at h; subst h
        exact .inr ⟨rfl, by rw [hcs]; rfl, hseen, ents, clk, setBlk_same _ hlt, h2⟩
      · simp only [upd_ne _ _ e] at h
        exact .inl ⟨h, by omega⟩) (fun t' es h => .inl ⟨h, by omega⟩)
  injection he with e1 e2 e3 e4 e5 e6 e7 e8 e9 e10 e11 e12 e13
  have hput : s.put dst e = { s with mp := upd s.mp t (some es'), tm := putT s.tm dst e.val } := by
    simp only [St.put, e2, e3, e4, e10, e11, e12, e13, updL, List.contains_nil, Bool.false_or, Bool.not_false, Bool.and_true, List.nil_append]
    rfl
  rw [hput, e9]
  have hv' : VT d H m (setBlk w c (.map ents clk)) lam { s with mp := upd s.mp t (some es') } e.val v := by
    have := VT.close (hb := .priv) hc (fun j h => setBlk_ne (.map ents clk) h) hv
    rw [upd_self hc] at this
    exact this.st k1
  exact ⟨H, lam, g1, k2.put hv' hd, x.trans g2, by rw [setBlk_size]; exact hN⟩

/-- An operation that moves an iterator of the frame. -/
theorem writeIt_inv (hw : WOk w0 H m w) (hf : Fr nt N d s m H lam a w) (x : Ext d N Hi mi wi H m w) (hN : N ≤ w.heap.size) (hB : w0.heap.size ≤ N) {t c : Nat} {es : List UInt8 × Nat} {l : List UInt8} {p : Nat} (hcs : s.it t = some es) (hl : lam (3 * t + 2) = some c) (hc : H c = .priv) (hNc : N ≤ c)
    {e : Eff} (he : { e with lr := [], ir := [], pr := [], mr := false } = { val := e.val, iw := [(t, some (l, p))] }) {dst : Option Tmp} (hd : dstOk nt dst = true) {v : Value} (hv : VT d H m w lam s e.val v) :
    Inv nt N d w0 Hi mi wi (s.put dst e) (e.mw.getD m) (a.put dst v) (setBlk w c (.stringIter ⟨l.toArray⟩ p)) := by
  have hlt : c < w.heap.size := hf.lamN _ _ hl
  obtain ⟨g1, g2⟩ := priv_write (D := d) hw hc (by omega) (.stringIter ⟨l.toArray⟩ p) N hNc
  have hseen := (hf.it t es.1 es.2 hcs).1
  obtain ⟨k1, k2⟩ := hf.write (s' := { s with it := upd s.it t (some (l, p)) }) hl hc hNc (w' := setBlk w c (.stringIter ⟨l.toArray⟩ p)) (fun j h => setBlk_ne _ h) (setBlk_size _) rfl rfl rfl rfl (fun t' es h => .inl ⟨h, by omega⟩) (fun t' es h => .inl ⟨h, by omega⟩) (fun t' cs0 h => by
      by_cases e : t' = t
      · subst e
        simp only [upd_same, Option.some.injEq] at h; subst h
        exact .inr ⟨rfl, by rw [hcs]; rfl, hseen, setBlk_same _ hlt⟩
      · simp only [upd_ne _ _ e] at h
        exact .inl ⟨h, by omega⟩)
  injection he with e1 e2 e3 e4 e5 e6 e7 e8 e9 e10 e11 e12 e13
  have hput : s.put dst e = { s with it := upd s.it t (some (l, p)), tm := putT s.tm dst e.val } := by
    simp only [St.put, e2, e3, e4, e10, e11, e12, e13, updL, List.contains_nil, Bool.false_or, Bool.not_false, Bool.and_true, List.nil_append]
    rfl
  rw [hput, e9]
  have hv' : VT d H m (setBlk w c (.stringIter ⟨l.toArray⟩ p)) lam { s with it := upd s.it t (some (l, p)) } e.val v := by
    have := VT.close (hb := .priv) hc (fun j h => setBlk_ne (.stringIter ⟨l.toArray⟩ p) h) hv
    rw [upd_self hc] at this
    exact this.st k1
  exact ⟨H, lam, g1, k2.put hv' hd, x.trans g2, by rw [setBlk_size]; exact hN⟩

theorem sameBits_key {E : Env} {q : TypeId} {kind : TypeDesc} {k : AV} {u : Value} (hd : DescOk E q kind k) (hu : V H k u) (n : Nat) : Instr.sameBits n u u = true := by
  cases k <;> try exact hd.elim
  · obtain rfl := hu; simp [Instr.sameBits]
  · obtain rfl := hu
    rename_i l
    unfold Instr.sameBits
    show (l.toArray == l.toArray) = true
    simp

theorem mapUpdate_ok (E : Env) (hti : TysOk P E.ti) (hw : WOk w0 H m w) (hf : Fr nt N d s m H lam a w) (x : Ext d N Hi mi wi H m w) (hN : N ≤ w.heap.size) (hB : w0.heap.size ≤ N) {ty : Nat} {mp k y : T} {e : Eff} {vm vk vy : Value}
    (h : aMapUpdate E s ty mp k y = some e) (hm : VT d H m w lam s mp vm) (hk : VT d H m w lam s k vk) (hy : VT d H m w lam s y vy) {dst : Option Tmp} (hd : dstOk nt dst = true) :
    ∃ w', (Instr.mapUpdate ty vm vk vy).run P w = .ok () w' ∧ Inv nt N d w0 Hi mi wi (s.put dst e) (e.mw.getD m) (a.put dst undef) w' := by
  unfold aMapUpdate at h
  split at h
  · rename_i q el t k hty
    obtain ⟨hkey, h1⟩ := bnd_some h
    obtain ⟨es, hes, h2⟩ := Option.bind_eq_some_iff.1 h1
    obtain ⟨y', hy', h3⟩ := Option.bind_eq_some_iff.1 h2
    obtain ⟨es', hes', rfl⟩ := Option.map_eq_some_iff.1 h3
    obtain ⟨kind, hkd, hdo⟩ := key_desc hti hkey
    have hund : P.underlying ty = some (.map q el) := und_map hti hty
    obtain ⟨c, q1, rfl⟩ := hm.2 (by rw [hes]; rfl)
    obtain ⟨r0, c', ents, clk, r1, r2, r3, r4, r5⟩ := hf.mp t es hes
    obtain rfl : c = c' := by rw [q1] at r1; exact Option.some.inj r1
    have hck : (Instr.checkKey false 10000 q vk).run P w = .ok () w := run_checkKey (E := E) hkd hdo hk _ 9999 w
    have hkv : V H k vk := hk
    rcases mset_now hdo hkv (av_ok hy' hy) clk 0 r5 hes' with ⟨g1, g2⟩ | ⟨j, z, e0, g1, g2, g3, g4⟩
    · refine ⟨_, by simp only [Instr.mapUpdate, Sem.run_bind, run_underlying hund, Result.andThen_ok, run_getObj_map _ _ _ _ r4, hck, run_findKey (E := E) hkd g1, run_setObj_at r4 (by simp)]; rfl, ?_⟩
      exact writeMp_inv hw hf x hN hB hes q1 r2 r3 (by simpa using g2) rfl hd (v := undef) rfl
    · rw [Nat.zero_add] at g1
      have hkts : (Instr.keyThatStays (((ents[j]?).map (·.key)).getD vk) vk).run P w = .ok vk w := by
        have : ents[j]? = some e0 := by rw [← Array.getElem?_toList]; exact g2
        rw [this]
        simp [Instr.keyThatStays, g3, sameBits_key (E := E) hdo hkv]
      refine ⟨_, by simp only [Instr.mapUpdate, Sem.run_bind, run_underlying hund, Result.andThen_ok, run_getObj_map _ _ _ _ r4, hck, run_findKey (E := E) hkd g1, hkts, run_setObj_at r4 (by simp)]; rfl, ?_⟩
      exact writeMp_inv hw hf x hN hB hes q1 r2 r3 (by simpa using g4) rfl hd (v := undef) rfl
  · cases h

theorem next_ok (E : Env) (hw : WOk w0 H m w) (hf : Fr nt N d s m H lam a w) (x : Ext d N Hi mi wi H m w) (hN : N ≤ w.heap.size) (hB : w0.heap.size ≤ N) {t : Nat} {l : List UInt8} {p : Nat} (hs : s.it t = some (l, p)) {vi : Value} (hi : VT d H m w lam s (.sit t) vi) {dst : Option Tmp} (hd : dstOk nt dst = true) (ty : TypeId) {e : Eff}
    (he : (match Nat.blt p l.length with
      | true => let r := Utf8.decode ⟨l.toArray⟩ p
          ({ val := .v (.tup [.bool true, .int .i64 p, .int .i32 r.1]), ir := [t], iw := [(t, some (l, p + r.2))] } : Eff)
      | false => { val := .v (.tup [.bool false]), ir := [t] }) = e) :
    OpOk P nt N d w0 Hi mi wi s m a w dst e (Instr.next vi true ty) := by
  obtain ⟨c, q1, rfl⟩ := hi.2 (by rw [hs]; rfl)
  obtain ⟨r0, c', r1, r2, r3, r4⟩ := hf.it t l p hs
  obtain rfl : c = c' := by rw [q1] at r1; exact Option.some.inj r1
  have hget : (getObj c).run P w = .ok (.stringIter ⟨l.toArray⟩ p) w := by simp [getObj, Sem.run, r4]
  cases hb : Nat.blt p l.length with
  | true =>
    rw [hb] at he
    simp only at he
    subst he
    have hlt : p < l.length := by simp [Nat.blt] at hb; omega
    have hsz : p < (⟨l.toArray⟩ : ByteArray).size := by simpa [ByteArray.size] using hlt
    refine ⟨_, _, by simp only [Instr.next, Sem.run_bind, hget, Result.andThen_ok, hsz, if_true, run_setObj_at r4 (by simp), Sem.run_pure]; rfl, ?_⟩
    exact writeIt_inv hw hf x hN hB hs q1 r2 r3 rfl hd ⟨_, rfl, _, _, rfl, rfl, _, _, rfl, rfl, _, _, rfl, rfl, rfl⟩
  | false =>
    rw [hb] at he
    simp only at he
    subst he
    have hlt : ¬ p < l.length := by
      intro hp
      rw [Nat.blt, Nat.ble_eq_true_of_le hp] at hb
      cases hb
    have hsz : ¬ p < (⟨l.toArray⟩ : ByteArray).size := by simpa [ByteArray.size] using hlt
    refine ⟨_, _, by simp only [Instr.next, Sem.run_bind, hget, Result.andThen_ok, hsz, if_false, Sem.run_pure]; rfl, ?_⟩
    exact quiet_inv (e := { val := .v (.tup [.bool false]), ir := [t] }) hw hf x hN ⟨rfl, rfl, rfl, rfl, rfl, rfl, rfl, rfl⟩ hd ⟨_, rfl, _, _, rfl, rfl, rfl⟩

end Go.Ax
/- Ax: what the operations that make memory do. -/
set_option linter.unusedVariables false
set_option linter.unusedSimpArgs false
namespace Go.Ax
open Go.RowKit
variable {P : Program} {ti : Nat → TI}
variable {nt N d : Nat} {s : St} {m : AMem} {H : Hp} {lam : Nat → Option Nat} {a : Act} {w w0 : World}
variable {Hi : Hp} {mi : AMem} {wi : World}

theorem copy_ok (E : Env) (hti : TysOk P E.ti) (hw : WOk w0 H m w) (hf : Fr nt N d s m H lam a w) (x : Ext d N Hi mi wi H m w) (hN : N ≤ w.heap.size) (hB : w0.heap.size ≤ N) {ty el t off len sz t' off' len' : Nat} {g g' : Bool} {cs cs' : List T} (hk : (E.ti ty).k = .slice el) (hsz : sz = (E.ti el).sz)
    (hcs : s.lc t = some cs) (hcs' : s.lc t' = some cs') (h1 : off + min len len' * sz ≤ cs.length) (h2 : off' + min len len' * sz ≤ cs'.length) {vd vs : Value} (hd : VT d H m w lam s (.mref t off len sz g) vd) (hs : VT d H m w lam s (.mref t' off' len' sz g') vs)
    {ats : Array TypeId} (hat : ats[0]? = some ty) (rt : TypeId) {dst : Option Tmp} (hdst : dstOk nt dst = true) {e : Eff} (he : e = { val := .v (.int .i64 (min len len' : Nat)), lr := [t, t'], lw := [(t, some (setAt cs off ((cs'.drop off').take (min len len' * sz))))] }) :
    OpOk P nt N d w0 Hi mi wi s m a w dst e (Builtin.copy_ ats rt #[vd, vs]) := by
  subst he
  obtain ⟨q0, c, arr, aty, q1, q2, q3, q4, q5⟩ := hf.lcQ hcs
  obtain ⟨r0, c', arr', aty', r1, r2, r3, r4, r5⟩ := hf.lcQ hcs'
  obtain ⟨cd, capd, ad, p1, rfl, p3, p4⟩ := hd.2 (by rw [hcs]; rfl)
  obtain ⟨cs0, caps, as, p5, rfl, p7, p8⟩ := hs.2 (by rw [hcs']; rfl)
  obtain rfl : c = cd := by rw [q1] at p1; exact Option.some.inj p1
  obtain rfl : c' = cs0 := by rw [r1] at p5; exact Option.some.inj p5
  have hl1 := q5.length
  have hl2 := r5.length
  simp only [Array.length_toList] at hl1 hl2
  have hvs : All2 (VQ d H s) ((cs'.drop off').take (min len len' * sz)) ((arr'.toList.drop off').take (min len len' * sz)) := (r5.drop off').take _
  have hvl : ((arr'.toList.drop off').take (min len len' * sz)).length = min len len' * sz := by simp; omega
  have hmin : Nat.min len' len = min len len' := by show min len' len = _; omega
  have hload : (Builtin.firstCells sz (min len len') (.slice as len' caps)).run P w = .ok ((arr'.toList.drop off').take (min len len' * sz)).toArray w := by
    by_cases h0 : min len len' = 0
    · rw [h0]
      cases as <;> simp [Builtin.firstCells, loadCells, loadCellsFrom]
    · obtain rfl := p8 (by omega)
      exact run_loadCells (CellsAt.of_block r4 off' _) hvl
  have hstore : (ad = none ∧ setBlk w c (.cells (setCells arr off ((arr'.toList.drop off').take (min len len' * sz))) aty) = w) ∨ ∃ b, ad = some b ∧ (storeCells b ((arr'.toList.drop off').take (min len len' * sz))).run P w = .ok () (setBlk w c (.cells (setCells arr off ((arr'.toList.drop off').take (min len len' * sz))) aty)) := by
    by_cases h0 : min len len' = 0
    · rw [h0]
      simp only [Nat.zero_mul, List.take_zero, setCells, setBlk_id q4]
      cases ad
      · exact .inl ⟨rfl, trivial⟩
      · exact .inr ⟨_, rfl, by simp [storeCells]⟩
    · obtain rfl := p4 (by omega)
      have := run_storeCells (P := P) ((arr'.toList.drop off').take (min len len' * sz)) 0 (o := off) q4 (by rw [hvl]; omega) (fun j _ _ => by simp) hvs.cells_one
      exact .inr ⟨_, rfl, by simpa using this⟩
  have hund := und_slice hti hk
  have hszr := run_sizeOf (hti.ok el (hti.sub _ _ (by rw [hk]; exact List.mem_cons_self))) (P := P) w
  rw [← hsz] at hszr
  refine ⟨goInt (min len len' : Nat), setBlk w c (.cells (setCells arr off ((arr'.toList.drop off').take (min len len' * sz))) aty), ?_, writeLc_inv hw hf x hN hB hcs q1 q2 q3 (by rw [setCells_toList]; exact setAt_all off q5 hvs) rfl hdst rfl⟩
  unfold Builtin.copy_
  simp only [hat, List.getElem?_toArray, List.getElem?_cons_zero, List.getElem?_cons_succ, Sem.run_bind, run_underlying hund, Result.andThen_ok, Builtin.lenOf, Sem.run_pure, hmin, hszr, hload]
  rcases hstore with ⟨rfl, hs⟩ | ⟨b, rfl, hs⟩
  · simp only [Sem.run_pure, hs]
  · simp only [Sem.run_bind, hs, Result.andThen_ok, Sem.run_pure]

theorem dst_get {o : Option Tmp} (h : o.isSome = true) : o = some (dOp o) := by
  cases o with
  | none => cases h
  | some x => rfl

theorem makeMap_ok (hw : WOk w0 H m w) (hf : Fr nt N d s m H lam a w) (x : Ext d N Hi mi wi H m w) (hN : N ≤ w.heap.size) {k : Nat} (hd : dstOk nt (some k) = true) (hs : s.seen k = false) (ty : TypeId) :
    OpOk P nt N d w0 Hi mi wi s m a w (some k) { val := .omap k, pw := [(k, some [])], pr := [k], use := [k] } (Instr.makeMap ty none) :=
  ⟨.map (some w.heap.size), w.alloc (.map #[] 0), by simp [Instr.makeMap], newMap_inv hw hf x hN hd hs 0 rfl fun H' m' w' s' lam' h1 h2 => ⟨h1, fun _ => ⟨_, h2, rfl⟩⟩⟩

theorem range_ok (E : Env) (hti : TysOk P E.ti) (hw : WOk w0 H m w) (hf : Fr nt N d s m H lam a w) (x : Ext d N Hi mi wi H m w) (hN : N ≤ w.heap.size) {k : Nat} (hd : dstOk nt (some k) = true) (hs : s.seen k = false) {ty : Nat} (hk : (E.ti ty).k = .str) {l : List UInt8} {v : Value} (hv : V H (.str l) v) :
    OpOk P nt N d w0 Hi mi wi s m a w (some k) { val := .sit k, iw := [(k, some (l, 0))], ir := [k], use := [k] } (Instr.range ty v) := by
  obtain rfl := hv
  exact ⟨.pointer (some ⟨w.heap.size, 0, none⟩), w.alloc (.stringIter ⟨l.toArray⟩ 0), by simp [Instr.range, run_underlying (und_str hti hk)], newIter_inv hw hf x hN hd hs l rfl fun H' m' w' s' lam' h1 h2 => ⟨h1, fun _ => ⟨_, h2, rfl⟩⟩⟩

theorem zr_VM : ∀ {zs : List T} {us : List Value}, All2 Zr zs us → All2 (VM1 H m) zs us ∧ ∀ (i k sz : Nat) (xs : List AV), zs[i]? = some (.own k sz xs) → k = 0
  | [], [], _ => ⟨trivial, fun i k sz xs h => by simp at h⟩
  | z :: zs, u :: us, ⟨h1, h2⟩ => by
    obtain ⟨g1, g2⟩ := zr_VM h2
    refine ⟨⟨(VT1_zero (d := 0) (H := H) (live := fun _ => false) h1).2.1 m, g1⟩, fun i k sz xs h => ?_⟩
    cases i with
    | zero => simp at h; exact (VT1_zero (d := 0) (H := H) (live := fun _ => false) h1).2.2 _ _ _ h
    | succ i => exact g2 i k sz xs (by simpa using h)
  | [], _ :: _, h => h.elim
  | _ :: _, [], h => h.elim

/-- A new memory block, and a pointer at it. -/
theorem newMem_inv (hw : WOk w0 H m w) (hf : Fr nt N d s m H lam a w) (x : Ext d N Hi mi wi H m w) (hN : N ≤ w.heap.size) {dst : Option Tmp} (hd : dstOk nt dst = true) {cs : List T} {arr : Array Value} (ty : TypeId) (hc : All2 (VM1 H m) cs arr.toList) (hz : ∀ (i k sz : Nat) (xs : List AV), cs[i]? = some (.own k sz xs) → k = 0) :
    Inv nt N d w0 Hi mi wi (s.put dst { val := .v (.ptr m.next 0), mr := true, mw := some { next := m.next + 1, blk := upd m.blk m.next (some cs), ty := upd m.ty m.next ty } }) { next := m.next + 1, blk := upd m.blk m.next (some cs), ty := upd m.ty m.next ty } (a.put dst (.pointer (some ⟨w.heap.size, 0, none⟩))) (w.alloc (.cells arr ty)) := by
  obtain ⟨h1, h2⟩ := alloc_mem_ok (D := d + 1) (N' := w.heap.size) hw arr ty hc hz
  have hf' := hf.ext h2 (Nat.le_refl _)
  rw [put_kill s dst (.v (.ptr m.next 0)) [] _ rfl]
  have hk0 : s.kill [] = s := by simp [St.kill]
  rw [hk0]
  exact ⟨_, lam, h1, hf'.put (x := .v (.ptr m.next 0)) ⟨_, rfl, upd_same _ _ _⟩ hd, x.trans (h2.weaken (Nat.le_succ d) hN), by rw [heap_size]; omega⟩

theorem alloc_op_ok (E : Env) (hti : TysOk P E.ti) (hw : WOk w0 H m w) (hf : Fr nt N d s m H lam a w) (x : Ext d N Hi mi wi H m w) (hN : N ≤ w.heap.size) {ty : Nat} (hg : (E.ti ty).ok = true) {dst : Option Tmp} (hd : dstOk nt dst = true) (hl : (E.ti ty).zero.length = (E.ti ty).sz) {e : Eff}
    (he : (e = { val := .reg (dOp dst) 0, lw := [(dOp dst, some (E.ti ty).zero)], lr := [dOp dst], use := [dOp dst] } ∧ s.seen (dOp dst) = false ∧ dst.isSome = true) ∨ e = { val := .v (.ptr m.next 0), mr := true, mw := some { next := m.next + 1, blk := upd m.blk m.next (some (E.ti ty).zero), ty := upd m.ty m.next ty } }) :
    OpOk P nt N d w0 Hi mi wi s m a w dst e (Instr.alloc ty true (.tuple #[])) := by
  obtain ⟨z, hz, hz2, hz3, _⟩ := run_zero (hti.ok ty hg) hl w
  refine ⟨.pointer (some ⟨w.heap.size, 0, none⟩), w.alloc (.cells z.cells ty), by simp [Instr.alloc, hz, newVar, newRow], ?_⟩
  rcases he with ⟨rfl, hs, hsome⟩ | rfl
  · rw [dst_get hsome] at hd ⊢
    exact newLoc_inv hw hf x hN hd hs (zero_VQ hz2) rfl fun H' m' w' s' lam' h1 h2 => ⟨h1, fun _ => ⟨_, h2, rfl⟩⟩
  · obtain ⟨g1, g2⟩ := zr_VM (H := H) (m := m) hz2
    exact newMem_inv hw hf x hN hd ty g1 g2

theorem box_op_ok (hw : WOk w0 H m w) (hf : Fr nt N d s m H lam a w) (x : Ext d N Hi mi wi H m w) (hN : N ≤ w.heap.size) (ty : Nat) {dst : Option Tmp} (hd : dstOk nt dst = true) {y : T} {v : Value} {cs : List T} (hv : VT d H m w lam s y v) (hc : y.cells = some cs) {e : Eff}
    (he : (e = { val := .reg (dOp dst) 0, lw := [(dOp dst, some cs)], lr := [dOp dst], use := [dOp dst] } ∧ s.seen (dOp dst) = false ∧ dst.isSome = true) ∨ e = { val := .v (.ptr m.next 0), mr := true, mw := some { next := m.next + 1, blk := upd m.blk m.next (some (cs.map down)), ty := upd m.ty m.next ty } }) :
    OpOk P nt N d w0 Hi mi wi s m a w dst e (Instr.box ty v) := by
  have hq := cells_ok hc hv
  refine ⟨.pointer (some ⟨w.heap.size, 0, none⟩), w.alloc (.cells v.cells ty), by simp [Instr.box, newVar, newRow], ?_⟩
  rcases he with ⟨rfl, hs, hsome⟩ | rfl
  · rw [dst_get hsome] at hd ⊢
    exact newLoc_inv hw hf x hN hd hs hq rfl fun H' m' w' s' lam' h1 h2 => ⟨h1, fun _ => ⟨_, h2, rfl⟩⟩
  · obtain ⟨g1, g2⟩ := All2_down (m := m) hq
    exact newMem_inv hw hf x hN hd ty g1 g2

/-! ### rows of zeros -/
theorem reps_All2 {α β : Type} {R : α → β → Prop} {l : List α} {r : List β} (h : All2 R l r) : ∀ n, All2 R (reps n l) (reps n r)
  | 0 => trivial
  | n + 1 => by
    simp only [reps, List.replicate_succ, List.flatten_cons]
    exact h.append (reps_All2 h n)

theorem reps_length {α : Type} (l : List α) (n : Nat) : (reps n l).length = n * l.length := by simp [reps]

theorem reps_get {α : Type} {l : List α} (hl : 0 < l.length) : ∀ (n i : Nat), i < n * l.length → (reps n l)[i]? = l[i % l.length]?
  | 0, i, h => by simp at h
  | n + 1, i, h => by
    simp only [reps, List.replicate_succ, List.flatten_cons]
    by_cases h0 : i < l.length
    · rw [List.getElem?_append_left h0, Nat.mod_eq_of_lt h0]
    · rw [List.getElem?_append_right (by omega)]
      have h1 : i - l.length < n * l.length := by rw [Nat.succ_mul] at h; omega
      have := reps_get hl n (i - l.length) h1
      simp only [reps] at this
      rw [this]
      congr 1
      rw [Nat.mod_eq_sub_mod (a := i) (by omega)]

theorem row_reps (z : Array Value) (hz : 0 < z.size) (n : Nat) : ((Array.range (n * z.size)).map (fun i => z[i % z.size]!)).toList = reps n z.toList := by
  apply List.ext_getElem?
  intro i
  by_cases h : i < n * z.size
  · rw [reps_get (by simpa using hz) n i (by simpa using h)]
    have hm : i % z.size < z.size := Nat.mod_lt _ hz
    simp [h, hm, Array.getElem!_eq_getD, Array.getD_eq_getD_getElem?]
  · rw [List.getElem?_eq_none (by simp; omega), List.getElem?_eq_none (by rw [reps_length]; simp; omega)]

end Go.Ax
