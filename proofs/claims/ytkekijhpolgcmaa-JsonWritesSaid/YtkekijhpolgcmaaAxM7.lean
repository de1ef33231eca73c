/- The machine Ax, part AxM7: its steps and why they are sound. -/
import Derived.Test.YtkekijhpolgcmaaAxM1
import Derived.Orders
/- Ax: what an operation reads: its effect hangs on nothing else. -/
set_option linter.unusedVariables false
set_option linter.unusedSimpArgs false
namespace Go.Ax

structure Agree (ops : Array Oper) (o : Oper) (e : Eff) (s : St) (m : AMem) (s2 : St) (m2 : AMem) : Prop where
  tm : ∀ t, t ∈ o.looksAt ops → s.tm t = s2.tm t
  lc : ∀ t, t ∈ e.lr → s.lc t = s2.lc t
  mp : ∀ t, t ∈ e.pr → s.mp t = s2.mp t
  it : ∀ t, t ∈ e.ir → s.it t = s2.it t
  m : e.mr = true → m = m2
  live : e.kill ≠ [] → s.live = s2.live
  seen : ∀ k, (k ∈ e.new ∨ k ∈ e.use) → s.seen k = s2.seen k

variable {E : Env} {call : CallT} {ops : Array Oper} {o : Oper} {e : Eff} {s s2 : St} {m m2 : AMem}

theorem bnd_some' {α : Type} {b : Bool} {x : Option α} {y : α} (h : bnd b x = some y) : b = true ∧ x = some y := by
  cases b with
  | true => exact ⟨rfl, h⟩
  | false => cases h

theorem bnd_mk {α : Type} {b : Bool} {x : Option α} {y : α} (hb : b = true) (h : x = some y) : bnd b x = some y := by subst hb; exact h

theorem Agree.ev (h : Agree ops o e s m s2 m2) {x : Operand} (hx : x ∈ o.op.operands.toList) : s2.ev x = s.ev x := by
  cases x with
  | tmp t =>
    have := h.tm t (by unfold Oper.looksAt; exact List.mem_append_left _ (List.mem_filterMap.2 ⟨_, hx, rfl⟩))
    show some (s2.tm t) = some (s.tm t)
    rw [this]
  | _ => rfl

theorem Agree.evs (h : Agree ops o e s m s2 m2) {β : Type} {l : List β} {g : β → Operand} (hl : ∀ x ∈ l, g x ∈ o.op.operands.toList) {γ : Type} (k : β → Option T → Option γ) : l.mapM (fun x => k x (s2.ev (g x))) = l.mapM (fun x => k x (s.ev (g x))) := by
  induction l with
  | nil => rfl
  | cons x r ih =>
    rw [List.mapM_cons, List.mapM_cons, h.ev (hl x List.mem_cons_self), ih (fun y hy => hl y (List.mem_cons_of_mem _ hy))]

theorem esc_agree {x : T} {y : Esc} (h : esc s x = some y) (hl : ∀ t ∈ y.ls, s.lc t = s2.lc t) (hp : ∀ t ∈ y.ps, s.mp t = s2.mp t) : esc s2 x = some y := by
  unfold esc at h ⊢
  split at h
  · obtain ⟨hb, h1⟩ := bnd_some' h
    obtain ⟨cs, h2, h3⟩ := Option.bind_eq_some_iff.1 h1
    obtain ⟨xs, h4, rfl⟩ := Option.map_eq_some_iff.1 h3
    refine bnd_mk hb ?_
    rw [← hl _ List.mem_cons_self, h2, Option.bind_some, h4]; rfl
  · obtain ⟨es, h2, rfl⟩ := Option.map_eq_some_iff.1 h
    rw [← hp _ List.mem_cons_self, h2]; rfl
  · exact h

theorem escs_agree : ∀ {l : List T} {xs : List AV} {ls ps : List Nat}, escs s l = some (xs, ls, ps) → (∀ t ∈ ls, s.lc t = s2.lc t) → (∀ t ∈ ps, s.mp t = s2.mp t) → escs s2 l = some (xs, ls, ps)
  | [], _, _, _, h, _, _ => h
  | x :: r, xs, ls, ps, h, hl, hp => by
    simp only [escs] at h ⊢
    obtain ⟨y, h1, h2⟩ := Option.bind_eq_some_iff.1 h
    obtain ⟨⟨xs', ls', ps'⟩, h3, h4⟩ := Option.map_eq_some_iff.1 h2
    simp only [Prod.mk.injEq] at h4
    obtain ⟨rfl, rfl, rfl⟩ := h4
    rw [esc_agree h1 (fun t ht => hl t (List.mem_append_left _ ht)) (fun t ht => hp t (List.mem_append_left _ ht)), escs_agree h3 (fun t ht => hl t (List.mem_append_right _ ht)) (fun t ht => hp t (List.mem_append_right _ ht))]
    rfl

theorem oneR_agree {x : T} {y : Option T} (h : oneR s x y = some e) (hl : ∀ t ∈ e.lr, s.lc t = s2.lc t) : oneR s2 x y = some e := by
  obtain ⟨h1, h2⟩ := bnd_some' h
  obtain ⟨z, h3, rfl⟩ := Option.map_eq_some_iff.1 h2
  refine bnd_mk ?_ h2
  unfold opn at h1 ⊢
  cases x <;> first | rfl | (simp only at h1 ⊢; rw [← hl _ (by simp [rds])]; exact h1)

theorem load_agree {ty : TypeId} {p : T} (h : aLoad E s m ty p = some e) (hl : ∀ t ∈ e.lr, s.lc t = s2.lc t) (hm : e.mr = true → m = m2) : aLoad E s2 m2 ty p = some e := by
  unfold aLoad at h ⊢
  split at h
  · obtain ⟨cs, h1, h2⟩ := Option.bind_eq_some_iff.1 h
    obtain ⟨y, h3, rfl⟩ := Option.map_eq_some_iff.1 h2
    rw [← hl _ (by simp), h1, Option.bind_some, h3]; rfl
  · have : e.mr = true := by
      obtain ⟨cs, h1, h2⟩ := Option.bind_eq_some_iff.1 h
      split at h2 <;> (obtain ⟨y, h3, rfl⟩ := Option.map_eq_some_iff.1 h2; rfl)
    obtain rfl := hm this
    exact h
  · exact h
  · cases h

theorem store_agree {ty : TypeId} {p x : T} (h : aStore E s m ty p x = some e) (hl : ∀ t ∈ e.lr, s.lc t = s2.lc t) (hp : ∀ t ∈ e.pr, s.mp t = s2.mp t) (hm : e.mr = true → m = m2) (hlive : e.kill ≠ [] → s.live = s2.live) : aStore E s2 m2 ty p x = some e := by
  unfold aStore at h ⊢
  split at h
  · rename_i t off
    split at h
    · obtain ⟨y, h1, h2⟩ := Option.bind_eq_some_iff.1 h
      obtain ⟨cs, h3, h4⟩ := Option.bind_eq_some_iff.1 h2
      obtain ⟨hb, h5⟩ := bnd_some' h4
      simp only [Option.some.injEq] at h5; subst h5
      have hps : ∀ t ∈ y.ps, s.mp t = s2.mp t := by
        unfold esc at h1
        obtain ⟨_, h1⟩ := bnd_some' h1
        obtain ⟨_, _, h1⟩ := Option.bind_eq_some_iff.1 h1
        obtain ⟨_, _, rfl⟩ := Option.map_eq_some_iff.1 h1
        intro t ht; cases ht
      rw [esc_agree h1 (fun t ht => hl t (List.mem_cons_of_mem _ ht)) hps, Option.bind_some, ← hl t List.mem_cons_self, h3, Option.bind_some]
      exact bnd_mk hb rfl
    · obtain ⟨ys, h1, h2⟩ := Option.bind_eq_some_iff.1 h
      obtain ⟨cs, h3, h4⟩ := Option.bind_eq_some_iff.1 h2
      obtain ⟨hb, h5⟩ := bnd_some' h4
      simp only [Option.some.injEq] at h5; subst h5
      rw [h1, Option.bind_some, ← hl t List.mem_cons_self, h3, Option.bind_some]
      exact bnd_mk hb rfl
  · rename_i id off
    simp only
    have hmr : e.mr = true := by
      obtain ⟨cs, h1, h2⟩ := Option.bind_eq_some_iff.1 h
      split at h2
      · obtain ⟨ys, h3, h4⟩ := Option.bind_eq_some_iff.1 h2
        obtain ⟨_, h5⟩ := bnd_some' h4
        simp only [Option.some.injEq] at h5; subst h5; rfl
      · obtain ⟨_, h3⟩ := bnd_some' h2
        obtain ⟨y, h4, h5⟩ := Option.bind_eq_some_iff.1 h3
        split at h5
        · obtain ⟨⟨c, m', ks⟩, h6, h7⟩ := Option.bind_eq_some_iff.1 h5
          obtain ⟨_, h8⟩ := bnd_some' h7
          simp only [Option.some.injEq] at h8; subst h8; rfl
        · obtain ⟨c, h6, h7⟩ := Option.bind_eq_some_iff.1 h5
          obtain ⟨_, h8⟩ := bnd_some' h7
          simp only [Option.some.injEq] at h8; subst h8; rfl
    obtain rfl := hm hmr
    obtain ⟨cs, h1, h2⟩ := Option.bind_eq_some_iff.1 h
    rw [h1, Option.bind_some]
    split at h2
    · rename_i hag
      exact h2
    · rename_i hag
      obtain ⟨hb0, h3⟩ := bnd_some' h2
      refine bnd_mk hb0 ?_
      obtain ⟨y, h4, h5⟩ := Option.bind_eq_some_iff.1 h3
      split at h5
      · rename_i k sz xs
        obtain ⟨⟨c, m', ks⟩, h6, h7⟩ := Option.bind_eq_some_iff.1 h5
        obtain ⟨hb, h8⟩ := bnd_some' h7
        simp only [Option.some.injEq] at h8; subst h8
        have he : esc s2 (.own k sz xs) = some y := h4
        rw [he, Option.bind_some, h6, Option.bind_some]
        simp only [Bool.and_eq_true, Bool.or_eq_true] at hb
        refine bnd_mk ?_ rfl
        cases k with
        | zero => simp only [hb.1, Nat.beq, Bool.true_or, Bool.and_true]
        | succ k =>
          simp only [memCell, Option.some.injEq, Prod.mk.injEq] at h6
          have := hlive (by rw [← h6.2.2]; simp)
          rw [← this]
          simp only [hb.1, Bool.true_and, Bool.or_eq_true]
          exact hb.2
      · obtain ⟨c, h6, h7⟩ := Option.bind_eq_some_iff.1 h5
        obtain ⟨hb, h8⟩ := bnd_some' h7
        simp only [Option.some.injEq] at h8; subst h8
        rw [esc_agree h4 hl hp, Option.bind_some]
        rw [h6, Option.bind_some]
        exact bnd_mk hb rfl
  · cases h

theorem convert_agree {src ds : TypeId} {x : T} (h : aConvert E s src ds x = some e) (hl : ∀ t ∈ e.lr, s.lc t = s2.lc t) : aConvert E s2 src ds x = some e := by
  unfold aConvert at h ⊢
  split at h
  · exact h
  · exact h
  · exact h
  · exact h
  · split at h
    · split at h
      · obtain ⟨cs, h1, h2⟩ := Option.bind_eq_some_iff.1 h
        obtain ⟨xs, h3, h4⟩ := Option.bind_eq_some_iff.1 h2
        obtain ⟨l, h5, rfl⟩ := Option.map_eq_some_iff.1 h4
        rw [← hl _ (by simp), h1, Option.bind_some, h3, Option.bind_some, h5]; rfl
      · exact h
    · cases h
  · cases h

theorem lookup_agree {ty : TypeId} {x k : T} {ok : Bool} (h : aLookup E s ty x k ok = some e) (hp : ∀ t ∈ e.pr, s.mp t = s2.mp t) : aLookup E s2 ty x k ok = some e := by
  unfold aLookup at h ⊢
  split at h
  · obtain ⟨hb, h1⟩ := bnd_some' h
    refine bnd_mk hb ?_
    split at h1
    · exact h1
    · rename_i t
      obtain ⟨⟨es, r⟩, h2, h3⟩ := Option.bind_eq_some_iff.1 h1
      obtain ⟨es', h4, h5⟩ := Option.map_eq_some_iff.1 h2
      simp only [Prod.mk.injEq] at h5
      obtain ⟨rfl, rfl⟩ := h5
      have : e.pr = [t] := by
        obtain ⟨o, h6, h7⟩ := Option.bind_eq_some_iff.1 h3
        obtain ⟨y, h8, h9⟩ := Option.map_eq_some_iff.1 h7
        cases ok <;> (simp only at h9; subst h9; rfl)
      rw [← hp _ (by rw [this]; exact List.mem_cons_self), h2]
      exact h3
    · cases h1
  · cases h

theorem mapUpdate_agree {ty : TypeId} {x k y : T} (h : aMapUpdate E s ty x k y = some e) (hp : ∀ t ∈ e.pr, s.mp t = s2.mp t) : aMapUpdate E s2 ty x k y = some e := by
  unfold aMapUpdate at h ⊢
  split at h
  · obtain ⟨hb, h1⟩ := bnd_some' h
    refine bnd_mk hb ?_
    obtain ⟨es, h2, h3⟩ := Option.bind_eq_some_iff.1 h1
    obtain ⟨z, h4, h5⟩ := Option.bind_eq_some_iff.1 h3
    obtain ⟨es', h6, rfl⟩ := Option.map_eq_some_iff.1 h5
    rw [← hp _ List.mem_cons_self, h2, Option.bind_some, h4, Option.bind_some, h6]; rfl
  · cases h

theorem makeSlice_agree {ty : TypeId} {k : Nat} {l c : Int} (h : aMakeSlice E ty k s l c = some e) (hs : ∀ j, (j ∈ e.new ∨ j ∈ e.use) → s.seen j = s2.seen j) : aMakeSlice E ty k s2 l c = some e := by
  unfold aMakeSlice at h ⊢
  split at h
  · simp only at h ⊢
    split at h
    · obtain ⟨hb, h1⟩ := bnd_some' h
      rename_i hlc
      rw [if_pos hlc]
      refine bnd_mk hb ?_
      split at h1
      · obtain ⟨hb, h2⟩ := bnd_some' h1
        simp only [Option.some.injEq] at h2; subst h2
        rename_i hl
        rw [if_pos hl]
        exact bnd_mk (by rw [← hs k (.inr List.mem_cons_self)]; exact hb) rfl
      · split at h1
        · obtain ⟨hb, h2⟩ := bnd_some' h1
          simp only [Option.some.injEq] at h2; subst h2
          rename_i hn hl
          rw [if_neg hn, if_pos hl]
          exact bnd_mk (by rw [← hs _ (.inl List.mem_cons_self)]; exact hb) rfl
        · cases h1
    · cases h
  · cases h

theorem append_agree {ty : TypeId} {k szx : Nat} {b : T} {ys : List AV} (h : aAppend E s m ty k b szx ys = some e) (hm : e.mr = true → m = m2) (hlive : e.kill ≠ [] → s.live = s2.live) (hs : ∀ j, (j ∈ e.new ∨ j ∈ e.use) → s.seen j = s2.seen j) : aAppend E s2 m2 ty k b szx ys = some e := by
  unfold aAppend at h ⊢
  split at h
  · obtain ⟨hb, h1⟩ := bnd_some' h
    refine bnd_mk hb ?_
    split at h1
    · rename_i kb sz xs
      obtain ⟨hb, h2⟩ := bnd_some' h1
      simp only [Option.some.injEq] at h2; subst h2
      refine bnd_mk ?_ rfl
      rw [← hs _ (.inl List.mem_cons_self)]
      cases kb with
      | zero => exact hb
      | succ kb =>
        have := hlive (by show ([kb + 1] : List Nat) ≠ []; simp)
        rw [← this]; exact hb
    · obtain ⟨cs, h2, h3⟩ := Option.bind_eq_some_iff.1 h1
      split at h3
      · split at h3
        · obtain ⟨hb, h4⟩ := bnd_some' h3
          simp only [Option.some.injEq] at h4; subst h4
          obtain rfl := hm rfl
          rename_i hk
          rw [h2, Option.bind_some]
          simp only [*, if_true]
          refine bnd_mk ?_ rfl
          rw [← hs _ (.inl List.mem_cons_self)]; exact hb
        · cases h3
      · cases h3
    · cases h1
  · cases h

theorem aEff_frame (h : aEff E call s m o = some e) (ha : Agree ops o e s m s2 m2) : aEff E call s2 m2 o = some e := by
  have hev : ∀ {x : Operand}, x ∈ o.op.operands.toList → s2.ev x = s.ev x := fun hx => ha.ev hx
  unfold aEff at h ⊢
  simp only at h ⊢
  split at h
  · rename_i y ho
    rw [hev (by simp [ho, Op.operands])]; exact h
  · rename_i y ho
    rw [hev (by simp [ho, Op.operands])]; exact h
  · rename_i c u v ho
    rw [hev (x := c) (by simp [ho, Op.operands]), hev (x := u) (by simp [ho, Op.operands]), hev (x := v) (by simp [ho, Op.operands])]; exact h
  · -- alloc
    rename_i ty ho
    obtain ⟨hg, h1⟩ := bnd_some' h
    refine bnd_mk hg ?_
    cases hr : E.regs.contains (dOp o.dst) with
    | true =>
      rw [hr] at h1
      obtain ⟨hb, h2⟩ := bnd_some' h1
      simp only [Option.some.injEq] at h2; subst h2
      exact bnd_mk (by rw [← ha.seen _ (.inr List.mem_cons_self)]; exact hb) rfl
    | false =>
      rw [hr] at h1
      obtain ⟨hb, h2⟩ := bnd_some' h1
      simp only [Option.some.injEq] at h2; subst h2
      obtain rfl := ha.m rfl
      exact bnd_mk hb rfl
  · -- box
    rename_i ty y ho
    obtain ⟨hg, h1⟩ := bnd_some' h
    refine bnd_mk hg ?_
    rw [hev (by simp [ho, Op.operands])]
    obtain ⟨z, h2, h3⟩ := Option.bind_eq_some_iff.1 h1
    obtain ⟨cs, h4, h5⟩ := Option.bind_eq_some_iff.1 h3
    obtain ⟨hb, h6⟩ := bnd_some' h5
    rw [h2, Option.bind_some, h4, Option.bind_some]
    refine bnd_mk hb ?_
    cases hr : E.regs.contains (dOp o.dst) with
    | true =>
      rw [hr] at h6
      obtain ⟨hb, h7⟩ := bnd_some' h6
      simp only [Option.some.injEq] at h7; subst h7
      exact bnd_mk (by rw [← ha.seen _ (.inr List.mem_cons_self)]; exact hb) rfl
    | false =>
      rw [hr] at h6
      simp only [cond_false, Option.some.injEq] at h6; subst h6
      obtain rfl := ha.m rfl
      rfl
  · -- build
    rename_i ty ps ho
    rw [ha.evs (g := fun (ix : Nat × Operand) => ix.2) (fun x hx => by rw [ho]; simp only [Op.operands, List.mem_map]; exact ⟨x, hx, rfl⟩) (fun ix y => y.map fun y => (ix.1, y))]
    exact h
  · rename_i ty len ps ho
    rw [ha.evs (g := fun (ix : Nat × Operand) => ix.2) (fun x hx => by rw [ho]; simp only [Op.operands, List.mem_map]; exact ⟨x, hx, rfl⟩) (fun ix y => y.map fun y => (ix.1, y))]
    exact h
  · -- load
    rename_i ty p ho
    obtain ⟨hg, h1⟩ := bnd_some' h
    refine bnd_mk hg ?_
    rw [hev (by simp [ho, Op.operands])]
    obtain ⟨z, h2, h3⟩ := Option.bind_eq_some_iff.1 h1
    rw [h2, Option.bind_some]
    exact load_agree h3 ha.lc ha.m
  · -- store
    rename_i ty p y ho
    obtain ⟨hg, h1⟩ := bnd_some' h
    refine bnd_mk hg ?_
    rw [hev (x := p) (by simp [ho, Op.operands]), hev (x := y) (by simp [ho, Op.operands])]
    obtain ⟨z, h2, h3⟩ := Option.bind_eq_some_iff.1 h1
    obtain ⟨z2, h4, h5⟩ := Option.bind_eq_some_iff.1 h3
    rw [h2, Option.bind_some, h4, Option.bind_some]
    exact store_agree h5 ha.lc ha.mp ha.m ha.live
  · -- nilCheck
    rename_i y ho
    rw [hev (by simp [ho, Op.operands])]
    obtain ⟨z, h2, h3⟩ := Option.bind_eq_some_iff.1 h
    rw [h2, Option.bind_some]
    split at h3
    · exact oneR_agree h3 ha.lc
    · exact h3
    · exact h3
    · cases h3
  · -- binOp
    rename_i op ty y z yt ho
    rw [hev (x := y) (by simp [ho, Op.operands]), hev (x := z) (by simp [ho, Op.operands])]; exact h
  · rename_i op ty y ho
    rw [hev (by simp [ho, Op.operands])]; exact h
  · -- convert
    rename_i src ds y ho
    rw [hev (by simp [ho, Op.operands])]
    obtain ⟨z, h2, h3⟩ := Option.bind_eq_some_iff.1 h
    rw [h2, Option.bind_some]
    exact convert_agree h3 ha.lc
  · -- makeFunc
    rename_i f first cap ho
    obtain ⟨hb, h1⟩ := bnd_some' h
    refine bnd_mk hb ?_
    rw [ha.evs (g := fun (x : Operand) => x) (fun x hx => by rw [ho]; simp only [Op.operands, Array.toList_append]; exact List.mem_append_right _ hx) (fun x y => y.bind T.av)]
    exact h1
  · -- makeMap
    rename_i ty ho
    obtain ⟨hb, h1⟩ := bnd_some' h
    simp only [Option.some.injEq] at h1; subst h1
    exact bnd_mk (by rw [← ha.seen _ (.inr List.mem_cons_self)]; exact hb) rfl
  · -- makeSlice
    rename_i ty l c ho
    rw [hev (x := l) (by simp [ho, Op.operands]), hev (x := c) (by simp [ho, Op.operands])]
    obtain ⟨lv, h1, h2⟩ := Option.bind_eq_some_iff.1 h
    obtain ⟨ln, h3, h4⟩ := Option.bind_eq_some_iff.1 h2
    obtain ⟨cv, h5, h6⟩ := Option.bind_eq_some_iff.1 h4
    obtain ⟨cn, h7, h8⟩ := Option.bind_eq_some_iff.1 h6
    obtain ⟨hb, h9⟩ := bnd_some' h8
    rw [h1, Option.bind_some, h3, Option.bind_some, h5, Option.bind_some, h7, Option.bind_some]
    exact bnd_mk hb (makeSlice_agree h9 ha.seen)
  · -- slice
    rename_i ty y lo hi mx ho
    have hb : ∀ (z : Option Operand), (∀ u, z = some u → u ∈ o.op.operands.toList) → (match z with | none => some none | some y => (s2.ev y).bind fun y => (intOf y).map some : Option (Option Int)) = (match z with | none => some none | some y => (s.ev y).bind fun y => (intOf y).map some) := by
      intro z hz
      cases z with
      | none => rfl
      | some u => simp only [hev (hz u rfl)]
    have h1 := hb lo (fun u hu => by subst hu; simp [ho, Op.operands])
    have h2 := hb hi (fun u hu => by subst hu; simp [ho, Op.operands])
    have h3 := hb mx (fun u hu => by subst hu; simp [ho, Op.operands])
    rw [hev (x := y) (by simp [ho, Op.operands])]
    obtain ⟨u, k1, k2⟩ := Option.bind_eq_some_iff.1 h
    obtain ⟨bl, k3, k4⟩ := Option.bind_eq_some_iff.1 k2
    obtain ⟨bh, k5, k6⟩ := Option.bind_eq_some_iff.1 k4
    obtain ⟨bm, k7, k8⟩ := Option.bind_eq_some_iff.1 k6
    rw [k1, Option.bind_some]
    refine Option.bind_eq_some_iff.2 ⟨bl, h1.trans k3, Option.bind_eq_some_iff.2 ⟨bh, h2.trans k5, Option.bind_eq_some_iff.2 ⟨bm, h3.trans k7, oneR_agree k8 ha.lc⟩⟩⟩
  · -- fieldAddr
    rename_i ty y fi ho
    rw [hev (by simp [ho, Op.operands])]
    obtain ⟨z, h2, h3⟩ := Option.bind_eq_some_iff.1 h
    rw [h2, Option.bind_some]
    exact oneR_agree h3 ha.lc
  · -- indexAddr
    rename_i ty y i ho
    rw [hev (x := y) (by simp [ho, Op.operands]), hev (x := i) (by simp [ho, Op.operands])]
    obtain ⟨u, h1, h2⟩ := Option.bind_eq_some_iff.1 h
    obtain ⟨iv, h3, h4⟩ := Option.bind_eq_some_iff.1 h2
    obtain ⟨n, h5, h6⟩ := Option.bind_eq_some_iff.1 h4
    rw [h1, Option.bind_some, h3, Option.bind_some, h5, Option.bind_some]
    exact oneR_agree h6 ha.lc
  · -- index
    rename_i ty y i ho
    rw [hev (x := y) (by simp [ho, Op.operands]), hev (x := i) (by simp [ho, Op.operands])]; exact h
  · -- lookup
    rename_i ty y k ok ho
    rw [hev (x := y) (by simp [ho, Op.operands]), hev (x := k) (by simp [ho, Op.operands])]
    obtain ⟨u, h1, h2⟩ := Option.bind_eq_some_iff.1 h
    obtain ⟨v, h3, h4⟩ := Option.bind_eq_some_iff.1 h2
    rw [h1, Option.bind_some, h3, Option.bind_some]
    exact lookup_agree h4 ha.mp
  · -- mapUpdate
    rename_i ty y k z ho
    rw [hev (x := y) (by simp [ho, Op.operands]), hev (x := k) (by simp [ho, Op.operands]), hev (x := z) (by simp [ho, Op.operands])]
    obtain ⟨u, h1, h2⟩ := Option.bind_eq_some_iff.1 h
    obtain ⟨v, h3, h4⟩ := Option.bind_eq_some_iff.1 h2
    obtain ⟨t, h5, h6⟩ := Option.bind_eq_some_iff.1 h4
    rw [h1, Option.bind_some, h3, Option.bind_some, h5, Option.bind_some]
    exact mapUpdate_agree h6 ha.mp
  · -- insert
    rename_i ty y k z ho
    rw [hev (x := y) (by simp [ho, Op.operands]), hev (x := k) (by simp [ho, Op.operands]), hev (x := z) (by simp [ho, Op.operands])]
    obtain ⟨u, h1, h2⟩ := Option.bind_eq_some_iff.1 h
    obtain ⟨v, h3, h4⟩ := Option.bind_eq_some_iff.1 h2
    obtain ⟨t, h5, h6⟩ := Option.bind_eq_some_iff.1 h4
    rw [h1, Option.bind_some, h3, Option.bind_some, h5, Option.bind_some]
    exact mapUpdate_agree h6 ha.mp
  · -- range
    rename_i ty y ho
    rw [hev (by simp [ho, Op.operands])]
    obtain ⟨u, h1, h2⟩ := Option.bind_eq_some_iff.1 h
    rw [h1, Option.bind_some]
    split at h2
    · obtain ⟨hb, h3⟩ := bnd_some' h2
      simp only [Option.some.injEq] at h3; subst h3
      exact bnd_mk (by rw [← ha.seen _ (.inr List.mem_cons_self)]; exact hb) rfl
    · cases h2
  · -- next
    rename_i y ho
    rw [hev (by simp [ho, Op.operands])]
    obtain ⟨u, h1, h2⟩ := Option.bind_eq_some_iff.1 h
    rw [h1, Option.bind_some]
    split at h2
    · rename_i t
      obtain ⟨⟨l, p⟩, h3, h4⟩ := Option.map_eq_some_iff.1 h2
      have : e.ir = [t] := by
        cases hb : Nat.blt p l.length <;> (rw [← h4]; simp only [hb])
      rw [← ha.it t (by rw [this]; exact List.mem_cons_self), h3, Option.map_some]
      exact congrArg some h4
    · cases h2
  · -- extract
    rename_i y i ho
    rw [hev (by simp [ho, Op.operands])]; exact h
  · -- call
    rename_i c ho
    obtain ⟨as, h1, h2⟩ := Option.bind_eq_some_iff.1 h
    have hargs : c.args.toList.mapM s2.ev = some as := by
      rw [← h1]
      exact ha.evs (g := fun (x : Operand) => x) (fun x hx => by rw [ho]; unfold Op.operands Call.operands; rw [Array.toList_append]; exact List.mem_append_right _ hx) (fun x y => y)
    rw [hargs, Option.bind_some]
    split at h2
    · split at h2
      · exact oneR_agree h2 ha.lc
      · cases h2
    · exact h2
    · exact h2
    · split at h2
      · obtain ⟨hb, h3⟩ := bnd_some' h2
        refine bnd_mk hb ?_
        split at h3
        · obtain ⟨cs, h4, h5⟩ := Option.bind_eq_some_iff.1 h3
          obtain ⟨ys, h6, h7⟩ := Option.bind_eq_some_iff.1 h5
          obtain ⟨e', h8, rfl⟩ := Option.map_eq_some_iff.1 h7
          rw [← ha.lc _ List.mem_cons_self, h4, Option.bind_some, h6, Option.bind_some, append_agree h8 ha.m ha.live ha.seen]
          rfl
        · exact append_agree h3 ha.m ha.live ha.seen
        · obtain ⟨⟨sz, ys⟩, h4, h5⟩ := Option.bind_eq_some_iff.1 h3
          rw [h4, Option.bind_some]
          exact append_agree h5 ha.m ha.live ha.seen
      · cases h2
    · split at h2
      · obtain ⟨hb, h3⟩ := bnd_some' h2
        refine bnd_mk hb ?_
        obtain ⟨cs, h4, h5⟩ := Option.bind_eq_some_iff.1 h3
        obtain ⟨cs', h6, h7⟩ := Option.bind_eq_some_iff.1 h5
        obtain ⟨hb2, h8⟩ := bnd_some' h7
        simp only [Option.some.injEq] at h8; subst h8
        rw [← ha.lc _ List.mem_cons_self, h4, Option.bind_some, ← ha.lc _ (List.mem_cons_of_mem _ List.mem_cons_self), h6, Option.bind_some]
        exact bnd_mk hb2 rfl
      · cases h2
    · rename_i fo hcal
      rw [hev (by rw [ho]; show fo ∈ c.operands.toList; unfold Call.operands; rw [hcal]; simp)]
      obtain ⟨fv, h3, h4⟩ := Option.bind_eq_some_iff.1 h2
      rw [h3, Option.bind_some]
      split at h4
      · obtain ⟨⟨xs, ls, ps⟩, h5, h6⟩ := Option.bind_eq_some_iff.1 h4
        obtain ⟨hb, h7⟩ := bnd_some' h6
        obtain ⟨⟨r, m'⟩, h8, rfl⟩ := Option.map_eq_some_iff.1 h7
        obtain rfl := ha.m rfl
        rw [escs_agree h5 ha.lc ha.mp, Option.bind_some]
        refine bnd_mk hb ?_
        rw [h8]; rfl
      · cases h4
    · cases h2
  · -- defer
    rename_i c ho
    split at h
    · rename_i fo hcal hargs
      rw [hev (by rw [ho]; show fo ∈ c.operands.toList; unfold Call.operands; rw [hcal]; simp)]
      exact h
    · cases h
  · cases h

end Go.Ax
/- Ax: two operations that are apart may change places. -/
set_option linter.unusedVariables false
set_option linter.unusedSimpArgs false
namespace Go.Ax

variable {E : Env} {call : CallT} {ops : Array Oper}

structure ApartP (a b : Eff) : Prop where
  l1 : ∀ x ∈ a.lw, x.1 ∉ b.lr ∧ ∀ y ∈ b.lw, x.1 ≠ y.1
  l2 : ∀ x ∈ b.lw, x.1 ∉ a.lr
  p1 : ∀ x ∈ a.pw, x.1 ∉ b.pr ∧ ∀ y ∈ b.pw, x.1 ≠ y.1
  p2 : ∀ x ∈ b.pw, x.1 ∉ a.pr
  i1 : ∀ x ∈ a.iw, x.1 ∉ b.ir ∧ ∀ y ∈ b.iw, x.1 ≠ y.1
  i2 : ∀ x ∈ b.iw, x.1 ∉ a.ir
  m1 : a.mw = none ∨ (b.mr = false ∧ b.mw = none)
  m2 : b.mw = none ∨ a.mr = false
  tk : (a.kill = [] ∧ a.new = []) ∨ (b.kill = [] ∧ b.new = [])
  df : a.df = [] ∨ b.df = []
  u1 : ∀ k ∈ a.use, k ∉ b.use ∧ k ∉ b.new
  u2 : ∀ k ∈ b.use, k ∉ a.new

theorem beq_false_ne {j k : Nat} (h : (!(Nat.beq j k)) = true) : j ≠ k := by
  rintro rfl
  simp at h

theorem apartE_spec {a b : Eff} (h : apartE a b = true) : ApartP a b := by
  unfold apartE at h
  simp only [Bool.and_eq_true, List.all_eq_true, Bool.or_eq_true, Bool.not_eq_true', List.contains_eq_mem, decide_eq_false_iff_not, List.isEmpty_iff, Option.isSome_eq_false_iff, Option.isNone_iff_eq_none] at h
  obtain ⟨⟨⟨⟨⟨⟨⟨⟨⟨⟨⟨h1, h2⟩, h3⟩, h4⟩, h5⟩, h6⟩, h7⟩, h8⟩, h9⟩, h10⟩, h11⟩, h12⟩ := h
  exact ⟨fun x hx => ⟨(h1 x hx).1, fun y hy => beq_false_ne (by rw [(h1 x hx).2 y hy]; rfl)⟩, fun x hx => h2 x hx, fun x hx => ⟨(h3 x hx).1, fun y hy => beq_false_ne (by rw [(h3 x hx).2 y hy]; rfl)⟩, fun x hx => h4 x hx,
    fun x hx => ⟨(h5 x hx).1, fun y hy => beq_false_ne (by rw [(h5 x hx).2 y hy]; rfl)⟩, fun x hx => h6 x hx, h7, h8, h9, h10, fun k hk => h11 k hk, fun k hk => h12 k hk⟩

theorem updL_none {α : Type} (f : Nat → α) : ∀ {l : List (Nat × α)} {j : Nat}, (∀ x ∈ l, x.1 ≠ j) → updL f l j = f j
  | [], _, _ => rfl
  | (k, x) :: r, j, h => by
    have : j ≠ k := fun e => h _ List.mem_cons_self e.symm
    have hb : Nat.beq j k = false := by
      cases hb : Nat.beq j k with
      | false => rfl
      | true => exact absurd (Nat.eq_of_beq_eq_true hb) this
    simp only [updL, hb, cond_false]
    exact updL_none f fun y hy => h y (List.mem_cons_of_mem _ hy)

theorem updL_some {α : Type} (f g : Nat → α) : ∀ {l : List (Nat × α)} {j : Nat}, (∃ x ∈ l, x.1 = j) → updL f l j = updL g l j
  | [], _, ⟨_, h, _⟩ => by cases h
  | (k, x) :: r, j, ⟨y, hy, e⟩ => by
    simp only [updL]
    cases hb : Nat.beq j k with
    | true => rfl
    | false =>
      simp only [cond_false]
      rcases List.mem_cons.1 hy with rfl | hy
      · simp only at e; subst e; simp at hb
      · exact updL_some f g ⟨y, hy, e⟩

theorem updL_comm {α : Type} (f : Nat → α) {a b : List (Nat × α)} (h : ∀ x ∈ a, ∀ y ∈ b, x.1 ≠ y.1) : updL (updL f a) b = updL (updL f b) a := by
  funext j
  by_cases hb : ∃ y ∈ b, y.1 = j
  · have ha : ∀ x ∈ a, x.1 ≠ j := by
      obtain ⟨y, hy, e⟩ := hb
      intro x hx e'
      exact h x hx y hy (e'.trans e.symm)
    rw [updL_none (updL f b) ha]
    exact updL_some _ _ hb
  · have hb' : ∀ y ∈ b, y.1 ≠ j := fun y hy e => hb ⟨y, hy, e⟩
    rw [updL_none _ hb']
    by_cases ha : ∃ x ∈ a, x.1 = j
    · exact updL_some _ _ ha
    · have ha' : ∀ x ∈ a, x.1 ≠ j := fun x hx e => ha ⟨x, hx, e⟩
      rw [updL_none _ ha', updL_none _ ha', updL_none _ hb']

theorem putT_comm (f : Nat → T) {a b : Option Tmp} (h : ∀ d, a = some d → b ≠ some d) (x y : T) : putT (putT f a x) b y = putT (putT f b y) a x := by
  cases a with
  | none => rfl
  | some i =>
    cases b with
    | none => rfl
    | some j =>
      have hij : i ≠ j := fun e => h i rfl (by rw [e])
      funext k
      show upd (upd f i x) j y k = upd (upd f j y) i x k
      unfold upd
      cases h1 : Nat.beq k i with
      | false => rfl
      | true =>
        have e1 := Nat.eq_of_beq_eq_true h1
        cases h2 : Nat.beq k j with
        | false => rfl
        | true =>
          have e2 := Nat.eq_of_beq_eq_true h2
          exact absurd (e1.symm.trans e2) hij

theorem put_comm (s : St) {a b : Eff} (h : ApartP a b) {i j : Option Tmp} (hd : ∀ d, i = some d → j ≠ some d) : (s.put i a).put j b = (s.put j b).put i a := by
  unfold St.put
  simp only [St.mk.injEq]
  refine ⟨putT_comm _ hd _ _, updL_comm _ fun x hx y hy => (h.l1 x hx).2 y hy, updL_comm _ fun x hx y hy => (h.p1 x hx).2 y hy, updL_comm _ fun x hx y hy => (h.i1 x hx).2 y hy, ?_, ?_, ?_⟩
  · funext k
    rcases h.tk with ⟨h1, h2⟩ | ⟨h1, h2⟩
    · simp [h1, h2]
    · simp [h1, h2]
  · funext k
    cases a.new.contains k <;> cases a.use.contains k <;> cases b.new.contains k <;> cases b.use.contains k <;> rfl
  · rcases h.df with h1 | h1 <;> simp [h1]

theorem mw_comm {a b : Eff} (h : ApartP a b) (m : AMem) : b.mw.getD (a.mw.getD m) = a.mw.getD (b.mw.getD m) := by
  rcases h.m1 with h1 | ⟨_, h1⟩
  · rw [h1]; rfl
  · rw [h1]; rfl

theorem aStep_spec {o : Oper} {s s1 : St} {m m1 : AMem} {e : Eff} (h : aStep E call ops o (s, m) = some (s1, m1, e)) : s1 = s.put o.dst e ∧ m1 = e.mw.getD m := by
  unfold aStep at h
  obtain ⟨_, h1⟩ := bnd_some' h
  obtain ⟨b, _, h2⟩ := Option.bind_eq_some_iff.1 h1
  cases b with
  | true =>
    obtain ⟨e', _, h3⟩ := Option.map_eq_some_iff.1 h2
    simp only [Prod.mk.injEq] at h3
    obtain ⟨rfl, rfl, rfl⟩ := h3
    exact ⟨rfl, rfl⟩
  | false =>
    simp only [Option.some.injEq, Prod.mk.injEq] at h2
    obtain ⟨rfl, rfl, rfl⟩ := h2
    exact ⟨rfl, rfl⟩

theorem aStep_frame {o : Oper} {s s1 s2 : St} {m m1 m2 : AMem} {e : Eff} (h : aStep E call ops o (s, m) = some (s1, m1, e)) (ha : Agree ops o e s m s2 m2) : aStep E call ops o (s2, m2) = some (s2.put o.dst e, e.mw.getD m2, e) := by
  unfold aStep at h ⊢
  obtain ⟨hd, h1⟩ := bnd_some' h
  refine bnd_mk hd ?_
  obtain ⟨b, hw, h2⟩ := Option.bind_eq_some_iff.1 h1
  have hw2 : wantedA ops s2 o = some b := by
    rw [← hw]
    unfold wantedA
    split
    · rfl
    · rename_i j want hg
      split
      · rfl
      · rename_i t ht
        have := ha.tm t (by unfold Oper.looksAt; rw [hg]; exact List.mem_append_right _ (by show t ∈ ((ops[j]?).bind (·.dst)).toList; rw [ht]; simp))
        rw [this]
  rw [hw2, Option.bind_some]
  cases b with
  | true =>
    obtain ⟨e', h3, h4⟩ := Option.map_eq_some_iff.1 h2
    simp only [Prod.mk.injEq] at h4
    obtain ⟨_, _, rfl⟩ := h4
    simp only
    rw [aEff_frame h3 ha]; rfl
  | false =>
    simp only [Option.some.injEq, Prod.mk.injEq] at h2
    obtain ⟨_, _, rfl⟩ := h2
    rfl

theorem putT_other (f : Nat → T) {a : Option Tmp} {t : Nat} (h : a ≠ some t) (x : T) : putT f a x t = f t := by
  cases a with
  | none => rfl
  | some i =>
    show upd f i x t = f t
    unfold upd
    cases hb : Nat.beq t i with
    | false => rfl
    | true => exact absurd (by rw [Nat.eq_of_beq_eq_true hb]) h

/-- What an operation leaves of what another reads. -/
theorem agree_put {x z : Oper} {s : St} {m : AMem} {ex ez : Eff} (ht : ∀ d, x.dst = some d → d ∉ z.looksAt ops) (hl : ∀ y ∈ ex.lw, y.1 ∉ ez.lr) (hp : ∀ y ∈ ex.pw, y.1 ∉ ez.pr) (hi : ∀ y ∈ ex.iw, y.1 ∉ ez.ir) (hm : ex.mw = none ∨ ez.mr = false) (hk : (ex.kill = [] ∧ ex.new = []) ∨ (ez.kill = [] ∧ ez.new = []))
    (hu : ∀ k ∈ ez.use, k ∉ ex.use ∧ k ∉ ex.new) (hn : ∀ k ∈ ez.new, k ∉ ex.use) : Agree ops z ez s m (s.put x.dst ex) (ex.mw.getD m) ∧ Agree ops z ez (s.put x.dst ex) (ex.mw.getD m) s m := by
  have a : Agree ops z ez s m (s.put x.dst ex) (ex.mw.getD m) := by
    refine ⟨fun t h => ?_, fun t h => ?_, fun t h => ?_, fun t h => ?_, fun h => ?_, fun h => ?_, fun k h => ?_⟩
    · exact (putT_other _ (fun e => ht t e h) _).symm
    · exact (updL_none _ fun y hy e => hl y hy (e ▸ h)).symm
    · exact (updL_none _ fun y hy e => hp y hy (e ▸ h)).symm
    · exact (updL_none _ fun y hy e => hi y hy (e ▸ h)).symm
    · rcases hm with hm | hm
      · rw [hm]; rfl
      · rw [h] at hm; cases hm
    · rcases hk with ⟨h1, h2⟩ | ⟨h1, h2⟩
      · funext k; simp [St.put, h1, h2]
      · exact absurd h1 h
    · have hnu : k ∉ ex.use ∧ k ∉ ex.new := by
        rcases h with h | h
        · refine ⟨hn k h, ?_⟩
          rcases hk with ⟨h1, h2⟩ | ⟨h1, h2⟩
          · rw [h2]; simp
          · rw [h2] at h; cases h
        · exact hu k h
      simp [St.put, hnu.1, hnu.2]
  exact ⟨a, ⟨fun t h => (a.tm t h).symm, fun t h => (a.lc t h).symm, fun t h => (a.mp t h).symm, fun t h => (a.it t h).symm, fun h => (a.m h).symm, fun h => (a.live h).symm, fun k h => (a.seen k h).symm⟩⟩

/-- Two operations that are apart change places. -/
theorem swap {x z : Oper} {s s1 s2 : St} {m m1 m2 : AMem} {ex ez : Eff} (hx : aStep E call ops x (s, m) = some (s1, m1, ex)) (hz : aStep E call ops z (s1, m1) = some (s2, m2, ez)) (ha : ApartP ex ez) (ht : x.apart ops z = true) :
    ∃ s1' m1', aStep E call ops z (s, m) = some (s1', m1', ez) ∧ aStep E call ops x (s1', m1') = some (s2, m2, ex) := by
  obtain ⟨rfl, rfl⟩ := aStep_spec hx
  obtain ⟨rfl, rfl⟩ := aStep_spec hz
  obtain ⟨t1, t2, t3⟩ := Oper.apart_spec ht
  have hz' := aStep_frame hz (agree_put (x := x) (z := z) (s := s) (m := m) (ex := ex) (ez := ez) t1 (fun y hy => (ha.l1 y hy).1) (fun y hy => (ha.p1 y hy).1) (fun y hy => (ha.i1 y hy).1) (ha.m1.imp id And.left) ha.tk (fun k hk => ⟨fun h => (ha.u1 k h).1 hk, ha.u2 k hk⟩) (fun k hk h => (ha.u1 k h).2 hk)).2
  have hx' := aStep_frame hx (agree_put (x := z) (z := x) (s := s) (m := m) (ex := ez) (ez := ex) t3 ha.l2 ha.p2 ha.i2 ha.m2 ha.tk.symm (fun k hk => ⟨(ha.u1 k hk).1, (ha.u1 k hk).2⟩) (fun k hk h => ha.u2 k h hk)).1
  refine ⟨_, _, hz', ?_⟩
  rw [hx', put_comm s ha t2, mw_comm ha m]

end Go.Ax
/- Ax: any order that the edges allow. -/
set_option linter.unusedVariables false
set_option linter.unusedSimpArgs false
namespace Go.Ax

variable {E : Env} {call : CallT} {ops : Array Oper}

theorem fold_bit {acc : List Nat} {j : Nat} : ∀ {l : List Edge} {s : Nat}, (l.foldl (fun s e => bif Region.binds .any e then s ||| 2 ^ e.on ||| acc.getD e.on 0 else s) s).testBit j = true →
    s.testBit j = true ∨ ∃ e ∈ l, Region.binds .any e = true ∧ (e.on = j ∨ (acc.getD e.on 0).testBit j = true)
  | [], s, h => .inl h
  | e :: l, s, h => by
    simp only [List.foldl_cons] at h
    rcases fold_bit h with h1 | ⟨e', h1, h2⟩
    · cases hb : Region.binds .any e with
      | false => rw [hb] at h1; exact .inl h1
      | true =>
        rw [hb] at h1
        simp only [cond_true, Nat.testBit_or, Bool.or_eq_true, Nat.testBit_two_pow, decide_eq_true_eq] at h1
        rcases h1 with (h1 | h1) | h1
        · exact .inl h1
        · exact .inr ⟨e, List.mem_cons_self, hb, .inl h1⟩
        · exact .inr ⟨e, List.mem_cons_self, hb, .inr h1⟩
    · exact .inr ⟨e', List.mem_cons_of_mem _ h1, h2⟩

/-- What a bit set says. -/
def BefP (os : List Oper) (bs : List Nat) : Prop := ∀ (i b j : Nat), bs[i]? = some b → b.testBit j = true → ∃ o, os[i]? = some o ∧ ∃ e ∈ o.after.toList, Region.binds .any e = true ∧ (e.on = j ∨ ∃ b', bs[e.on]? = some b' ∧ b'.testBit j = true ∧ e.on < i)

theorem befGo_ok : ∀ (l don : List Oper) (acc : List Nat), acc.length = don.length → BefP (don ++ l) acc → BefP (don ++ l) (befGo l acc)
  | [], don, acc, _, h => h
  | o :: l, don, acc, hl, h => by
    simp only [befGo]
    have := befGo_ok l (don ++ [o]) (acc ++ [o.after.toList.foldl (fun s e => bif Region.binds .any e then s ||| 2 ^ e.on ||| acc.getD e.on 0 else s) 0]) (by simp [hl]) (by
      intro i b j hi hb
      simp only [List.append_assoc, List.singleton_append]
      have keep : ∀ {i b : Nat}, acc[i]? = some b → (acc ++ [o.after.toList.foldl (fun s e => bif Region.binds .any e then s ||| 2 ^ e.on ||| acc.getD e.on 0 else s) 0])[i]? = some b := by
        intro i b hi
        have : i < acc.length := (List.getElem?_eq_some_iff.1 hi).1
        rw [List.getElem?_append_left this, hi]
      by_cases hlt : i < acc.length
      · rw [List.getElem?_append_left hlt] at hi
        obtain ⟨o', h1, e, h2, h3, h4⟩ := h i b j hi hb
        exact ⟨o', h1, e, h2, h3, h4.imp id fun ⟨b', q1, q2, q3⟩ => ⟨b', keep q1, q2, q3⟩⟩
      · have hi' : i = acc.length := by
          have := (List.getElem?_eq_some_iff.1 hi).1
          simp at this; omega
        subst hi'
        simp only [List.getElem?_append_right (Nat.le_refl _), Nat.sub_self, List.getElem?_cons_zero, Option.some.injEq] at hi
        subst hi
        rcases fold_bit hb with h1 | ⟨e, h1, h2, h3⟩
        · simp at h1
        · refine ⟨o, by rw [hl]; simp, e, h1, h2, h3.imp id fun h3 => ?_⟩
          rw [List.getD_eq_getElem?_getD] at h3
          cases hq : acc[e.on]? with
          | none => rw [hq] at h3; simp at h3
          | some b' =>
            rw [hq] at h3
            exact ⟨b', keep hq, h3, (List.getElem?_eq_some_iff.1 hq).1⟩)
    simpa only [List.append_assoc, List.singleton_append] using this

def Closed (ops : Array Oper) (listed : Array Bool) : Prop := ∀ k, listed.getD k false = true → ∀ o, ops[k]? = some o → ∀ e ∈ o.after, Region.binds .any e = true → listed.getD e.on false = true

theorem bef_listed {bs : List Nat} (hb : BefP ops.toList bs) {listed : Array Bool} (hc : Closed ops listed) : ∀ (i : Nat), (∀ o, ops[i]? = some o → ∀ e ∈ o.after, Region.binds .any e = true → listed.getD e.on false = true) → ∀ b j, bs[i]? = some b → b.testBit j = true → listed.getD j false = true := by
  intro i
  induction i using Nat.strongRecOn with
  | _ i ih =>
    intro hr b j hi hj
    obtain ⟨o, h1, e, h2, h3, h4⟩ := hb i b j hi hj
    have hon := hr o (by simpa using h1) e (by simpa using h2) h3
    rcases h4 with rfl | ⟨b', q1, q2, q3⟩
    · exact hon
    · exact ih e.on q3 (fun o' ho' e' he' hb' => hc e.on hon o' ho' e' he' hb') b' j q1 q2

theorem edgesDown_ok : ∀ {l : List Oper} {k : Nat}, edgesDown k l = true → ∀ i o, l[i]? = some o → ∀ e ∈ o.after, Region.binds .any e = true → e.on < k + i
  | [], _, _, i, o, h => by simp at h
  | o :: l, k, h, i, o', hi => by
    simp only [edgesDown, Bool.and_eq_true, List.all_eq_true, Bool.or_eq_true, Bool.not_eq_true'] at h
    cases i with
    | zero =>
      simp at hi; subst hi
      intro e he hb
      rcases h.1 e (by simpa using he) with h1 | h1
      · rw [hb] at h1; cases h1
      · simp [Nat.blt] at h1; omega
    | succ i =>
      intro e he hb
      have := edgesDown_ok h.2 i o' (by simpa using hi) e he hb
      omega

abbrev Zt := Nat × Oper × Eff

/-- A run of what is left. -/
def RunZ (E : Env) (call : CallT) (ops : Array Oper) : List Zt → St × AMem → St × AMem → Prop
  | [], sm, fin => sm = fin
  | z :: r, sm, fin => ∃ s1 m1, aStep E call ops z.2.1 sm = some (s1, m1, z.2.2) ∧ RunZ E call ops r (s1, m1) fin

theorem extract {z : Zt} : ∀ {pre post : List Zt} {sm fin : St × AMem}, (∀ y ∈ pre, ApartP y.2.2 z.2.2 ∧ y.2.1.apart ops z.2.1 = true) → RunZ E call ops (pre ++ z :: post) sm fin → ∃ s1 m1, aStep E call ops z.2.1 sm = some (s1, m1, z.2.2) ∧ RunZ E call ops (pre ++ post) (s1, m1) fin
  | [], post, sm, fin, _, h => h
  | y :: pre, post, sm, fin, ha, h => by
    obtain ⟨s1, m1, h1, h2⟩ := h
    obtain ⟨s2, m2, h3, h4⟩ := extract (fun y hy => ha y (List.mem_cons_of_mem _ hy)) h2
    obtain ⟨a1, a2⟩ := ha y List.mem_cons_self
    obtain ⟨s3, m3, h5, h6⟩ := swap (s := sm.1) (m := sm.2) h1 h3 a1 a2
    exact ⟨s3, m3, h5, s2, m2, h6, h4⟩

theorem run_Z : ∀ {l : List Oper} {s s' : St} {m m' : AMem} {es : List Eff} (k : Nat), runOps E call ops l (s, m) = some (s', m', es) → es.length = l.length ∧ RunZ E call ops ((List.range' k l.length).zip (l.zip es)) (s, m) (s', m')
  | [], s, s', m, m', es, k, h => by
    simp only [runOps, Option.some.injEq, Prod.mk.injEq] at h
    obtain ⟨rfl, rfl, rfl⟩ := h
    exact ⟨rfl, rfl⟩
  | o :: r, s, s', m, m', es, k, h => by
    simp only [runOps] at h
    obtain ⟨⟨s1, m1, e⟩, h1, h2⟩ := Option.bind_eq_some_iff.1 h
    obtain ⟨⟨s2, m2, es'⟩, h3, h4⟩ := Option.map_eq_some_iff.1 h2
    simp only [Prod.mk.injEq] at h4
    obtain ⟨rfl, rfl, rfl⟩ := h4
    obtain ⟨g1, g2⟩ := run_Z (k + 1) h3
    refine ⟨by simp [g1], ?_⟩
    rw [List.length_cons, List.range'_succ, List.zip_cons_cons, List.zip_cons_cons]
    exact ⟨s1, m1, h1, g2⟩

end Go.Ax
