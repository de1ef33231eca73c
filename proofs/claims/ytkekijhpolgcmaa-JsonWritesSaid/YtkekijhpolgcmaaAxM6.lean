/- The machine Ax, part AxM6: its steps and why they are sound. -/
import Derived.Test.YtkekijhpolgcmaaAxM5
/- Ax: an operation does what the machine says: all of them. -/
set_option linter.unusedVariables false
set_option linter.unusedSimpArgs false
namespace Go.Ax
open Go.RowKit
variable {P : Program} {ti : Nat → TI}
variable {nt N d : Nat} {s : St} {m : AMem} {H : Hp} {lam : Nat → Option Nat} {a : Act} {w w0 : World}
variable {Hi : Hp} {mi : AMem} {wi : World} {K : Act → World → Prop} {Q : Exit → Act → World → Prop}

theorem VL_append : ∀ {xs ys : List AV} {us vs : List Value}, VL H xs us → VL H ys vs → VL H (xs ++ ys) (us ++ vs)
  | [], ys, us, vs, h, h2 => by obtain rfl := h; simpa using h2
  | x :: xs, ys, us, vs, ⟨u, us', e, h1, h3⟩, h2 => by subst e; exact ⟨u, _, rfl, h1, VL_append h3 h2⟩

theorem evs_ok (hf : Fr nt N d s m H lam a w) {l : Array Operand} {as : List T} (h : l.toList.mapM s.ev = some as) : All2 (VT d H m w lam s) as (l.map a.eval).toList := by
  rw [Array.toList_map]
  exact mapM_all2 (fun x y hx => ev_ok hf hx) h

theorem parts_ok (hf : Fr nt N d s m H lam a w) {l : Array (Nat × Operand)} {ps : List (Nat × T)} (h : (l.toList.mapM fun (ix : Nat × Operand) => (s.ev ix.2).map fun y => (ix.1, y)) = some ps) : All2 (fun p q => p.1 = q.1 ∧ VT d H m w lam s p.2 q.2) ps (l.map fun (i, x) => (i, a.eval x)).toList := by
  rw [Array.toList_map]
  refine mapM_all2 (fun x y hx => ?_) h
  obtain ⟨z, h1, rfl⟩ := Option.map_eq_some_iff.1 hx
  exact ⟨rfl, ev_ok hf h1⟩

theorem execCall {o : Oper} {c : Call} (ho : o.op = .call c) {b : Builtin} (hc : c.callee = .builtin b) : execOp a.eval o = builtin b c.argTypes o.type (c.args.map fun | .const _ => true | _ => false) (c.args.map a.eval) := by
  simp only [execOp, ho, resolve, hc]; rfl

/-- A call of a function value. -/
theorem call_sound {call : CallT} (hco : CallOk P w0 (d + 1) call) (hw : WOk w0 H m w) (hf : Fr nt N d s m H lam a w) (x : Ext d N Hi mi wi H m w) (hN : N ≤ w.heap.size) (hB : w0.heap.size ≤ N) {o : Oper} {c : Call} {fo : Operand} (ho : o.op = .call c) (hc : c.callee = .value fo)
    (hd : dstOk nt o.dst = true) {f : FuncId} {cap : List AV} (hfv : s.ev fo = some (.v (.fn f cap))) {as : List T} (has : c.args.toList.mapM s.ev = some as) {xs : List AV} {ls ps : List Nat} (hes : escs s as = some (xs, ls, ps)) (hdl : distinct ls = true) (hdp : distinct ps = true)
    {r : AV} {m' : AMem} (hr : call f (xs ++ cap) m = some (r, m')) {e : Eff} (he : e = { val := .v r, mr := true, mw := some m', lr := ls, lw := closeL ls, pr := ps, pw := closeP ps })
    (hK : ∀ a' w', Inv nt N d w0 Hi mi wi (s.put o.dst e) (e.mw.getD m) a' w' → K a' w') : o.wp P a w K Q := by
  subst he
  obtain ⟨H1, g1, g2, g3, g4, g5⟩ := escs_ok hB d hw hf hes hdl hdp (evs_ok hf has)
  obtain ⟨vs, q1, q2⟩ := ev_ok hf hfv
  have hruns := hco f (xs ++ cap) m r m' hr H1 w _ g1 (VL_append g4 (VL_mono g2.hle _ _ q2))
  have hexec : execOp a.eval o = callFunc f ((c.args.map a.eval).toList ++ vs).toArray := by
    simp only [execOp, ho, resolve, hc, q1, Deferred.ofValue]
    show invoke (.fn (.func f) vs.toArray) (#[] ++ c.args.map a.eval) = _
    simp only [invoke, Array.empty_append]
    congr 1
    apply Array.toList_inj.1
    simp
  have fin : ∀ v w', (∃ H', WOk w0 H' m' w' ∧ Ext (d + 1) w.heap.size H1 m w H' m' w' ∧ V H' r v) → K (a.put o.dst v) w' := by
    rintro v w' ⟨H', k1, k2, k3⟩
    refine hK _ _ ?_
    have hf' := g3.ext k2 (Nat.le_refl _)
    have e1 : ∀ mm b1 l1 p1, s.put o.dst { val := .v r, mr := b1, mw := mm, lr := l1, lw := closeL ls, pr := p1, pw := closeP ps } = (closeS s ls ps).put o.dst { val := .v r } := fun mm b1 l1 p1 => (put_close s ls ps o.dst { val := .v r }).symm
    rw [e1, put_val]
    exact ⟨H', lam, k1, hf'.put (x := .v r) k3 hd, (x.trans g2).trans (k2.weaken (Nat.le_succ d) hN), Nat.le_trans hN k2.size⟩
  rcases hruns with ⟨v, w', h1, h2⟩ | ⟨h1, h2⟩
  · exact wp_value (by rw [hexec]; exact h1) (fin v w' h2)
  · unfold Oper.wp
    rw [hexec, h1]
    refine Calls.mono h2 fun e w' he => ?_
    cases e with
    | returned v => exact fin v w' he
    | panicked chain => exact he.elim
    | outgrown => exact he.elim

end Go.Ax
/- Ax: op_sound. -/
set_option linter.unusedVariables false
set_option linter.unusedSimpArgs false
namespace Go.Ax
open Go.RowKit
variable {P : Program} {ti : Nat → TI}
variable {nt N d : Nat} {s : St} {m : AMem} {H : Hp} {lam : Nat → Option Nat} {a : Act} {w w0 : World}
variable {Hi : Hp} {mi : AMem} {wi : World} {K : Act → World → Prop} {Q : Exit → Act → World → Prop}

theorem bnd_ok (hf : Fr nt N d s m H lam a w) {y : Option Operand} {b : Option Int} (h : (match y with | none => some none | some y => (s.ev y).bind fun y => (intOf y).map some : Option (Option Int)) = some b) : BV (y.map a.eval) b := by
  split at h
  · injection h with h; subst h; trivial
  · obtain ⟨z, h1, h2⟩ := Option.bind_eq_some_iff.1 h
    obtain ⟨n, h3, rfl⟩ := Option.map_eq_some_iff.1 h2
    exact intOf_ok h3 (ev_ok hf h1)

theorem builtin_v {o : Oper} {x : Sem Value} (h : execOp a.eval o = (do pure (.value (← x)))) : execOp a.eval o = (do pure (.value (← x))) := h

theorem op_sound (E : Env) (hnt : E.nt = nt) (hti : TysOk P E.ti) {call : CallT} (hco : CallOk P w0 (d + 1) call) (hw : WOk w0 H m w) (hf : Fr nt N d s m H lam a w) (x : Ext d N Hi mi wi H m w) (hN : N ≤ w.heap.size) (hB : w0.heap.size ≤ N) {o : Oper} {e : Eff} (h : aEff E call s m o = some e) (hd : dstOk nt o.dst = true)
    (hK : ∀ a' w', Inv nt N d w0 Hi mi wi (s.put o.dst e) (e.mw.getD m) a' w' → K a' w') : o.wp P a w K Q := by
  have ev : ∀ {x : Operand} {y : T}, s.ev x = some y → VT d H m w lam s y (a.eval x) := fun hx => ev_ok hf hx
  unfold aEff at h
  simp only at h
  split at h
  · -- move
    rename_i y ho
    obtain ⟨z, h1, rfl⟩ := one_some h
    exact wp_value (by simp only [execOp, ho, Sem.run_pure]) (hK _ _ (quiet_inv hw hf x hN (quiet_val _) hd (ev h1)))
  · rename_i y ho
    obtain ⟨z, h1, rfl⟩ := one_some h
    exact wp_value (by simp only [execOp, ho, Sem.run_pure]) (hK _ _ (quiet_inv hw hf x hN (quiet_val _) hd (ev h1)))
  · -- pick
    rename_i c u v ho
    obtain ⟨cv, h1, h2⟩ := Option.bind_eq_some_iff.1 h
    obtain ⟨cb, h3, h4⟩ := Option.bind_eq_some_iff.1 h2
    obtain rfl := boolOf_some h3
    have hc : a.eval c = .bool cb := ev h1
    cases cb
    · obtain ⟨z, h5, rfl⟩ := one_some h4
      exact wp_value (v := a.eval v) (by simp [execOp, ho, hc, asBool]) (hK _ _ (quiet_inv hw hf x hN (quiet_val _) hd (ev h5)))
    · obtain ⟨z, h5, rfl⟩ := one_some h4
      exact wp_value (v := a.eval u) (by simp [execOp, ho, hc, asBool]) (hK _ _ (quiet_inv hw hf x hN (quiet_val _) hd (ev h5)))
  · -- alloc
    rename_i ty ho
    obtain ⟨hg, h1⟩ := bnd_some h
    cases hr : E.regs.contains (dOp o.dst) with
    | true =>
      rw [hr] at h1
      obtain ⟨hb, h2⟩ := bnd_some h1
      simp only [Option.some.injEq] at h2; subst h2
      simp only [Bool.and_eq_true, Bool.not_eq_true'] at hb
      exact wp_op (by simp only [execOp, ho]) (alloc_op_ok E hti hw hf x hN hg hd (Nat.eq_of_beq_eq_true hb.2) (.inl ⟨rfl, hb.1.1, hb.1.2⟩)) hK
    | false =>
      rw [hr] at h1
      obtain ⟨hb, h2⟩ := bnd_some h1
      simp only [Option.some.injEq] at h2; subst h2
      exact wp_op (by simp only [execOp, ho]) (alloc_op_ok E hti hw hf x hN hg hd (Nat.eq_of_beq_eq_true hb) (.inr rfl)) hK
  · -- box
    rename_i ty y ho
    obtain ⟨hg, h1⟩ := bnd_some h
    obtain ⟨z, h2, h3⟩ := Option.bind_eq_some_iff.1 h1
    obtain ⟨cs, h4, h5⟩ := Option.bind_eq_some_iff.1 h3
    obtain ⟨hb, h6⟩ := bnd_some h5
    cases hr : E.regs.contains (dOp o.dst) with
    | true =>
      rw [hr] at h6
      obtain ⟨hb, h2'⟩ := bnd_some h6
      simp only [Option.some.injEq] at h2'; subst h2'
      simp only [Bool.and_eq_true, Bool.not_eq_true'] at hb
      exact wp_op (by simp only [execOp, ho]) (box_op_ok hw hf x hN ty hd (ev h2) h4 (.inl ⟨rfl, hb.1, hb.2⟩)) hK
    | false =>
      rw [hr] at h6
      simp only [cond_false, Option.some.injEq] at h6; subst h6
      exact wp_op (by simp only [execOp, ho]) (box_op_ok hw hf x hN ty hd (ev h2) h4 (.inr rfl)) hK
  · -- build
    rename_i ty ps ho
    obtain ⟨qs, h1, h2⟩ := Option.bind_eq_some_iff.1 h
    obtain ⟨z, h3, rfl⟩ := one_some h2
    exact wp_op (by simp only [execOp, ho]) (OpOk.quiet hw hf x hN (quiet_val _) hd (build_ok E hti (parts_ok hf h1) h3)) hK
  · -- buildSlice
    rename_i ty len ps ho
    obtain ⟨qs, h1, h2⟩ := Option.bind_eq_some_iff.1 h
    obtain ⟨z, h3, rfl⟩ := one_some h2
    exact wp_op (by simp only [execOp, ho]) (buildSlice_ok E hti hw hf x hN (parts_ok hf h1) h3 hd) hK
  · -- load
    rename_i ty p ho
    obtain ⟨hg, h1⟩ := bnd_some h
    obtain ⟨z, h2, h3⟩ := Option.bind_eq_some_iff.1 h1
    obtain ⟨g1, g2⟩ := load_ok E hti hw hf hg h3 (ev h2)
    exact wp_op (by simp only [execOp, ho]) (OpOk.quiet hw hf x hN g1 hd g2) hK
  · -- store
    rename_i ty p y ho
    obtain ⟨hg, h1⟩ := bnd_some h
    obtain ⟨z, h2, h3⟩ := Option.bind_eq_some_iff.1 h1
    obtain ⟨z2, h4, h5⟩ := Option.bind_eq_some_iff.1 h3
    exact wp_unit (by simp only [execOp, ho]) (store_ok E hti hw hf x hN hB hg h5 (ev h2) (ev h4) hd) hK
  · -- nilCheck
    rename_i y ho
    obtain ⟨z, h2, h3⟩ := Option.bind_eq_some_iff.1 h
    have hv := ev h2
    split at h3
    · rename_i t off
      obtain ⟨g1, z, g2, rfl⟩ := oneR_some h3
      injection g2 with g2; subst g2
      obtain ⟨c, g3, g4⟩ := reg_at hv g1
      exact wp_value (v := a.eval y) (by simp only [execOp, ho, g4, Sem.run_pure]) (hK _ _ (quiet_inv hw hf x hN (quiet_lr _ _) hd hv))
    · obtain ⟨z, g2, rfl⟩ := one_some h3
      injection g2 with g2; subst g2
      obtain ⟨c, o', f, r, g4, _⟩ := id hv
      exact wp_value (v := a.eval y) (by simp only [execOp, ho, g4, Sem.run_pure]) (hK _ _ (quiet_inv hw hf x hN (quiet_val _) hd hv))
    · obtain ⟨z, g2, rfl⟩ := one_some h3
      injection g2 with g2; subst g2
      obtain ⟨c, g4, _⟩ := id hv
      exact wp_value (v := a.eval y) (by simp only [execOp, ho, g4, Sem.run_pure]) (hK _ _ (quiet_inv hw hf x hN (quiet_val _) hd hv))
    · cases h3
  · -- binOp
    rename_i op ty y z yt ho
    obtain ⟨u, h1, h2⟩ := Option.bind_eq_some_iff.1 h
    obtain ⟨v, h3, h4⟩ := Option.bind_eq_some_iff.1 h2
    obtain ⟨u', h5, h6⟩ := Option.bind_eq_some_iff.1 h4
    obtain ⟨v', h7, h8⟩ := Option.bind_eq_some_iff.1 h6
    have hna : ∀ cs, u' ≠ .agg cs := by rintro cs rfl; simp at h8
    have h9 : oneV (aBin E.ti ty op u' v') = some e := by
      cases u' <;> first | exact h8 | exact absurd rfl (hna _)
    obtain ⟨r, g1, rfl⟩ := oneV_some h9
    exact wp_op (by simp only [execOp, ho]) (OpOk.quiet hw hf x hN (quiet_val _) hd (bin_ok hti g1 hna (av_ok h5 (ev h1)) (av_ok h7 (ev h3)) y z w)) hK
  · -- unOp
    rename_i op ty y ho
    obtain ⟨u, h1, h2⟩ := Option.bind_eq_some_iff.1 h
    obtain ⟨u', h3, h4⟩ := Option.bind_eq_some_iff.1 h2
    obtain ⟨r, g1, rfl⟩ := oneV_some h4
    exact wp_op (by simp only [execOp, ho]) (OpOk.quiet hw hf x hN (quiet_val _) hd (un_ok g1 (av_ok h3 (ev h1)) w)) hK
  · -- convert
    rename_i src ds y ho
    obtain ⟨u, h1, h2⟩ := Option.bind_eq_some_iff.1 h
    by_cases hns : ∃ q, (E.ti src).k = .str ∧ (E.ti ds).k = .slice q
    · obtain ⟨q, q1, q2⟩ := hns
      have h3 := h2
      unfold aConvert at h3
      rw [q1, q2] at h3
      simp only at h3
      split at h3
      · rename_i l hq
        obtain ⟨r, g1, rfl⟩ := oneV_some h3
        injection g1 with g1; subst g1
        exact wp_op (by simp only [execOp, ho]) (strBytes_ok E hti hw hf x hN q1 q2 hq (ev h1) hd) hK
      · cases h3
    · obtain ⟨g1, g2⟩ := convert_ok E hti hf hw h2 (ev h1) (fun q hq => hns ⟨q, hq⟩)
      exact wp_op (by simp only [execOp, ho]) (OpOk.quiet hw hf x hN g1 hd g2) hK
  · -- makeFunc
    rename_i f first cap ho
    obtain ⟨hb, h1⟩ := bnd_some h
    obtain ⟨cs, h2, rfl⟩ := Option.map_eq_some_iff.1 h1
    have hfirst : first = #[] := Array.eq_empty_of_size_eq_zero (Nat.eq_of_beq_eq_true hb)
    subst hfirst
    have hV : V H (.fn f cs) (.func (.func f) #[] (cap.map a.eval)) := by
      refine ⟨(cap.map a.eval).toList, by rw [Array.toArray_toList], ?_⟩
      rw [VL_iff, Array.toList_map]
      refine mapM_all2 (fun y z hz => ?_) h2
      obtain ⟨t, h3, h4⟩ := Option.bind_eq_some_iff.1 hz
      exact av_ok h4 (ev h3)
    exact wp_op (e := { val := .v (.fn f cs) }) (x := Instr.makeFunc (.func f) #[] (cap.map a.eval)) (by simp only [execOp, ho, Array.map_empty]) (OpOk.quiet hw hf x hN (quiet_val _) hd ⟨_, by simp only [Instr.makeFunc, Sem.run_pure], hV⟩) hK
  · -- makeMap
    rename_i ty ho
    obtain ⟨hb, h1⟩ := bnd_some h
    simp only [Option.some.injEq] at h1; subst h1
    simp only [Bool.and_eq_true, Bool.not_eq_true'] at hb
    have hdd := dst_get hb.2
    refine wp_op (x := Instr.makeMap ty none) (by simp only [execOp, ho, Option.map_none]) ?_ hK
    rw [hdd] at hd ⊢
    exact makeMap_ok hw hf x hN hd hb.1 ty
  · -- makeSlice
    rename_i ty l c ho
    obtain ⟨lv, h1, h2⟩ := Option.bind_eq_some_iff.1 h
    obtain ⟨ln, h3, h4⟩ := Option.bind_eq_some_iff.1 h2
    obtain ⟨cv, h5, h6⟩ := Option.bind_eq_some_iff.1 h4
    obtain ⟨cn, h7, h8⟩ := Option.bind_eq_some_iff.1 h6
    obtain ⟨hb, h9⟩ := bnd_some h8
    obtain ⟨kl, g1⟩ := intOf_ok h3 (ev h1)
    obtain ⟨kc, g2⟩ := intOf_ok h7 (ev h5)
    have hdd := dst_get hb
    refine wp_op (x := Instr.makeSlice ty (.int kl ln) (.int kc cn)) (by simp only [execOp, ho, g1, g2]) ?_ hK
    rw [hdd] at hd ⊢
    exact makeSlice_ok E hti hw hf x hN h9 hd
  · -- slice
    rename_i ty y lo hi mx ho
    obtain ⟨u, h1, h2⟩ := Option.bind_eq_some_iff.1 h
    obtain ⟨bl, h3, h4⟩ := Option.bind_eq_some_iff.1 h2
    obtain ⟨bh, h5, h6⟩ := Option.bind_eq_some_iff.1 h4
    obtain ⟨bm, h7, h8⟩ := Option.bind_eq_some_iff.1 h6
    obtain ⟨g1, z, g2, rfl⟩ := oneR_some h8
    exact wp_op (by simp only [execOp, ho]) (OpOk.quiet hw hf x hN (quiet_lr _ _) hd (slice_op_ok E hti (bnd_ok hf h3) (bnd_ok hf h5) (bnd_ok hf h7) g2 g1 (ev h1))) hK
  · -- fieldAddr
    rename_i ty y fi ho
    obtain ⟨u, h1, h2⟩ := Option.bind_eq_some_iff.1 h
    obtain ⟨g1, z, g2, rfl⟩ := oneR_some h2
    exact wp_op (by simp only [execOp, ho]) (OpOk.quiet hw hf x hN (quiet_lr _ _) hd (field_ok E hti g2 g1 (ev h1))) hK
  · -- indexAddr
    rename_i ty y i ho
    obtain ⟨u, h1, h2⟩ := Option.bind_eq_some_iff.1 h
    obtain ⟨iv, h3, h4⟩ := Option.bind_eq_some_iff.1 h2
    obtain ⟨n, h5, h6⟩ := Option.bind_eq_some_iff.1 h4
    obtain ⟨g1, z, g2, rfl⟩ := oneR_some h6
    obtain ⟨k, hk⟩ := intOf_ok h5 (ev h3)
    exact wp_op (x := Instr.indexAt ty (a.eval y) (.int k n)) (by simp only [execOp, ho, hk]) (OpOk.quiet hw hf x hN (quiet_lr _ _) hd (indexAddr_ok E hti g2 g1 (ev h1))) hK
  · -- index
    rename_i ty y i ho
    obtain ⟨u, h1, h2⟩ := Option.bind_eq_some_iff.1 h
    obtain ⟨iv, h3, h4⟩ := Option.bind_eq_some_iff.1 h2
    obtain ⟨n, h5, h6⟩ := Option.bind_eq_some_iff.1 h4
    obtain ⟨z, g2, rfl⟩ := one_some h6
    obtain ⟨k, hk⟩ := intOf_ok h5 (ev h3)
    exact wp_op (x := Instr.index ty (a.eval y) (.int k n)) (by simp only [execOp, ho, hk]) (OpOk.quiet hw hf x hN (quiet_val _) hd (index_ok E hti g2 (ev h1))) hK
  · -- lookup
    rename_i ty y k ok ho
    obtain ⟨u, h1, h2⟩ := Option.bind_eq_some_iff.1 h
    obtain ⟨v, h3, h4⟩ := Option.bind_eq_some_iff.1 h2
    obtain ⟨g1, g2⟩ := lookup_ok E hti hw hf h4 (ev h1) (ev h3)
    exact wp_op (by simp only [execOp, ho]) (OpOk.quiet hw hf x hN g1 hd g2) hK
  · -- mapUpdate
    rename_i ty y k z ho
    obtain ⟨u, h1, h2⟩ := Option.bind_eq_some_iff.1 h
    obtain ⟨v, h3, h4⟩ := Option.bind_eq_some_iff.1 h2
    obtain ⟨t, h5, h6⟩ := Option.bind_eq_some_iff.1 h4
    exact wp_unit (by simp only [execOp, ho]) (mapUpdate_ok E hti hw hf x hN hB h6 (ev h1) (ev h3) (ev h5) hd) hK
  · -- insert
    rename_i ty y k z ho
    obtain ⟨u, h1, h2⟩ := Option.bind_eq_some_iff.1 h
    obtain ⟨v, h3, h4⟩ := Option.bind_eq_some_iff.1 h2
    obtain ⟨t, h5, h6⟩ := Option.bind_eq_some_iff.1 h4
    exact wp_unit (by simp only [execOp, ho]) (mapUpdate_ok E hti hw hf x hN hB h6 (ev h1) (ev h3) (ev h5) hd) hK
  · -- range
    rename_i ty y ho
    obtain ⟨u, h1, h2⟩ := Option.bind_eq_some_iff.1 h
    split at h2
    · rename_i l hk
      obtain ⟨hb, h3⟩ := bnd_some h2
      simp only [Option.some.injEq] at h3; subst h3
      simp only [Bool.and_eq_true, Bool.not_eq_true'] at hb
      have hdd := dst_get hb.2
      refine wp_op (x := Instr.range ty (a.eval y)) (by simp only [execOp, ho]) ?_ hK
      rw [hdd] at hd ⊢
      exact range_ok E hti hw hf x hN hd hb.1 hk (ev h1)
    · cases h2
  · -- next
    rename_i y ho
    obtain ⟨u, h1, h2⟩ := Option.bind_eq_some_iff.1 h
    split at h2
    · rename_i t
      obtain ⟨⟨l, p⟩, h3, h4⟩ := Option.map_eq_some_iff.1 h2
      exact wp_op (x := Instr.next (a.eval y) true o.type) (by simp only [execOp, ho]) (next_ok E hw hf x hN hB h3 (ev h1) hd o.type h4) hK
    · cases h2
  · -- extract
    rename_i y i ho
    obtain ⟨u, h1, h2⟩ := Option.bind_eq_some_iff.1 h
    split at h2
    · rename_i vs
      obtain ⟨z, g1, rfl⟩ := oneV_some h2
      exact wp_op (by simp only [execOp, ho]) (OpOk.quiet hw hf x hN (quiet_val _) hd (extract_ok g1 (ev h1))) hK
    · cases h2
  · -- call
    rename_i c ho
    obtain ⟨as, h1, h2⟩ := Option.bind_eq_some_iff.1 h
    have hall := evs_ok hf h1
    have arg1 : ∀ {y : T}, as = [y] → ∃ v, c.args.map a.eval = #[v] ∧ VT d H m w lam s y v := by
      rintro y rfl
      revert hall
      cases hl : (c.args.map a.eval).toList with
      | nil => exact fun h => h.elim
      | cons v r =>
        cases r with
        | nil => exact fun h => ⟨v, by apply Array.toList_inj.1; simpa using hl, h.1⟩
        | cons _ _ => exact fun h => h.2.elim
    have arg2 : ∀ {y z : T}, as = [y, z] → ∃ v u, c.args.map a.eval = #[v, u] ∧ VT d H m w lam s y v ∧ VT d H m w lam s z u := by
      rintro y z rfl
      revert hall
      cases hl : (c.args.map a.eval).toList with
      | nil => exact fun h => h.elim
      | cons v r =>
        cases r with
        | nil => exact fun h => h.2.elim
        | cons u r =>
          cases r with
          | nil => exact fun h => ⟨v, u, by apply Array.toList_inj.1; simpa using hl, h.1, h.2.1⟩
          | cons _ _ => exact fun h => h.2.2.elim
    split at h2
    · -- len
      rename_i hcal
      split at h2
      · rename_i y ty hty
        obtain ⟨v, g1, g2⟩ := arg1 rfl
        obtain ⟨g3, z, g4, rfl⟩ := oneR_some h2
        exact wp_op (x := Builtin.len_ c.argTypes o.type #[v]) (by rw [execCall ho hcal, g1]; rfl) (OpOk.quiet hw hf x hN (quiet_lr _ _) hd (len_ok E hti hty o.type g4 g3 g2)) hK
      · cases h2
    · -- min
      rename_i hcal
      obtain ⟨z, g1, rfl⟩ := one_some h2
      have := min_ok (P := P) (w := w) g1 hall c.argTypes o.type
      simp only [Array.toArray_toList] at this
      exact wp_op (x := Builtin.min_ c.argTypes o.type (c.args.map a.eval)) (by rw [execCall ho hcal]; rfl) (OpOk.quiet hw hf x hN (quiet_val _) hd this) hK
    · -- max
      rename_i hcal
      obtain ⟨z, g1, rfl⟩ := one_some h2
      have := min_ok (P := P) (w := w) g1 hall c.argTypes o.type
      simp only [Array.toArray_toList] at this
      exact wp_op (x := Builtin.max_ c.argTypes o.type (c.args.map a.eval)) (by rw [execCall ho hcal]; rfl) (OpOk.quiet hw hf x hN (quiet_val _) hd this) hK
    · -- append
      rename_i hcal
      split at h2
      · rename_i b y ty hty
        obtain ⟨hat, h3⟩ := bnd_some h2
        obtain ⟨v, u, g1, g2, g3⟩ := arg2 rfl
        have hex : execOp a.eval o = (do pure (.value (← Builtin.append_ c.argTypes o.type #[v, u]))) := by rw [execCall ho hcal, g1]; rfl
        split at h3
        · rename_i t off len sz ag _ _ _
          obtain ⟨cs, h4, h5⟩ := Option.bind_eq_some_iff.1 h3
          obtain ⟨ys, h6, h7⟩ := Option.bind_eq_some_iff.1 h5
          obtain ⟨e', h8, rfl⟩ := Option.map_eq_some_iff.1 h7
          obtain ⟨us, hn⟩ := mref_news (P := P) hf g3 h4 h6
          exact wp_op hex (append_ok E hti hw hf x hN hty hat o.type h8 g2 hn hd) hK
        · rename_i l _ _ _
          obtain ⟨us, hn⟩ := str_news (P := P) (w := w) (H := H) g3
          exact wp_op hex (append_ok E hti hw hf x hN hty hat o.type h3 g2 hn hd) hK
        · obtain ⟨⟨sz, ys⟩, h4, h5⟩ := Option.bind_eq_some_iff.1 h3
          obtain ⟨us, hn⟩ := slice_news (P := P) hw (slice_ok h4 g3) (sz := sz) (.inl rfl)
          exact wp_op hex (append_ok E hti hw hf x hN hty hat o.type h5 g2 hn hd) hK
      · cases h2
    · -- copy
      rename_i hcal
      split at h2
      · rename_i t off len sz _ t' off' len' sz' _ el hty
        obtain ⟨hb, h3⟩ := bnd_some h2
        simp only [Bool.and_eq_true] at hb
        obtain rfl := Nat.eq_of_beq_eq_true hb.1
        obtain ⟨cs, h4, h5⟩ := Option.bind_eq_some_iff.1 h3
        obtain ⟨cs', h6, h7⟩ := Option.bind_eq_some_iff.1 h5
        obtain ⟨hb2, h8⟩ := bnd_some h7
        simp only [Option.some.injEq] at h8; subst h8
        simp only [Bool.and_eq_true] at hb2
        obtain ⟨v, u, g1, g2, g3⟩ := arg2 rfl
        obtain ⟨ty, hty1, hty2⟩ := Option.map_eq_some_iff.1 hty
        exact wp_op (x := Builtin.copy_ c.argTypes o.type #[v, u]) (by rw [execCall ho hcal, g1]; rfl) (copy_ok E hti hw hf x hN hB hty2 (Nat.eq_of_beq_eq_true hb.2) h4 h6 (Nat.le_of_ble_eq_true hb2.1) (Nat.le_of_ble_eq_true hb2.2) g2 g3 hty1 o.type hd rfl) hK
      · cases h2
    · -- a function value
      rename_i fo hcal
      obtain ⟨fv, h3, h4⟩ := Option.bind_eq_some_iff.1 h2
      split at h4
      · rename_i f cap
        obtain ⟨⟨xs, ls, ps⟩, h5, h6⟩ := Option.bind_eq_some_iff.1 h4
        obtain ⟨hb, h7⟩ := bnd_some h6
        simp only [Bool.and_eq_true] at hb
        obtain ⟨⟨r, m'⟩, h8, rfl⟩ := Option.map_eq_some_iff.1 h7
        exact call_sound hco hw hf x hN hB ho hcal hd h3 h1 h5 hb.1 hb.2 h8 rfl hK
      · cases h4
    · cases h2
  · -- defer
    rename_i c ho
    split at h
    · rename_i fo hcal hargs
      obtain ⟨fv, h3, h4⟩ := Option.bind_eq_some_iff.1 h
      split at h4
      · rename_i f cap
        simp only [Option.some.injEq] at h4; subst h4
        obtain ⟨vs, q1, q2⟩ := ev h3
        have hargs' : c.args = #[] := by apply Array.toList_inj.1; simpa using hargs
        have hex : (execOp a.eval o).run P w = .ok (.defer { target := .fn (.func f) vs.toArray, args := #[] }) w := by
          simp only [execOp, ho, resolve, hcal, q1, Deferred.ofValue, hargs', Array.map_empty, Array.append_empty, Sem.run_bind, Sem.run_pure, Result.andThen_ok]
        unfold Oper.wp
        rw [hex]
        refine hK _ _ ?_
        have hput : s.put o.dst { df := [.fn f cap] } = { s with df := .fn f cap :: s.df, tm := putT s.tm o.dst .undef } := by
          unfold St.put
          simp only [updL, List.contains_nil, Bool.false_or, Bool.not_false, Bool.and_true, List.cons_append, List.nil_append]
        rw [hput]
        have hf' : Fr nt N d { s with df := .fn f cap :: s.df } m H lam { a with defers := { target := .fn (.func f) vs.toArray, args := #[] } :: a.defers } w :=
          ⟨hf.size, fun t => by have := hf.tm t; revert this; show VT d H m w lam s (s.tm t) (a.tmps.getD t undef) → VT d H m w lam _ (s.tm t) (a.tmps.getD t undef); cases s.tm t <;> exact id, hf.lc, hf.mp, hf.it, hf.inj, hf.lamN, ⟨⟨f, cap, rfl, vs, rfl, q2⟩, hf.df⟩, hf.live⟩
        exact ⟨H, lam, hw, hf'.put (x := .undef) rfl hd, x, hN⟩
      · cases h4
    · cases h
  · cases h

end Go.Ax
/- Ax: a loop's head: what is not kept is forgotten, tokens get new names. -/
set_option linter.unusedVariables false
set_option linter.unusedSimpArgs false
namespace Go.Ax
open Go.RowKit
variable {P : Program} {ti : Nat → TI}
variable {nt N d : Nat} {s : St} {m : AMem} {H : Hp} {lam : Nat → Option Nat} {a : Act} {w w0 : World}
variable {Hi : Hp} {mi : AMem} {wi : World}

def relab (d : Nat) (M : Nat → Option Nat) : HB → HB
  | .froz f (some ⟨.tok d' k, x, y⟩) => if d' = d then (match M k with | some l => .froz f (some ⟨.tok d l, x, y⟩) | none => .froz f none) else .froz f (some ⟨.tok d' k, x, y⟩)
  | b => b

theorem relab_froz (M : Nat → Option Nat) (f : Nat → Option Value) (r : Option Room) : ∃ r', relab d M (.froz f r) = .froz f r' ∧ ∀ q', r' = some q' → ∃ q, r = some q ∧ q.from_ = q'.from_ ∧ q.to_ = q'.to_ := by
  unfold relab
  split
  · rename_i g d' k x y e
    injection e with e1 e2
    subst e1 e2
    split
    · split
      · exact ⟨_, rfl, fun q' h => ⟨_, rfl, by injection h with h; subst h; exact ⟨rfl, rfl⟩⟩⟩
      · exact ⟨_, rfl, fun q' h => by cases h⟩
    · exact ⟨_, rfl, fun q' h => ⟨_, h, rfl, rfl⟩⟩
  · exact ⟨r, rfl, fun q' h => ⟨_, h, rfl, rfl⟩⟩

theorem relab_not {M : Nat → Option Nat} {b : HB} (h : ∀ f r, b ≠ .froz f r) : relab d M b = b := by
  cases b <;> first | rfl | exact absurd rfl (h _ _)

theorem relab_inv {M : Nat → Option Nat} {b x : HB} (h : relab d M b = x) (hx : ∀ f r, x ≠ .froz f r) : b = x := by
  cases b with
  | froz f r =>
    obtain ⟨r', e, _⟩ := relab_froz (d := d) M f r
    rw [e] at h; exact absurd h.symm (hx _ _)
  | _ => exact h

theorem relab_frozen {M : Nat → Option Nat} {b : HB} {f : Nat → Option Value} {r' : Option Room} (h : relab d M b = .froz f r') : ∃ r, b = .froz f r ∧ ∀ q', r' = some q' → ∃ q, r = some q ∧ q.from_ = q'.from_ ∧ q.to_ = q'.to_ := by
  cases b with
  | froz g r =>
    obtain ⟨r1, e, h1⟩ := relab_froz (d := d) M g r
    rw [e] at h
    injection h with e1 e2
    subst e1 e2
    exact ⟨r, rfl, h1⟩
  | _ => cases h

theorem relab_hle (M : Nat → Option Nat) : HLe H (fun c => relab d M (H c)) :=
  ⟨fun c f r h => by
    obtain ⟨r', e, _⟩ := relab_froz (d := d) M f r
    exact ⟨f, r', by simp only [h, e], fun _ _ h => h⟩, fun c id h => by simp only [h, relab], fun c k v h => by simp only [h, relab]⟩

theorem relab_mv {M : Nat → Option Nat} {k sz n : Nat} {v : Value} (h : Roomy H (.mv k) sz n v) : Roomy (fun c => relab d M (H c)) (.mv k) sz n v := by
  obtain ⟨b, cap, e, h⟩ := h
  refine ⟨b, cap, e, h.imp id ?_⟩
  rintro ⟨c, o, f, ea, h0, hc⟩
  exact ⟨c, o, f, ea, h0, by simp only [hc, relab]⟩

theorem relab_tok {M : Nat → Option Nat} {k l sz n : Nat} {v : Value} (hM : M k = some l) (hel : elOf l ≠ 0 → elOf l = elOf k) (h : Roomy H (.tok d k) sz n v) : Roomy (fun c => relab d M (H c)) (.tok d l) sz n v := by
  obtain ⟨b, cap, e, h⟩ := h
  refine ⟨b, cap, e, h.imp (fun h => ⟨h.1, fun hl => h.2 (by show elOf k ≠ 0; rw [← hel hl]; exact hl)⟩) ?_⟩
  rintro ⟨c, o, f, ea, h0, hc⟩
  exact ⟨c, o, f, ea, h0, by simp only [hc, relab, if_true, hM]⟩

/-- A relabelled room bears the type that it bore. -/
theorem relab_el {M : Nat → Option Nat} (hMe : ∀ k l, M k = some l → elOf l ≠ 0 → elOf l = elOf k) {b : HB} {f : Nat → Option Value} {q : Room} (h : relab d M b = .froz f (some q)) (hq : q.l.el ≠ 0) : ∃ q0, b = .froz f (some q0) ∧ q.l.el = q0.l.el := by
  unfold relab at h
  split at h
  · rename_i g d' k x y
    split at h
    · split at h
      · rename_i l hl
        injection h with e1 e2; injection e2 with e2; subst e1 e2
        exact ⟨_, rfl, hMe k l hl hq⟩
      · injection h with _ e2; cases e2
    · injection h with e1 e2; injection e2 with e2; subst e1 e2
      exact ⟨_, rfl, rfl⟩
  · exact ⟨q, h, rfl⟩

theorem relab_ok (hw : WOk w0 H m w) (M : Nat → Option Nat) (hMe : ∀ k l, M k = some l → elOf l ≠ 0 → elOf l = elOf k) (N : Nat) : WOk w0 (fun c => relab d M (H c)) m w ∧ Ext d N H m w (fun c => relab d M (H c)) m w := by
  refine ⟨⟨hw.below, fun c hc => by simp only [hw.free c hc, relab], fun c f r hc => ?_, fun id cs h => ?_, fun c c' id h1 h2 => hw.memU c c' id (relab_inv h1 (by simp)) (relab_inv h2 (by simp)), fun c id h => hw.memN c id (relab_inv h (by simp)), fun c ks vs h => hw.fmap c ks vs (relab_inv h (by simp)), hw.next, hw.mvU, fun c id h => hw.memT c id (relab_inv h (by simp)), fun c f q hc hq arr e fr ha => by
    obtain ⟨q0, h0, h1⟩ := relab_el (d := d) hMe hc hq
    rw [h1] at hq ⊢
    exact hw.rowT c f q0 h0 hq arr e fr ha⟩,
    ⟨relab_hle M, fun c hc _ => ⟨by simp only [hc, relab], rfl⟩, fun c f d' k x y hc hd => ⟨by simp only [hc, relab]; rw [if_neg (by omega)], rfl⟩, Nat.le_refl _, fun id off cs k sz xs h1 h2 _ _ => ⟨⟨cs, h1, h2⟩, fun _ _ => rfl⟩, fun c id h _ => relab_inv h (by simp), Nat.le_refl _⟩⟩
  · obtain ⟨r0, h0, h1⟩ := relab_frozen hc
    obtain ⟨arr, e, fr, g1, g2, g3⟩ := hw.froz c f r0 h0
    refine ⟨arr, e, fr, g1, g2, fun q hq => ?_⟩
    obtain ⟨q', e1, e2, e3⟩ := h1 q hq
    have := g3 q' e1
    rw [e2, e3] at this
    exact this
  · obtain ⟨c, arr, e, h1, h2, h3, h4⟩ := hw.mem id cs h
    exact ⟨c, arr, e, by simp only [h1, relab], h2, h3, h4.mono fun _ _ _ h => h.mono (relab_hle M) (fun _ _ _ _ _ hr => relab_mv hr) (Nat.le_refl _)⟩

theorem ofL_mem {α : Type} : ∀ {l : List (Nat × α)} {k : Nat} {x : α}, ofL l k = some x → (k, x) ∈ l
  | [], k, x, h => by cases h
  | (j, y) :: r, k, x, h => by
    simp only [ofL] at h
    by_cases e : k = j
    · subst e; simp only [Nat.beq_refl, cond_true, Option.some.injEq] at h; subst h; exact List.mem_cons_self
    · rw [beq_ne e, cond_false] at h; exact List.mem_cons_of_mem _ (ofL_mem h)

theorem ofL_of_mem {α : Type} : ∀ {l : List (Nat × α)} {k : Nat} {x : α}, distinct (l.map (·.1)) = true → (k, x) ∈ l → ofL l k = some x
  | [], k, x, _, h => by cases h
  | (j, y) :: r, k, x, hd, h => by
    simp only [List.map_cons, distinct, Bool.and_eq_true, Bool.not_eq_true', List.contains_eq_mem, decide_eq_false_iff_not] at hd
    simp only [ofL]
    rcases List.mem_cons.1 h with e | h'
    · injection e with e1 e2; subst e1 e2; simp
    · have : k ≠ j := by rintro rfl; exact hd.1 (List.mem_map.2 ⟨(k, x), h', rfl⟩)
      rw [beq_ne this, cond_false]; exact ofL_of_mem hd.2 h'

variable {M : Nat → Option Nat} {s' : St}

/-- What is kept of a temporary. -/
theorem keepT_ok {lbl : Nat} {x y : T} {prs : List (Nat × Nat)} (h : keepT s lbl x = some (y, prs)) {v : Value} (hv : VT d H m w lam s x v) (hM : ∀ p ∈ prs, M p.1 = some p.2) (hl : ∀ n, s'.seen n = true → True) (hlab : lbl ≠ 0 → s'.seen lbl = true) (ls : List (Nat × List T)) (mps its : List Nat)
    (hlc : ∀ t cs, ofL ls t = some cs → s'.seen t = true ∧ (s.lc t).isSome = true) (hmp : ∀ t, mps.contains t = true → s'.seen t = true ∧ (s'.mp t = s.mp t)) (hit : ∀ t, its.contains t = true → s'.seen t = true ∧ s'.it t = s.it t) :
    VT d (fun c => relab d M (H c)) m w lam s' (leads ls mps its y) v := by
  have hle := relab_hle (H := H) (d := d) M
  unfold keepT at h
  cases hb : Nat.beq lbl 0 with
  | true =>
    rw [hb] at h
    simp only [cond_true] at h
    split at h
    · simp only [Option.some.injEq, Prod.mk.injEq] at h; obtain ⟨rfl, rfl⟩ := h
      exact ⟨.inl rfl, V_mono hle _ _ hv.2.1, hv.2.2.1, fun h => absurd rfl h⟩
    · simp only [Option.some.injEq, Prod.mk.injEq] at h; obtain ⟨rfl, rfl⟩ := h
      exact V_mono hle _ _ hv.2.1
    · simp only [Option.some.injEq, Prod.mk.injEq] at h; obtain ⟨rfl, rfl⟩ := h
      exact V_mono hle _ _ hv.1
    · obtain ⟨z, h1, h2⟩ := Option.map_eq_some_iff.1 h
      simp only [Prod.mk.injEq] at h2; obtain ⟨rfl, rfl⟩ := h2
      exact V_mono hle _ _ (av_ok h1 hv)
    · rename_i q0 q1 q2 q3
      simp only [Option.some.injEq, Prod.mk.injEq] at h; obtain ⟨rfl, rfl⟩ := h
      cases x
      case undef => exact hv
      case any => trivial
      case v => exact V_mono hle _ _ hv
      case reg t off =>
        simp only [leads]
        cases ho : ofL ls t with
        | none => trivial
        | some cs => exact ⟨(hlc t cs ho).1, fun _ => hv.2 (hlc t cs ho).2⟩
      case ea =>
        obtain ⟨c, o, f, r, e, hc, hE⟩ := hv
        obtain ⟨f', r', h1, h2⟩ := hle.froz c f r hc
        exact ⟨c, o, f', r', e, h1, VE_mono hle h2 _ _ o hE⟩
      case own k sz xs => exact (q1 _ _ _ rfl).elim
      case ld => exact (q2 _ _ _ _ _ rfl).elim
      case agg => exact (q3 _ rfl).elim
      case mref t off len sz ag =>
        simp only [leads]
        cases ho : ofL ls t with
        | none => trivial
        | some cs => exact ⟨(hlc t cs ho).1, fun _ => hv.2 (hlc t cs ho).2⟩
      case omap t =>
        simp only [leads]
        cases ho : mps.contains t with
        | false => trivial
        | true => exact ⟨(hmp t ho).1, fun h => hv.2 (by rw [(hmp t ho).2] at h; exact h)⟩
      case sit t =>
        simp only [leads]
        cases ho : its.contains t with
        | false => trivial
        | true => exact ⟨(hit t ho).1, fun h => hv.2 (by rw [(hit t ho).2] at h; exact h)⟩
  | false =>
    rw [hb] at h
    simp only [cond_false] at h
    have hl0 : lbl ≠ 0 := by rintro rfl; cases hb
    split at h
    · rename_i k sz xs
      obtain ⟨hb, h1⟩ := bnd_some h
      simp only [Option.some.injEq, Prod.mk.injEq] at h1; obtain ⟨rfl, rfl⟩ := h1
      refine ⟨.inr (hlab hl0), V_mono hle _ _ hv.2.1, fun h => absurd h hl0, fun _ _ => ?_⟩
      by_cases hk : k = 0
      · subst hk
        obtain ⟨b, e⟩ := hv.2.2.1 rfl
        exact ⟨b, _, e, .inl ⟨rfl, fun hl => by
          simp only [Nat.beq_refl, cond_true, Bool.and_eq_true, Bool.or_eq_true, List.isEmpty_iff] at hb
          rcases hb.2 with h9 | h9
          · exact absurd (Nat.eq_of_beq_eq_true h9) hl
          · rw [h9]; rfl⟩⟩
      · have hkl : s.live k = true := by
          simp only [Bool.and_eq_true, Bool.or_eq_true] at hb
          exact hb.1.resolve_left (fun e => hk (Nat.eq_of_beq_eq_true e))
        have : Nat.beq k 0 = false := beq_ne hk
        rw [this] at hM
        exact relab_tok (hM (k, lbl) (by simp)) (fun hl => by
          rw [this] at hb
          simp only [cond_false, Bool.and_eq_true, Bool.or_eq_true] at hb
          rcases hb.2 with h9 | h9
          · exact absurd (Nat.eq_of_beq_eq_true h9) hl
          · exact Nat.eq_of_beq_eq_true h9) (hv.2.2.2 hk hkl)
    · cases h

end Go.Ax
/- Ax: a loop's head, whole. -/
set_option linter.unusedVariables false
set_option linter.unusedSimpArgs false
namespace Go.Ax
open Go.RowKit
variable {P : Program} {ti : Nat → TI}
variable {nt N d : Nat} {s : St} {m : AMem} {H : Hp} {lam : Nat → Option Nat} {a : Act} {w w0 : World}
variable {Hi : Hp} {mi : AMem} {wi : World} {M : Nat → Option Nat} {s' : St}

theorem keepTs_mem : ∀ {l : List (Nat × Nat)} {ts : List (Nat × T)} {prs : List (Nat × Nat)}, keepTs s l = some (ts, prs) → ∀ {j : Nat} {x : T}, ofL ts j = some x → ∃ lbl px, (j, lbl) ∈ l ∧ keepT s lbl (s.tm j) = some (x, px) ∧ ∀ p ∈ px, p ∈ prs
  | [], ts, prs, h, j, x, hx => by
    simp only [keepTs, Option.some.injEq, Prod.mk.injEq] at h; obtain ⟨rfl, rfl⟩ := h; cases hx
  | (t, lbl) :: r, ts, prs, h, j, x, hx => by
    simp only [keepTs] at h
    obtain ⟨⟨y, ks⟩, h1, h2⟩ := Option.bind_eq_some_iff.1 h
    obtain ⟨⟨ys, ks'⟩, h3, h4⟩ := Option.map_eq_some_iff.1 h2
    simp only [Prod.mk.injEq] at h4; obtain ⟨rfl, rfl⟩ := h4
    simp only [ofL] at hx
    by_cases e : j = t
    · subst e
      simp only [Nat.beq_refl, cond_true, Option.some.injEq] at hx; subst hx
      exact ⟨lbl, ks, List.mem_cons_self, h1, fun p hp => List.mem_append_left _ hp⟩
    · rw [beq_ne e, cond_false] at hx
      obtain ⟨lbl', px, g1, g2, g3⟩ := keepTs_mem h3 hx
      exact ⟨lbl', px, List.mem_cons_of_mem _ g1, g2, fun p hp => List.mem_append_right _ (g3 p hp)⟩

theorem keepLs_mem : ∀ {l : List (Nat × List Nat)} {ts : List (Nat × List T)} {prs : List (Nat × Nat)}, keepLs s l = some (ts, prs) → ∀ {j : Nat} {x : List T}, ofL ts j = some x → ∃ lbls cs px, (j, lbls) ∈ l ∧ s.lc j = some cs ∧ keepCells s lbls cs = some (x, px) ∧ ∀ p ∈ px, p ∈ prs
  | [], ts, prs, h, j, x, hx => by
    simp only [keepLs, Option.some.injEq, Prod.mk.injEq] at h; obtain ⟨rfl, rfl⟩ := h; cases hx
  | (t, lbls) :: r, ts, prs, h, j, x, hx => by
    simp only [keepLs] at h
    split at h
    · obtain ⟨lbls', cs, px, g1, g2⟩ := keepLs_mem h hx
      exact ⟨lbls', cs, px, List.mem_cons_of_mem _ g1, g2⟩
    · rename_i cs hcs
      obtain ⟨⟨y, ks⟩, h1, h2⟩ := Option.bind_eq_some_iff.1 h
      obtain ⟨⟨ys, ks'⟩, h3, h4⟩ := Option.map_eq_some_iff.1 h2
      simp only [Prod.mk.injEq] at h4; obtain ⟨rfl, rfl⟩ := h4
      simp only [ofL] at hx
      by_cases e : j = t
      · subst e
        simp only [Nat.beq_refl, cond_true, Option.some.injEq] at hx; subst hx
        exact ⟨lbls, cs, ks, List.mem_cons_self, hcs, h1, fun p hp => List.mem_append_left _ hp⟩
      · rw [beq_ne e, cond_false] at hx
        obtain ⟨lbls', cs, px, g1, g2, g3, g4⟩ := keepLs_mem h3 hx
        exact ⟨lbls', cs, px, List.mem_cons_of_mem _ g1, g2, g3, fun p hp => List.mem_append_right _ (g4 p hp)⟩

theorem keepCell_ok {lbl : Nat} {c y : T} {px : List (Nat × Nat)} (h : keepT s lbl c = some (y, px)) {u : Value} (hv : VQ d H s c u) (hM : ∀ p ∈ px, M p.1 = some p.2) (hlab : lbl ≠ 0 → s'.seen lbl = true) : VQ d (fun c => relab d M (H c)) s' y u := by
  have hle := relab_hle (H := H) (d := d) M
  have h1 := VQ_one hv
  have h2 := hv.2
  unfold keepT at h
  cases hb : Nat.beq lbl 0 with
  | true =>
    rw [hb] at h
    simp only [cond_true] at h
    cases c <;> first | exact h2.elim | skip
    case v x =>
      simp only [Option.some.injEq, Prod.mk.injEq] at h; obtain ⟨rfl, rfl⟩ := h
      exact VQ_v h1 (V_mono hle _ _ h2.2)
    case own k sz xs =>
      cases k with
      | zero =>
        simp only [Option.some.injEq, Prod.mk.injEq] at h; obtain ⟨rfl, rfl⟩ := h
        exact ⟨fun k sz xs e => by injection e with e _ _; exact .inl e.symm, V_mono hle _ _ h2.1, h2.2.1, fun h => absurd rfl h⟩
      | succ k =>
        simp only [Option.some.injEq, Prod.mk.injEq] at h; obtain ⟨rfl, rfl⟩ := h
        exact VQ_v h1 (V_mono hle _ _ h2.1)
  | false =>
    rw [hb] at h
    simp only [cond_false] at h
    have hl0 : lbl ≠ 0 := by rintro rfl; cases hb
    cases c <;> first | exact h2.elim | (cases h; done) | skip
    case own k sz xs =>
      obtain ⟨hb, h3⟩ := bnd_some h
      simp only [Option.some.injEq, Prod.mk.injEq] at h3; obtain ⟨rfl, rfl⟩ := h3
      refine ⟨fun k sz xs e => by injection e with e _ _; subst e; exact .inr (hlab hl0), V_mono hle _ _ h2.1, fun h => absurd h hl0, fun _ _ => ?_⟩
      by_cases hk : k = 0
      · subst hk
        obtain ⟨b, e⟩ := h2.2.1 rfl
        exact ⟨b, _, e, .inl ⟨rfl, fun hl => by
          simp only [Nat.beq_refl, cond_true, Bool.and_eq_true, Bool.or_eq_true, List.isEmpty_iff] at hb
          rcases hb.2 with h9 | h9
          · exact absurd (Nat.eq_of_beq_eq_true h9) hl
          · rw [h9]; rfl⟩⟩
      · have hkl : s.live k = true := by
          simp only [Bool.and_eq_true, Bool.or_eq_true] at hb
          exact hb.1.resolve_left (fun e => hk (Nat.eq_of_beq_eq_true e))
        have : Nat.beq k 0 = false := beq_ne hk
        rw [this] at hM
        exact relab_tok (hM (k, lbl) (by simp)) (fun hl => by
          rw [this] at hb
          simp only [cond_false, Bool.and_eq_true, Bool.or_eq_true] at hb
          rcases hb.2 with h9 | h9
          · exact absurd (Nat.eq_of_beq_eq_true h9) hl
          · exact Nat.eq_of_beq_eq_true h9) (h2.2.2 hk hkl)

theorem keepCells_ok : ∀ {lbls : List Nat} {cs cs' : List T} {px : List (Nat × Nat)} {us : List Value}, keepCells s lbls cs = some (cs', px) → All2 (VQ d H s) cs us → (∀ p ∈ px, M p.1 = some p.2) → (∀ l ∈ lbls, l ≠ 0 → s'.seen l = true) → All2 (VQ d (fun c => relab d M (H c)) s') cs' us
  | lbls, [], cs', px, [], h, _, _, _ => by
    simp only [keepCells, Option.some.injEq, Prod.mk.injEq] at h; obtain ⟨rfl, rfl⟩ := h; trivial
  | _, [], _, _, _ :: _, _, h, _, _ => h.elim
  | _, _ :: _, _, _, [], _, h, _, _ => h.elim
  | lbls, c :: r, cs', px, u :: us, h, ⟨h1, h2⟩, hM, hl => by
    simp only [keepCells] at h
    obtain ⟨⟨y, ks⟩, h3, h4⟩ := Option.bind_eq_some_iff.1 h
    obtain ⟨⟨ys, ks'⟩, h5, h6⟩ := Option.map_eq_some_iff.1 h4
    simp only [Prod.mk.injEq] at h6; obtain ⟨rfl, rfl⟩ := h6
    refine ⟨keepCell_ok h3 h1 (fun p hp => hM p (List.mem_append_left _ hp)) (fun h0 => ?_), keepCells_ok h5 h2 (fun p hp => hM p (List.mem_append_right _ hp)) fun l hlm => hl l ?_⟩
    · cases lbls with
      | nil => exact absurd rfl h0
      | cons l r => exact hl _ List.mem_cons_self h0
    · cases lbls with
      | nil => exact hlm
      | cons l r => exact List.mem_cons_of_mem _ hlm

def PrOk (ps : List (Nat × Nat)) : Prop := ∀ p ∈ ps, elOf p.2 ≠ 0 → elOf p.2 = elOf p.1
theorem PrOk.app {a b : List (Nat × Nat)} (h : PrOk a) (k : PrOk b) : PrOk (a ++ b) := fun p hp => (List.mem_append.1 hp).elim (h p) (k p)
theorem PrOk.nil : PrOk [] := fun p hp => by cases hp
theorem keepT_pr {l : Nat} {x y : T} {ps : List (Nat × Nat)} (h : keepT s l x = some (y, ps)) : PrOk ps := by
  unfold keepT at h
  cases hb : Nat.beq l 0 with
  | true =>
    rw [hb] at h
    simp only [cond_true] at h
    split at h
    · injection h with h; injection h with _ h; subst h; exact PrOk.nil
    · injection h with h; injection h with _ h; subst h; exact PrOk.nil
    · injection h with h; injection h with _ h; subst h; exact PrOk.nil
    · obtain ⟨z, _, h2⟩ := Option.map_eq_some_iff.1 h
      injection h2 with _ h2; subst h2; exact PrOk.nil
    · injection h with h; injection h with _ h; subst h; exact PrOk.nil
  | false =>
    rw [hb] at h
    simp only [cond_false] at h
    split at h
    · rename_i k sz xs
      obtain ⟨hc, h1⟩ := bnd_some h
      injection h1 with h1; injection h1 with _ h1; subst h1
      cases hk : Nat.beq k 0 with
      | true => exact PrOk.nil
      | false =>
        intro p hp hl
        simp only [cond_false, List.mem_singleton] at hp
        subst hp
        rw [hk] at hc
        simp only [cond_false, Bool.and_eq_true, Bool.or_eq_true] at hc
        rcases hc.2 with h9 | h9
        · exact absurd (Nat.eq_of_beq_eq_true h9) hl
        · exact Nat.eq_of_beq_eq_true h9
    · cases h
theorem keepTs_pr : ∀ {l : List (Nat × Nat)} {ts : List (Nat × T)} {ps : List (Nat × Nat)}, keepTs s l = some (ts, ps) → PrOk ps
  | [], ts, ps, h => by injection h with h; injection h with _ h; subst h; exact PrOk.nil
  | (t, l) :: r, ts, ps, h => by
    simp only [keepTs] at h
    obtain ⟨⟨x, ks⟩, h1, h2⟩ := Option.bind_eq_some_iff.1 h
    obtain ⟨⟨xs, ks'⟩, h3, h4⟩ := Option.map_eq_some_iff.1 h2
    injection h4 with _ h4; subst h4
    exact (keepT_pr h1).app (keepTs_pr h3)
theorem keepCells_pr : ∀ {ls : List Nat} {cs xs : List T} {ps : List (Nat × Nat)}, keepCells s ls cs = some (xs, ps) → PrOk ps
  | ls, [], xs, ps, h => by injection h with h; injection h with _ h; subst h; exact PrOk.nil
  | ls, c :: r, xs, ps, h => by
    simp only [keepCells] at h
    obtain ⟨⟨x, ks⟩, h1, h2⟩ := Option.bind_eq_some_iff.1 h
    obtain ⟨⟨xs, ks'⟩, h3, h4⟩ := Option.map_eq_some_iff.1 h2
    injection h4 with _ h4; subst h4
    exact (keepT_pr h1).app (keepCells_pr h3)
theorem keepLs_pr : ∀ {l : List (Nat × List Nat)} {ts : List (Nat × List T)} {ps : List (Nat × Nat)}, keepLs s l = some (ts, ps) → PrOk ps
  | [], ts, ps, h => by injection h with h; injection h with _ h; subst h; exact PrOk.nil
  | (t, ls) :: r, ts, ps, h => by
    simp only [keepLs] at h
    split at h
    · exact keepLs_pr h
    · obtain ⟨⟨x, ks⟩, h1, h2⟩ := Option.bind_eq_some_iff.1 h
      obtain ⟨⟨xs, ks'⟩, h3, h4⟩ := Option.map_eq_some_iff.1 h2
      injection h4 with _ h4; subst h4
      exact (keepCells_pr h1).app (keepLs_pr h3)

theorem canon_ok {k : Keep} (h : canon k s = some s') (hi : Inv nt N d w0 Hi mi wi s m a w) : Inv nt N d w0 Hi mi wi s' m a w := by
  obtain ⟨H, lam, hw, hf, x, hN⟩ := hi
  unfold canon at h
  obtain ⟨⟨ts, ks⟩, h1, h2⟩ := Option.bind_eq_some_iff.1 h
  obtain ⟨⟨ls, ks'⟩, h3, h4⟩ := Option.bind_eq_some_iff.1 h2
  obtain ⟨hd, h5⟩ := bnd_some h4
  simp only [Option.some.injEq] at h5
  let M : Nat → Option Nat := fun j => ofL (ks ++ ks') j
  have hM1 : ∀ p ∈ ks, M p.1 = some p.2 := fun p hp => ofL_of_mem hd (List.mem_append_left _ hp)
  have hM2 : ∀ p ∈ ks', M p.1 = some p.2 := fun p hp => ofL_of_mem hd (List.mem_append_right _ hp)
  have hpr := (keepTs_pr h1).app (keepLs_pr h3)
  obtain ⟨g1, g2⟩ := relab_ok (d := d) hw M (fun k l hk => hpr (k, l) (ofL_mem hk)) N
  have hlabT : ∀ j lbl, (j, lbl) ∈ k.tm → lbl ≠ 0 → (labels k).contains lbl = true := by
    intro j lbl hm h0
    rw [List.contains_eq_mem, decide_eq_true_eq]
    refine List.mem_filter.2 ⟨List.mem_append_left _ (List.mem_map.2 ⟨_, hm, rfl⟩), ?_⟩
    rw [beq_ne h0]; rfl
  have hlabC : ∀ j lbls, (j, lbls) ∈ k.lc → ∀ l ∈ lbls, l ≠ 0 → (labels k).contains l = true := by
    intro j lbls hm l hl h0
    rw [List.contains_eq_mem, decide_eq_true_eq]
    refine List.mem_filter.2 ⟨List.mem_append_right _ (List.mem_flatten.2 ⟨lbls, List.mem_map.2 ⟨_, hm, rfl⟩, hl⟩), ?_⟩
    rw [beq_ne h0]; rfl
  have hseenL : ∀ l, (labels k).contains l = true → s'.seen l = true := fun l hl => by rw [← h5]; simp only [hl, Bool.true_or]
  have hlc : ∀ t cs, ofL ls t = some cs → s'.seen t = true ∧ (s.lc t).isSome = true := by
    intro t cs ht
    obtain ⟨lbls, cs0, px, q1, q2, q3, q4⟩ := keepLs_mem h3 ht
    refine ⟨?_, by rw [q2]; rfl⟩
    have : (k.lc.map (·.1)).contains t = true := by
      rw [List.contains_eq_mem, decide_eq_true_eq]; exact List.mem_map.2 ⟨_, q1, rfl⟩
    rw [← h5]; simp only [this, Bool.or_true, Bool.true_or]
  have hmp : ∀ t, k.mp.contains t = true → s'.seen t = true ∧ s'.mp t = s.mp t := fun t ht => ⟨by rw [← h5]; show ((labels k).contains t || (k.lc.map (·.1)).contains t || k.mp.contains t || k.it.contains t) = true; rw [ht, Bool.or_true, Bool.true_or], by rw [← h5]; show (bif k.mp.contains t then s.mp t else none) = s.mp t; rw [ht]; rfl⟩
  have hit : ∀ t, k.it.contains t = true → s'.seen t = true ∧ s'.it t = s.it t := fun t ht => ⟨by rw [← h5]; show ((labels k).contains t || (k.lc.map (·.1)).contains t || k.mp.contains t || k.it.contains t) = true; rw [ht, Bool.or_true], by rw [← h5]; show (bif k.it.contains t then s.it t else none) = s.it t; rw [ht]; rfl⟩
  refine ⟨fun c => relab d M (H c), lam, g1, ⟨hf.size, fun t => ?_, fun t cs hcs => ?_, fun t es hes => ?_, fun t l p hl => ?_, hf.inj, hf.lamN, ?_, fun j hj => ?_⟩, x.trans g2, hN⟩
  · have e : s'.tm t = match ofL ts t with | some x => leads ls k.mp k.it x | none => .any := by subst h5; rfl
    rw [e]
    cases ho : ofL ts t with
    | none => trivial
    | some y =>
      obtain ⟨lbl, px, q1, q2, q3⟩ := keepTs_mem h1 ho
      exact keepT_ok q2 (hf.tm t) (fun p hp => hM1 p (q3 p hp)) (fun _ _ => trivial) (fun h0 => hseenL _ (hlabT _ _ q1 h0)) ls k.mp k.it hlc hmp hit
  · have e : s'.lc t = ofL ls t := by rw [← h5]
    rw [e] at hcs
    obtain ⟨lbls, cs0, px, q1, q2, q3, q4⟩ := keepLs_mem h3 hcs
    obtain ⟨_, c, arr, ty, r1, r2, r3, r4, r5⟩ := hf.lcQ q2
    exact ⟨(hlc t cs hcs).1, c, arr, ty, r1, by simp only [r2, relab], r3, r4, keepCells_ok q3 r5 (fun p hp => hM2 p (q4 p hp)) fun l hl h0 => hseenL _ (hlabC _ _ q1 l hl h0)⟩
  · have e : s'.mp t = bif k.mp.contains t then s.mp t else none := by rw [← h5]
    rw [e] at hes
    cases hc : k.mp.contains t with
    | false => rw [hc] at hes; cases hes
    | true =>
      rw [hc] at hes
      obtain ⟨_, c, ents, clk, r1, r2, r3, r4, r5⟩ := hf.mp t es hes
      exact ⟨(hmp t hc).1, c, ents, clk, r1, by simp only [r2, relab], r3, r4, r5.mono fun _ _ _ h => ⟨V_mono (relab_hle M) _ _ h.1, V_mono (relab_hle M) _ _ h.2⟩⟩
  · have e : s'.it t = bif k.it.contains t then s.it t else none := by rw [← h5]
    rw [e] at hl
    cases hc : k.it.contains t with
    | false => rw [hc] at hl; cases hl
    | true =>
      rw [hc] at hl
      obtain ⟨_, c, r1, r2, r3, r4⟩ := hf.it t l p hl
      exact ⟨(hit t hc).1, c, r1, by simp only [r2, relab], r3, r4⟩
  · have e : s'.df = s.df := by rw [← h5]
    rw [e]
    exact hf.df.mono fun _ _ _ ⟨f, cap, e, vs, e2, hv⟩ => ⟨f, cap, e, vs, e2, VL_mono (relab_hle M) cap vs hv⟩
  · have e : s'.live j = (labels k).contains j := by rw [← h5]
    rw [e] at hj
    exact hseenL j hj

end Go.Ax
