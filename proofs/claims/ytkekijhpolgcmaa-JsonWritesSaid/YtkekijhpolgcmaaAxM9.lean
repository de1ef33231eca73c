/- The machine Ax, part AxM9: its steps and why they are sound. -/
import Derived.Test.YtkekijhpolgcmaaAxM1
import Derived.KernelRfl
/- Ax, the walk: rules that step through an abstract run. -/
set_option linter.unusedVariables false
set_option linter.unusedSimpArgs false
namespace Go.Ax

/-- Code ends so. -/
structure WP (E : Env) (call : CallT) (keep : List (Nat × Keep)) (n : Nat) (c : Code) (s : St) (m : AMem) (Q : AX → St → AMem → Prop) : Prop where
  out : ∃ x s' m', aCode E call keep n c s m = some (x, s', m') ∧ Q x s' m'

/-- The rest of a region's operations ends so. -/
structure WPo (E : Env) (call : CallT) (ops : Array Oper) (rest : List Oper) (s : St) (m : AMem) (es : List Eff) (Q : St → AMem → List Eff → Prop) : Prop where
  out : ∃ s' m' es', runOps E call ops rest (s, m) = some (s', m', es') ∧ Q s' m' (es ++ es')

/-- A call answers so. -/
structure CallTo (call : CallT) (f : FuncId) (args : List AV) (m : AMem) (Q : AV → AMem → Prop) : Prop where
  out : ∃ r m', call f args m = some (r, m') ∧ Q r m'
abbrev Cal (P : Prg) (k : Nat) (f : FuncId) (args : List AV) (m : AMem) (Q : AV → AMem → Prop) : Prop := CallTo (aCall P k) f args m Q

structure SeqK (E : Env) (call : CallT) (keep : List (Nat × Keep)) (n : Nat) (b : Code) (Q : AX → St → AMem → Prop) (x : AX) (s : St) (m : AMem) : Prop where
  out : match x with | .normal => WP E call keep n b s m Q | x => Q x s m
structure BlockK (id : Nat) (Q : AX → St → AMem → Prop) (x : AX) (s : St) (m : AMem) : Prop where
  out : match x with | .exit j => (bif j.beq id then Q .normal s m else Q (.exit j) s m) | x => Q x s m

variable {E : Env} {call : CallT} {keep : List (Nat × Keep)} {n : Nat} {s : St} {m : AMem} {Q : AX → St → AMem → Prop}

theorem aw_seq {a b : Code} (h : WP E call keep n a s m (SeqK E call keep n b Q)) : WP E call keep n (.seq a b) s m Q := by
  obtain ⟨x, s', m', h1, ⟨h2⟩⟩ := h
  cases x with
  | normal =>
    obtain ⟨x', s'', m'', h3, h4⟩ := h2
    exact ⟨x', s'', m'', by simp only [aCode, h1, Option.bind_some]; exact h3, h4⟩
  | exit j => exact ⟨_, _, _, by simp only [aCode, h1, Option.bind_some], h2⟩
  | ret => exact ⟨_, _, _, by simp only [aCode, h1, Option.bind_some], h2⟩
theorem aw_skip (h : Q .normal s m) : WP E call keep n .skip s m Q := ⟨_, _, _, rfl, h⟩
theorem aw_exit {id : Nat} (h : Q (.exit id) s m) : WP E call keep n (.exit id) s m Q := ⟨_, _, _, rfl, h⟩
theorem aw_ret (h : Q .ret s m) : WP E call keep n .ret s m Q := ⟨_, _, _, rfl, h⟩
theorem seqK_normal {b : Code} (h : WP E call keep n b s m Q) : SeqK E call keep n b Q .normal s m := ⟨h⟩
theorem seqK_exit {b : Code} {j : Nat} (h : Q (.exit j) s m) : SeqK E call keep n b Q (.exit j) s m := ⟨h⟩
theorem seqK_ret {b : Code} (h : Q .ret s m) : SeqK E call keep n b Q .ret s m := ⟨h⟩
theorem blockK_normal {id : Nat} (h : Q .normal s m) : BlockK id Q .normal s m := ⟨h⟩
theorem blockK_ret {id : Nat} (h : Q .ret s m) : BlockK id Q .ret s m := ⟨h⟩
theorem blockK_exit {id : Nat} (h : Q .normal s m) : BlockK id Q (.exit id) s m := ⟨by simp [h]⟩
theorem blockK_out {id j : Nat} (hj : Nat.beq j id = false) (h : Q (.exit j) s m) : BlockK id Q (.exit j) s m := ⟨by simp only [hj, cond_false]; exact h⟩
theorem aw_block {id : Nat} {b : Code} (h : WP E call keep n b s m (BlockK id Q)) : WP E call keep n (.block id b) s m Q := by
  obtain ⟨x, s', m', h1, ⟨h2⟩⟩ := h
  cases x with
  | normal => exact ⟨_, _, _, by simp only [aCode, h1, Option.map_some], h2⟩
  | ret => exact ⟨_, _, _, by simp only [aCode, h1, Option.map_some], h2⟩
  | exit j =>
    cases hb : Nat.beq j id with
    | true => simp only [hb] at h2; exact ⟨_, _, _, by simp only [aCode, h1, Option.map_some, hb, cond_true], h2⟩
    | false => simp only [hb] at h2; exact ⟨_, _, _, by simp only [aCode, h1, Option.map_some, hb, cond_false], h2⟩
theorem aw_cond {c : Operand} {a b : Code} {cb : Bool} (hc : s.ev c = some (.v (.bool cb))) (ht : cb = true → WP E call keep n a s m Q) (hf : cb = false → WP E call keep n b s m Q) : WP E call keep n (.cond c a b) s m Q := by
  cases cb with
  | true => obtain ⟨x, s', m', h1, h2⟩ := ht rfl; exact ⟨x, s', m', by simp only [aCode, hc, Option.bind_some, boolOf]; exact h1, h2⟩
  | false => obtain ⟨x, s', m', h1, h2⟩ := hf rfl; exact ⟨x, s', m', by simp only [aCode, hc, Option.bind_some, boolOf]; exact h1, h2⟩
theorem aw_cond_t {c : Operand} {a b : Code} {cb : Bool} (hc : s.ev c = some (.v (.bool cb))) (hb : cb = true) (ht : WP E call keep n a s m Q) : WP E call keep n (.cond c a b) s m Q :=
  aw_cond hc (fun _ => ht) (fun h => by rw [hb] at h; cases h)
theorem aw_cond_f {c : Operand} {a b : Code} {cb : Bool} (hc : s.ev c = some (.v (.bool cb))) (hb : cb = false) (hf : WP E call keep n b s m Q) : WP E call keep n (.cond c a b) s m Q :=
  aw_cond hc (fun h => by rw [hb] at h; cases h) (fun _ => hf)

theorem aw_region {id : Nat} {l : List Oper} (h : WPo E call l.toArray l s m [] fun s m _ => Q .normal s m) : WP E call keep n (.region id l.toArray false) s m Q := by
  obtain ⟨s', m', es', h1, h2⟩ := h
  exact ⟨_, _, _, by simp only [aCode, aRegion, h1, Option.bind_some, Bool.not_false, Bool.true_or, bnd, cond_true, Option.map_some], h2⟩
structure DrawK (l : List Oper) (es : List Eff) (Q : AX → St → AMem → Prop) (s : St) (m : AMem) : Prop where
  out : (edgesDown 0 l && pairsOk l.toArray (befGo l []) es) = true ∧ Q .normal s m
theorem drawK {l : List Oper} {es : List Eff} (h : (edgesDown 0 l && pairsOk l.toArray (befGo l []) es) = true) (h2 : Q .normal s m) : DrawK l es Q s m := ⟨⟨h, h2⟩⟩
theorem aw_draw {id : Nat} {l : List Oper} (h : WPo E call l.toArray l s m [] fun s m es => DrawK l es Q s m) : WP E call keep n (.region id l.toArray true) s m Q := by
  obtain ⟨s', m', es', h1, ⟨h2, h3⟩⟩ := h
  rw [List.nil_append] at h2
  exact ⟨_, _, _, by simp only [aCode, aRegion, h1, Option.bind_some, Bool.not_true, Bool.false_or, h2, bnd, cond_true, Option.map_some], h3⟩

/-! ### parts of a body, so that what stands behind several ways is proved once -/
def dropSeq : Nat → Code → Code
  | 0, c => c
  | n + 1, .seq _ b => dropSeq n b
  | _, c => c
def headSeq : Code → Code
  | .seq a _ => a
  | c => c
def blockBody : Code → Code
  | .block _ b => b
  | c => c
/-! ### loops -/
structure LoopK {α : Type} (kp : Keep) (Hd : α → St) (Hm : α → AMem) (Inv : α → Prop) (μ : α → Nat) (a : α) (Q : AX → St → AMem → Prop) (x : AX) (s : St) (m : AMem) : Prop where
  out : match x with | .normal => ∃ a', canon kp s = some (Hd a') ∧ Hm a' = m ∧ Inv a' ∧ μ a' < μ a | x => Q x s m
theorem loopK_exit {α : Type} {kp : Keep} {Hd : α → St} {Hm : α → AMem} {Inv : α → Prop} {μ : α → Nat} {a : α} {j : Nat} (h : Q (.exit j) s m) : LoopK kp Hd Hm Inv μ a Q (.exit j) s m := ⟨h⟩
theorem loopK_ret {α : Type} {kp : Keep} {Hd : α → St} {Hm : α → AMem} {Inv : α → Prop} {μ : α → Nat} {a : α} (h : Q .ret s m) : LoopK kp Hd Hm Inv μ a Q .ret s m := ⟨h⟩
theorem loopK_next {α : Type} {kp : Keep} {Hd : α → St} {Hm : α → AMem} {Inv : α → Prop} {μ : α → Nat} {a : α} (a' : α) (h1 : canon kp s = some (Hd a')) (h2 : Hm a' = m) (h3 : Inv a') (h4 : μ a' < μ a) : LoopK kp Hd Hm Inv μ a Q .normal s m := ⟨⟨a', h1, h2, h3, h4⟩⟩
theorem keepCells_v : ∀ {cs : List T}, (∀ c ∈ cs, ∃ x, c = .v x) → keepCells s [] cs = some (cs, [])
  | [], _ => rfl
  | c :: r, h => by
    obtain ⟨x, rfl⟩ := h c List.mem_cons_self
    have : keepT s 0 (.v x) = some (.v x, []) := rfl
    simp only [keepCells, List.headD_nil, this, Option.bind_some, List.tail_nil, keepCells_v (fun c hc => h c (List.mem_cons_of_mem _ hc)), Option.map_some, List.append_nil]
theorem keepLs1 {t : Nat} {cs : List T} (h : s.lc t = some cs) (hv : ∀ c ∈ cs, ∃ x, c = .v x) : keepLs s [(t, [])] = some ([(t, cs)], []) := by
  simp only [keepLs, h, keepCells_v hv, Option.bind_some, Option.map_some, List.append_nil]
/-- One string iterator that is kept. -/
def it1 (t : Nat) (q : List UInt8 × Nat) : Nat → Option (List UInt8 × Nat) := fun j => bif j.beq t then some q else none
theorem it1_ok {t : Nat} {q : List UInt8 × Nat} (h : s.it t = some q) : (fun j => bif [t].contains j then s.it j else none) = it1 t q := by
  funext j
  by_cases e : j = t
  · subst e; simp [it1, h]
  · have : Nat.beq j t = false := by cases hb : Nat.beq j t with
      | false => rfl
      | true => exact absurd (Nat.eq_of_beq_eq_true hb) e
    simp [it1, this, e]
/-- One map of the frame that is kept. -/
def mp1 (t : Nat) (q : List (AV × AV)) : Nat → Option (List (AV × AV)) := fun j => bif j.beq t then some q else none
theorem mp1_ok {t : Nat} {q : List (AV × AV)} (h : s.mp t = some q) : (fun j => bif [t].contains j then s.mp j else none) = mp1 t q := by
  funext j
  by_cases e : j = t
  · subst e; simp [mp1, h]
  · have : Nat.beq j t = false := by cases hb : Nat.beq j t with
      | false => rfl
      | true => exact absurd (Nat.eq_of_beq_eq_true hb) e
    simp [mp1, this, e]
/-- A frame at a loop's head. -/
def hd (k : Keep) (ts : List (Nat × T)) (ls : List (Nat × List T)) (mp : Nat → Option (List (AV × AV))) (it : Nat → Option (List UInt8 × Nat)) (df : List AV) : St :=
  { tm := fun j => match ofL ts j with | some x => leads ls k.mp k.it x | none => .any
    lc := fun j => ofL ls j, mp := mp, it := it
    live := fun j => (labels k).contains j
    seen := fun j => (labels k).contains j || (k.lc.map (·.1)).contains j || k.mp.contains j || k.it.contains j
    df := df }
theorem canon_hd {k : Keep} {ts : List (Nat × T)} {ls : List (Nat × List T)} {ks ks' : List (Nat × Nat)} {mp : Nat → Option (List (AV × AV))} {it : Nat → Option (List UInt8 × Nat)} {df : List AV}
    (h1 : keepTs s k.tm = some (ts, ks)) (h2 : keepLs s k.lc = some (ls, ks')) (h3 : distinct ((ks ++ ks').map (·.1)) = true) (h4 : (fun j => bif k.mp.contains j then s.mp j else none) = mp) (h5 : (fun j => bif k.it.contains j then s.it j else none) = it) (h6 : s.df = df) :
    canon k s = some (hd k ts ls mp it df) := by
  simp only [canon, h1, h2, Option.bind_some, h3, bnd, cond_true, h4, h5, h6, hd]; rfl
/-- Where a loop stands: a canonical frame over the loop's variables. -/
theorem aw_loop {α : Type} {b : Code} {kp : Keep} (hk : ofL keep (firstRegion b) = some kp) (Hd : α → St) (Hm : α → AMem) (Inv : α → Prop) (μ : α → Nat) (a0 : α)
    (h0 : canon kp s = some (Hd a0)) (hm0 : Hm a0 = m) (hi0 : Inv a0) (hn : μ a0 < n)
    (hb : ∀ a, Inv a → WP E call keep n b (Hd a) (Hm a) (LoopK kp Hd Hm Inv μ a Q)) : WP E call keep n (.loop b) s m Q := by
  have key : ∀ (q : Nat) (a : α) (s : St) (m : AMem), μ a < q → canon kp s = some (Hd a) → Hm a = m → Inv a → ∃ x s' m', loopN (some kp) (aCode E call keep n b) q s m = some (x, s', m') ∧ Q x s' m' := by
    intro q
    induction q with
    | zero => intro a s m h; omega
    | succ q ih =>
      intro a s m hq hc hm hi
      obtain ⟨x, s', m', h1, ⟨h2⟩⟩ := (hb a hi).out
      subst hm
      cases x with
      | normal =>
        obtain ⟨a', h3, h4, h5, h6⟩ := h2
        obtain ⟨x, s2, m2, h7, h8⟩ := ih a' s' m' (by omega) h3 h4 h5
        exact ⟨x, s2, m2, by simp only [loopN, Option.bind_some, hc, h1]; exact h7, h8⟩
      | exit j => exact ⟨_, _, _, by simp only [loopN, Option.bind_some, hc, h1], h2⟩
      | ret => exact ⟨_, _, _, by simp only [loopN, Option.bind_some, hc, h1], h2⟩
  obtain ⟨x, s', m', h1, h2⟩ := key n a0 s m hn h0 hm0 hi0
  exact ⟨x, s', m', by simp only [aCode, hk]; exact h1, h2⟩

/-! ### operations -/
variable {ops : Array Oper} {rest : List Oper} {es : List Eff} {R : St → AMem → List Eff → Prop}

theorem ao_nil (h : R s m es) : WPo E call ops [] s m es R := ⟨s, m, [], rfl, by simpa using h⟩
theorem ao_op {o : Oper} {e : Eff} (hd : dstOk E.nt o.dst = true) (hw : wantedA ops s o = some true) (he : aEff E call s m o = some e)
    (h : WPo E call ops rest (s.put o.dst e) (e.mw.getD m) (es ++ [e]) R) : WPo E call ops (o :: rest) s m es R := by
  obtain ⟨s', m', es', h1, h2⟩ := h
  exact ⟨s', m', e :: es', by simp only [runOps, aStep, hd, hw, he, bnd, cond_true, Option.bind_some, Option.map_some, h1], by simpa using h2⟩
theorem ao_skip {o : Oper} (hd : dstOk E.nt o.dst = true) (hw : wantedA ops s o = some false)
    (h : WPo E call ops rest (s.put o.dst ({} : Eff)) m (es ++ [({} : Eff)]) R) : WPo E call ops (o :: rest) s m es R := by
  obtain ⟨s', m', es', h1, h2⟩ := h
  exact ⟨s', m', ({} : Eff) :: es', by simp only [runOps, aStep, hd, hw, bnd, cond_true, Option.bind_some, Option.map_some, h1], by simpa using h2⟩

/-- The guard's own temporary. -/
def gOf (ops : Array Oper) (j : Nat) : Option Tmp := (ops[j]?).bind (·.dst)
variable {dst : Option Tmp} {op : Op} {rt : TypeId} {pos : String} {af : Array Edge} {j t : Nat} {want b : Bool}
theorem ao_yes (hj : gOf ops j = some t) (ht : s.tm t = .v (.bool b)) (hb : b = want) (h : WPo E call ops (⟨dst, op, rt, pos, af, none⟩ :: rest) s m es R) :
    WPo E call ops (⟨dst, op, rt, pos, af, some (j, want)⟩ :: rest) s m es R := by
  obtain ⟨s', m', es', h1, h2⟩ := h
  refine ⟨s', m', es', ?_, h2⟩
  have hw : wantedA ops s ⟨dst, op, rt, pos, af, some (j, want)⟩ = some true := by simp only [wantedA]; unfold gOf at hj; rw [hj]; simp only [ht, hb, beq_self_eq_true]
  rw [← h1]
  have e1 : aEff E call s m ⟨dst, op, rt, pos, af, some (j, want)⟩ = aEff E call s m ⟨dst, op, rt, pos, af, none⟩ := rfl
  have e2 : wantedA ops s ⟨dst, op, rt, pos, af, none⟩ = some true := rfl
  simp only [runOps, aStep, hw, e2, e1]
theorem ao_no (hd : dstOk E.nt dst = true) (hj : gOf ops j = some t) (ht : s.tm t = .v (.bool b)) (hb : b = !want) (h : WPo E call ops rest (s.put dst ({} : Eff)) m (es ++ [({} : Eff)]) R) :
    WPo E call ops (⟨dst, op, rt, pos, af, some (j, want)⟩ :: rest) s m es R := by
  refine ao_skip hd ?_ h
  simp only [wantedA]; unfold gOf at hj; rw [hj]; simp only [ht, hb]; cases want <;> rfl
theorem ao_un (hd : dstOk E.nt dst = true) (hj : gOf ops j = some t) (ht : s.tm t = .undef) (h : WPo E call ops rest (s.put dst ({} : Eff)) m (es ++ [({} : Eff)]) R) :
    WPo E call ops (⟨dst, op, rt, pos, af, some (j, want)⟩ :: rest) s m es R := by
  refine ao_skip hd ?_ h
  simp only [wantedA]; unfold gOf at hj; rw [hj]; simp only [ht]
theorem ao_ask (hj : gOf ops j = some t) (ht : s.tm t = .v (.bool b)) (h1 : b = true → WPo E call ops (⟨dst, op, rt, pos, af, some (j, want)⟩ :: rest) s m es R) (h2 : b = false → WPo E call ops (⟨dst, op, rt, pos, af, some (j, want)⟩ :: rest) s m es R) :
    WPo E call ops (⟨dst, op, rt, pos, af, some (j, want)⟩ :: rest) s m es R := by
  cases b with
  | true => exact h1 rfl
  | false => exact h2 rfl

variable {x y c : Operand} {tx ty' : T} {a a' a'' : AV} {ty tyb : TypeId} {k : IntKind} {p q : Int}
theorem ao_move (hd : dstOk E.nt dst = true) (hx : s.ev x = some tx) (h : WPo E call ops rest (s.put dst { val := tx }) m (es ++ [{ val := tx }]) R) :
    WPo E call ops (⟨dst, .move x, rt, pos, af, none⟩ :: rest) s m es R := ao_op hd rfl (by simp only [aEff, hx, one, Option.map_some]) h
theorem ao_assign (hd : dstOk E.nt dst = true) (hx : s.ev x = some tx) (h : WPo E call ops rest (s.put dst { val := tx }) m (es ++ [{ val := tx }]) R) :
    WPo E call ops (⟨dst, .assign x, rt, pos, af, none⟩ :: rest) s m es R := ao_op hd rfl (by simp only [aEff, hx, one, Option.map_some]) h
theorem ao_pick_t (hd : dstOk E.nt dst = true) (hc : s.ev c = some (.v (.bool b))) (hb : b = true) (hx : s.ev x = some tx) (h : WPo E call ops rest (s.put dst { val := tx }) m (es ++ [{ val := tx }]) R) :
    WPo E call ops (⟨dst, .pick c x y, rt, pos, af, none⟩ :: rest) s m es R := ao_op hd rfl (by subst hb; simp only [aEff, hc, boolOf, Option.bind_some, hx, one, Option.map_some]) h
theorem ao_pick_f (hd : dstOk E.nt dst = true) (hc : s.ev c = some (.v (.bool b))) (hb : b = false) (hx : s.ev y = some tx) (h : WPo E call ops rest (s.put dst { val := tx }) m (es ++ [{ val := tx }]) R) :
    WPo E call ops (⟨dst, .pick c x y, rt, pos, af, none⟩ :: rest) s m es R := ao_op hd rfl (by subst hb; simp only [aEff, hc, boolOf, Option.bind_some, hx, one, Option.map_some]) h

/-- What cannot be an operand of an operation on flat values. -/
def AV.flat : AV → Bool
  | .agg _ => false
  | _ => true
theorem ao_bin {bo : BinOp} (hd : dstOk E.nt dst = true) (hx : s.ev x = some (.v a)) (hy : s.ev y = some (.v a')) (hf : a.flat = true) (hr : aBin E.ti ty bo a a' = some a'')
    (h : WPo E call ops rest (s.put dst { val := .v a'' }) m (es ++ [{ val := .v a'' }]) R) : WPo E call ops (⟨dst, .binOp bo ty x y tyb, rt, pos, af, none⟩ :: rest) s m es R := by
  refine ao_op hd rfl ?_ h
  simp only [aEff, hx, hy, Option.bind_some, T.av]
  cases a <;> first | (cases hf; done) | simp only [hr, oneV, Option.map_some]
/-- The number fits: no wrap. -/
def fits (k : IntKind) (p : Int) : Prop := k.min ≤ p ∧ p ≤ k.max
theorem ao_add (hd : dstOk E.nt dst = true) (hx : s.ev x = some (.v (.int .i64 p))) (hy : s.ev y = some (.v (.int .i64 q))) (hw : -9223372036854775808 ≤ p + q ∧ p + q ≤ 9223372036854775807)
    (h : WPo E call ops rest (s.put dst { val := .v (.int .i64 (p + q)) }) m (es ++ [{ val := .v (.int .i64 (p + q)) }]) R) : WPo E call ops (⟨dst, .binOp .add ty x y tyb, rt, pos, af, none⟩ :: rest) s m es R := by
  refine ao_bin hd hx hy rfl (by simp only [aBin, aInt, if_true]; rw [show IntKind.i64.wrap (p + q) = p + q by simp [IntKind.wrap, IntKind.bits, IntKind.signed]; omega]) h
theorem ao_sub (hd : dstOk E.nt dst = true) (hx : s.ev x = some (.v (.int .i64 p))) (hy : s.ev y = some (.v (.int .i64 q))) (hw : -9223372036854775808 ≤ p - q ∧ p - q ≤ 9223372036854775807)
    (h : WPo E call ops rest (s.put dst { val := .v (.int .i64 (p - q)) }) m (es ++ [{ val := .v (.int .i64 (p - q)) }]) R) : WPo E call ops (⟨dst, .binOp .sub ty x y tyb, rt, pos, af, none⟩ :: rest) s m es R := by
  refine ao_bin hd hx hy rfl (by simp only [aBin, aInt, if_true]; rw [show IntKind.i64.wrap (p - q) = p - q by simp [IntKind.wrap, IntKind.bits, IntKind.signed]; omega]) h
end Go.Ax
/- Ax, the walk: the operations. -/
set_option linter.unusedVariables false
set_option linter.unusedSimpArgs false
namespace Go.Ax
variable {E : Env} {call : CallT} {s : St} {m m' : AMem}
variable {ops : Array Oper} {rest : List Oper} {es : List Eff} {R : St → AMem → List Eff → Prop}
variable {dst : Option Tmp} {rt : TypeId} {pos : String} {af : Array Edge} {j t : Nat} {want b : Bool}
variable {x y c z : Operand} {tx tz tt : T} {a a' a'' : AV} {ty tyb : TypeId} {k k' : IntKind} {p q : Int} {l l' : List UInt8} {cs : List T} {ys : List T} {xs zs : List AV} {sz off id i n e : Nat} {r : AV}

theorem updS {α : Type} {f : Nat → α} {k : Nat} {x : α} : upd f k x k = x := by simp [upd]
theorem updN {α : Type} {f : Nat → α} {j k : Nat} {x : α} (h : j ≠ k) : upd f k x j = f j := by
  have : Nat.beq j k = false := by cases hb : Nat.beq j k with
    | false => rfl
    | true => exact absurd (Nat.eq_of_beq_eq_true hb) h
  simp [upd, this]
theorem wrap_fits (k : IntKind) (p : Int) (h : fits k p) : k.wrap p = p := by
  unfold fits at h
  cases k <;> simp [IntKind.wrap, IntKind.min, IntKind.max, IntKind.bits, IntKind.signed] at h ⊢ <;> omega
theorem fits_i64 (h : -9223372036854775808 ≤ p ∧ p ≤ 9223372036854775807) : fits .i64 p := by unfold fits; simp [IntKind.min, IntKind.max, IntKind.bits, IntKind.signed]; omega
theorem fits_u8 (h : 0 ≤ p ∧ p ≤ 255) : fits .u8 p := by unfold fits; simp [IntKind.min, IntKind.max, IntKind.bits, IntKind.signed]; omega
theorem fits_i32 (h : -2147483648 ≤ p ∧ p ≤ 2147483647) : fits .i32 p := by unfold fits; simp [IntKind.min, IntKind.max, IntKind.bits, IntKind.signed]; omega
theorem fits_u32 (h : 0 ≤ p ∧ p ≤ 4294967295) : fits .u32 p := by unfold fits; simp [IntKind.min, IntKind.max, IntKind.bits, IntKind.signed]; omega
theorem fits_u64 (h : 0 ≤ p ∧ p ≤ 18446744073709551615) : fits .u64 p := by unfold fits; simp [IntKind.min, IntKind.max, IntKind.bits, IntKind.signed]; omega

theorem ao_mul (hd : dstOk E.nt dst = true) (hx : s.ev x = some (.v (.int .i64 p))) (hy : s.ev y = some (.v (.int .i64 q))) (hw : -9223372036854775808 ≤ p * q ∧ p * q ≤ 9223372036854775807)
    (h : WPo E call ops rest (s.put dst { val := .v (.int .i64 (p * q)) }) m (es ++ [{ val := .v (.int .i64 (p * q)) }]) R) : WPo E call ops (⟨dst, .binOp .mul ty x y tyb, rt, pos, af, none⟩ :: rest) s m es R := by
  refine ao_bin hd hx hy rfl (by simp only [aBin, aInt, if_true]; rw [wrap_fits _ _ (fits_i64 hw)]) h
/-- A quotient of a number that is not negative, by one that is above 0. -/
theorem ao_quo (hd : dstOk E.nt dst = true) (hx : s.ev x = some (.v (.int .i64 p))) (hy : s.ev y = some (.v (.int .i64 q))) (hw : 0 ≤ p ∧ p ≤ 9223372036854775807 ∧ 0 < q)
    (h : WPo E call ops rest (s.put dst { val := .v (.int .i64 (p / q)) }) m (es ++ [{ val := .v (.int .i64 (p / q)) }]) R) : WPo E call ops (⟨dst, .binOp .quo ty x y tyb, rt, pos, af, none⟩ :: rest) s m es R := by
  have h1 : p.tdiv q = p / q := Int.tdiv_eq_ediv_of_nonneg hw.1
  have h2 : 0 ≤ p / q := Int.ediv_nonneg hw.1 (by omega)
  have h3 : p / q ≤ p := Int.ediv_le_self q hw.1
  refine ao_bin hd hx hy rfl (by simp only [aBin, aInt, if_true]; rw [if_neg (by omega), h1, wrap_fits _ _ (fits_i64 (by omega))]) h
theorem ao_rem (hd : dstOk E.nt dst = true) (hx : s.ev x = some (.v (.int .i64 p))) (hy : s.ev y = some (.v (.int .i64 q))) (hw : 0 ≤ p ∧ 0 < q)
    (h : WPo E call ops rest (s.put dst { val := .v (.int .i64 (p % q)) }) m (es ++ [{ val := .v (.int .i64 (p % q)) }]) R) : WPo E call ops (⟨dst, .binOp .rem ty x y tyb, rt, pos, af, none⟩ :: rest) s m es R := by
  have h1 : p.tmod q = p % q := Int.tmod_eq_emod_of_nonneg hw.1
  refine ao_bin hd hx hy rfl (by simp only [aBin, aInt, if_true]; rw [if_neg (by omega), h1]) h

/-- Two texts, one behind the other. -/
theorem ao_cat (hd : dstOk E.nt dst = true) (hx : s.ev x = some (.v (.str l))) (hy : s.ev y = some (.v (.str l'))) (hb : l.length + l'.length ≤ 9223372036854775807)
    (h : WPo E call ops rest (s.put dst { val := .v (.str (l ++ l')) }) m (es ++ [{ val := .v (.str (l ++ l')) }]) R) : WPo E call ops (⟨dst, .binOp .add ty x y tyb, rt, pos, af, none⟩ :: rest) s m es R :=
  ao_bin hd hx hy rfl (by simp only [aBin, aStr, if_pos hb]) h
/-- A shift to the right of a number that is not negative. -/
theorem ao_shr (D : Int) (hd : dstOk E.nt dst = true) (hx : s.ev x = some (.v (.int k p))) (hy : s.ev y = some (.v (.int k' q))) (hw : 0 ≤ p ∧ 0 ≤ q) (hD : (2 : Int) ^ (min q.toNat k.bits) = D)
    (h : WPo E call ops rest (s.put dst { val := .v (.int k (p / D)) }) m (es ++ [{ val := .v (.int k (p / D)) }]) R) : WPo E call ops (⟨dst, .binOp .shr ty x y tyb, rt, pos, af, none⟩ :: rest) s m es R := by
  refine ao_bin hd hx hy rfl (by simp only [aBin, aInt]; rw [if_neg (by omega), hD, Int.fdiv_eq_ediv_of_nonneg _ (by rw [← hD]; exact Int.pow_nonneg (by omega))]) h
theorem and_mask : ∀ n : Fin 256, (IntKind.u8.wrap (BitVec.ofInt 8 (n.val : Int) &&& BitVec.ofInt 8 15).toNat) = (n.val : Int) % 16 := by decide +kernel
theorem ao_and15 (hd : dstOk E.nt dst = true) (hx : s.ev x = some (.v (.int .u8 p))) (hy : s.ev y = some (.v (.int .u8 15))) (hw : 0 ≤ p ∧ p < 256)
    (h : WPo E call ops rest (s.put dst { val := .v (.int .u8 (p % 16)) }) m (es ++ [{ val := .v (.int .u8 (p % 16)) }]) R) : WPo E call ops (⟨dst, .binOp .and ty x y tyb, rt, pos, af, none⟩ :: rest) s m es R := by
  refine ao_bin hd hx hy rfl ?_ h
  simp only [aBin, aInt, if_true, aBits]
  have := and_mask ⟨p.toNat, by omega⟩
  simp only [Int.toNat_of_nonneg hw.1] at this
  rw [show IntKind.u8.bits = 8 from rfl, this]
theorem ao_unop {uo : UnOp} (hd : dstOk E.nt dst = true) (hx : s.ev x = some (.v a)) (hr : aUn uo a = some a'')
    (h : WPo E call ops rest (s.put dst { val := .v a'' }) m (es ++ [{ val := .v a'' }]) R) : WPo E call ops (⟨dst, .unOp uo ty x, rt, pos, af, none⟩ :: rest) s m es R :=
  ao_op hd rfl (by simp only [aEff, hx, Option.bind_some, T.av, hr, oneV, Option.map_some]) h
theorem ao_neg (hd : dstOk E.nt dst = true) (hx : s.ev x = some (.v (.int .i64 p))) (hw : -9223372036854775808 < p ∧ p ≤ 9223372036854775807)
    (h : WPo E call ops rest (s.put dst { val := .v (.int .i64 (-p)) }) m (es ++ [{ val := .v (.int .i64 (-p)) }]) R) : WPo E call ops (⟨dst, .unOp .neg ty x, rt, pos, af, none⟩ :: rest) s m es R :=
  ao_unop hd hx (by simp only [aUn]; rw [show (0 : Int) - p = -p by omega, wrap_fits _ _ (fits_i64 (by omega))]) h

theorem ao_conv_int {src dt : TypeId} (hd : dstOk E.nt dst = true) (hx : s.ev x = some (.v (.int k' p))) (h1 : (E.ti src).k = .int k') (h2 : (E.ti dt).k = .int k) (hw : fits k p)
    (h : WPo E call ops rest (s.put dst { val := .v (.int k p) }) m (es ++ [{ val := .v (.int k p) }]) R) : WPo E call ops (⟨dst, .convert src dt x, rt, pos, af, none⟩ :: rest) s m es R :=
  ao_op hd rfl (by simp only [aEff, hx, Option.bind_some, aConvert, h1, h2, oneV, Option.map_some, wrap_fits _ _ hw]) h
theorem ao_conv_char {src dt : TypeId} (hd : dstOk E.nt dst = true) (hx : s.ev x = some (.v (.int k' p))) (h1 : (E.ti src).k = .int k) (h2 : (E.ti dt).k = .str) (hw : 0 ≤ p ∧ p < 128)
    (h : WPo E call ops rest (s.put dst { val := .v (.str [UInt8.ofNat p.toNat]) }) m (es ++ [{ val := .v (.str [UInt8.ofNat p.toNat]) }]) R) : WPo E call ops (⟨dst, .convert src dt x, rt, pos, af, none⟩ :: rest) s m es R :=
  ao_op hd rfl (by simp only [aEff, hx, Option.bind_some, aConvert, h1, h2, if_pos hw, oneV, Option.map_some]) h
theorem ao_conv_bs {src dt : TypeId} (hd : dstOk E.nt dst = true) (hx : s.ev x = some (.v (.str l))) (h1 : (E.ti src).k = .str) (h2 : (E.ti dt).k = .slice e) (h3 : (E.ti e).k = .int .u8)
    (h : WPo E call ops rest (s.put dst { val := .v (.sl 1 (ofBytes l)) }) m (es ++ [{ val := .v (.sl 1 (ofBytes l)) }]) R) : WPo E call ops (⟨dst, .convert src dt x, rt, pos, af, none⟩ :: rest) s m es R :=
  ao_op hd rfl (by simp only [aEff, hx, Option.bind_some, aConvert, h1, h2, h3, oneV, Option.map_some]) h
theorem ao_conv_ss {src dt : TypeId} (hd : dstOk E.nt dst = true) (hx : s.ev x = some (.v (.str l))) (h1 : (E.ti src).k = .str) (h2 : (E.ti dt).k = .str)
    (h : WPo E call ops rest (s.put dst { val := .v (.str l) }) m (es ++ [{ val := .v (.str l) }]) R) : WPo E call ops (⟨dst, .convert src dt x, rt, pos, af, none⟩ :: rest) s m es R :=
  ao_op hd rfl (by simp only [aEff, hx, Option.bind_some, aConvert, h1, h2, oneV, Option.map_some]) h
theorem slice_ne_mref (h : tx.slice = some (sz, xs)) : ∀ t off len sz ag, tx ≠ .mref t off len sz ag := by
  intro t off len sz ag e; subst e; cases h
theorem ao_conv_sb {src dt : TypeId} (hd : dstOk E.nt dst = true) (hx : s.ev x = some tx) (h1 : (E.ti src).k = .slice e) (h2 : (E.ti dt).k = .str) (h3 : (E.ti e).k = .int .u8) (hs : tx.slice = some (sz, xs)) (hb : bytesOf xs = some l)
    (h : WPo E call ops rest (s.put dst { val := .v (.str l) }) m (es ++ [{ val := .v (.str l) }]) R) : WPo E call ops (⟨dst, .convert src dt x, rt, pos, af, none⟩ :: rest) s m es R := by
  refine ao_op hd rfl ?_ h
  simp only [aEff, hx, Option.bind_some, aConvert, h1, h2, h3]
  have := slice_ne_mref hs
  cases tx <;> first | exact absurd rfl (this _ _ _ _ _) | (cases hs; done) | simp only [hs, Option.bind_some, hb, oneV, Option.map_some]

/-! ### addresses -/
theorem ao_field (hd : dstOk E.nt dst = true) (hx : s.ev x = some tx) (ho : opn s tx = true) (hr : aField E ty i tx = some tt)
    (h : WPo E call ops rest (s.put dst { val := tt, lr := rds tx }) m (es ++ [{ val := tt, lr := rds tx }]) R) : WPo E call ops (⟨dst, .fieldAddr ty x i, rt, pos, af, none⟩ :: rest) s m es R :=
  ao_op hd rfl (by simp only [aEff, hx, Option.bind_some, hr, oneR, ho, bnd, cond_true, Option.map_some]) h
theorem ao_check_reg (hd : dstOk E.nt dst = true) (hx : s.ev x = some (.reg t off)) (ho : opn s (.reg t off) = true)
    (h : WPo E call ops rest (s.put dst { val := .reg t off, lr := [t] }) m (es ++ [{ val := .reg t off, lr := [t] }]) R) : WPo E call ops (⟨dst, .nilCheck x, rt, pos, af, none⟩ :: rest) s m es R :=
  ao_op hd rfl (by simp only [aEff, hx, Option.bind_some, oneR, ho, bnd, cond_true, Option.map_some, rds]) h
theorem ao_check_ea (hd : dstOk E.nt dst = true) (hx : s.ev x = some (.ea sz xs i off))
    (h : WPo E call ops rest (s.put dst { val := .ea sz xs i off }) m (es ++ [{ val := .ea sz xs i off }]) R) : WPo E call ops (⟨dst, .nilCheck x, rt, pos, af, none⟩ :: rest) s m es R :=
  ao_op hd rfl (by simp only [aEff, hx, Option.bind_some, one, Option.map_some]) h
theorem ao_check_ptr (hd : dstOk E.nt dst = true) (hx : s.ev x = some (.v (.ptr id off)))
    (h : WPo E call ops rest (s.put dst { val := .v (.ptr id off) }) m (es ++ [{ val := .v (.ptr id off) }]) R) : WPo E call ops (⟨dst, .nilCheck x, rt, pos, af, none⟩ :: rest) s m es R :=
  ao_op hd rfl (by simp only [aEff, hx, Option.bind_some, one, Option.map_some]) h
theorem ao_iaddr (hd : dstOk E.nt dst = true) (hx : s.ev x = some tx) (hy : s.ev y = some (.v (.int k p))) (ht : (E.ti ty).k = .slice e) (hs : tx.slice = some (sz, xs)) (hz : Nat.beq sz (E.ti e).sz = true) (hb : 0 ≤ p ∧ p < xs.length)
    (h : WPo E call ops rest (s.put dst { val := .ea sz xs p.toNat 0 }) m (es ++ [{ val := .ea sz xs p.toNat 0 }]) R) : WPo E call ops (⟨dst, .indexAddr ty x y, rt, pos, af, none⟩ :: rest) s m es R := by
  have := slice_ne_mref hs
  refine ao_op hd rfl ?_ h
  simp only [aEff, hx, hy, Option.bind_some, intOf, aIndexAddr, ht]
  cases tx <;> first | exact absurd rfl (this _ _ _ _ _) | (cases hs; done) | simp only [hs, Option.bind_some, if_pos hb, hz, oneR, opn, rds, bnd, cond_true, Option.map_some]
theorem ao_iaddr_arr {n' : Nat} (hd : dstOk E.nt dst = true) (hx : s.ev x = some (.reg t off)) (hy : s.ev y = some (.v (.int k p))) (ho : opn s (.reg t off) = true) (ht : (E.ti ty).k = .array n' e) (hb : 0 ≤ p ∧ p < n')
    (h : WPo E call ops rest (s.put dst { val := .reg t (off + p.toNat * (E.ti e).sz), lr := [t] }) m (es ++ [{ val := .reg t (off + p.toNat * (E.ti e).sz), lr := [t] }]) R) : WPo E call ops (⟨dst, .indexAddr ty x y, rt, pos, af, none⟩ :: rest) s m es R := by
  refine ao_op hd rfl ?_ h
  simp only [aEff, hx, hy, Option.bind_some, intOf, aIndexAddr, ht, if_pos hb, oneR, ho, rds, bnd, cond_true, Option.map_some]
theorem ao_index {bt : UInt8} (hd : dstOk E.nt dst = true) (hx : s.ev x = some (.v (.str l))) (hy : s.ev y = some (.v (.int k p))) (ht : (E.ti ty).k = .str) (hp : 0 ≤ p) (hb : l[p.toNat]? = some bt)
    (h : WPo E call ops rest (s.put dst { val := .v (.int .u8 bt.toNat) }) m (es ++ [{ val := .v (.int .u8 bt.toNat) }]) R) : WPo E call ops (⟨dst, .index ty x y, rt, pos, af, none⟩ :: rest) s m es R := by
  refine ao_op hd rfl ?_ h
  simp only [aEff, hx, hy, Option.bind_some, intOf, aIndex, ht, if_pos hp, hb, one, Option.map_some]

/-! ### slices and strings cut -/
def optI (s : St) : Option Operand → Option (Option Int)
  | none => some none
  | some y => (s.ev y).bind fun y => (intOf y).map some
variable {lo hi : Option Operand} {lo' hi' : Option Int}
theorem ao_slice_str (hd : dstOk E.nt dst = true) (hx : s.ev x = some (.v (.str l))) (h1 : optI s lo = some lo') (h2 : optI s hi = some hi') (ht : (E.ti ty).k = .str) (hb : 0 ≤ lo'.getD 0 ∧ lo'.getD 0 ≤ hi'.getD l.length ∧ hi'.getD l.length ≤ l.length)
    (h : WPo E call ops rest (s.put dst { val := .v (.str ((l.drop (lo'.getD 0).toNat).take ((hi'.getD l.length).toNat - (lo'.getD 0).toNat))) }) m (es ++ [{ val := .v (.str ((l.drop (lo'.getD 0).toNat).take ((hi'.getD l.length).toNat - (lo'.getD 0).toNat))) }]) R) :
    WPo E call ops (⟨dst, .slice ty x lo hi none, rt, pos, af, none⟩ :: rest) s m es R := by
  refine ao_op hd rfl ?_ h
  cases lo <;> cases hi <;> simp only [optI] at h1 h2 <;> simp only [aEff, hx, h1, h2, Option.bind_some, aSlice, ht, if_pos hb, oneR, opn, rds, bnd, cond_true, Option.map_some]
  · injection h1 with h1; injection h2 with h2; subst h1 h2; simp only [if_pos hb, Option.map_some]
  · injection h1 with h1; subst h1; simp only [if_pos hb, Option.map_some]
  · injection h2 with h2; subst h2; simp only [if_pos hb, Option.map_some]
theorem ao_slice_sl (hd : dstOk E.nt dst = true) (hx : s.ev x = some tx) (hs : tx.slice = some (sz, xs)) (h1 : optI s lo = some lo') (h2 : optI s hi = some hi') (ht : (E.ti ty).k = .slice e) (hz : (Nat.beq sz (E.ti e).sz || Nat.beq sz 0) = true)
    (hb : 0 ≤ lo'.getD 0 ∧ lo'.getD 0 ≤ hi'.getD xs.length ∧ hi'.getD xs.length ≤ xs.length)
    (h : WPo E call ops rest (s.put dst { val := .v (.sl sz ((xs.drop (lo'.getD 0).toNat).take ((hi'.getD xs.length).toNat - (lo'.getD 0).toNat))) }) m (es ++ [{ val := .v (.sl sz ((xs.drop (lo'.getD 0).toNat).take ((hi'.getD xs.length).toNat - (lo'.getD 0).toNat))) }]) R) :
    WPo E call ops (⟨dst, .slice ty x lo hi none, rt, pos, af, none⟩ :: rest) s m es R := by
  have hm := slice_ne_mref hs
  have ho : opn s tx = true ∧ rds tx = [] := by cases tx <;> first | (cases hs; done) | exact absurd rfl (hm _ _ _ _ _) | exact ⟨rfl, rfl⟩
  have hsl : aSlice E ty tx lo' hi' none = some (.v (.sl sz ((xs.drop (lo'.getD 0).toNat).take ((hi'.getD xs.length).toNat - (lo'.getD 0).toNat)))) := by
    simp only [aSlice, ht]
    cases tx <;> first | exact absurd rfl (hm _ _ _ _ _) | (cases hs; done) | simp only [hs, Option.bind_some, if_pos hb, hz, bnd, cond_true]
  refine ao_op hd rfl ?_ h
  cases lo <;> cases hi <;> simp only [optI] at h1 h2
  · injection h1 with h1; injection h2 with h2; subst h1 h2; simp only [aEff, hx, Option.bind_some, hsl, oneR, ho.1, ho.2, bnd, cond_true, Option.map_some]
  · injection h1 with h1; subst h1; simp only [aEff, hx, h2, Option.bind_some, hsl, oneR, ho.1, ho.2, bnd, cond_true, Option.map_some]
  · injection h2 with h2; subst h2; simp only [aEff, hx, h1, Option.bind_some, hsl, oneR, ho.1, ho.2, bnd, cond_true, Option.map_some]
  · simp only [aEff, hx, h1, h2, Option.bind_some, hsl, oneR, ho.1, ho.2, bnd, cond_true, Option.map_some]

theorem ao_slice_arr {n' : Nat} (hd : dstOk E.nt dst = true) (hx : s.ev x = some (.reg t off)) (ho : opn s (.reg t off) = true) (h1 : optI s lo = some lo') (h2 : optI s hi = some hi') (ht : (E.ti ty).k = .array n' e) (hb : 0 ≤ lo'.getD 0 ∧ lo'.getD 0 ≤ hi'.getD n' ∧ hi'.getD n' ≤ n')
    (h : WPo E call ops rest (s.put dst { val := .mref t (off + (lo'.getD 0).toNat * (E.ti e).sz) ((hi'.getD n').toNat - (lo'.getD 0).toNat) (E.ti e).sz (E.ti e).isAgg, lr := [t] }) m (es ++ [{ val := .mref t (off + (lo'.getD 0).toNat * (E.ti e).sz) ((hi'.getD n').toNat - (lo'.getD 0).toNat) (E.ti e).sz (E.ti e).isAgg, lr := [t] }]) R) :
    WPo E call ops (⟨dst, .slice ty x lo hi none, rt, pos, af, none⟩ :: rest) s m es R := by
  have hsl : aSlice E ty (.reg t off) lo' hi' none = some (.mref t (off + (lo'.getD 0).toNat * (E.ti e).sz) ((hi'.getD n').toNat - (lo'.getD 0).toNat) (E.ti e).sz (E.ti e).isAgg) := by
    simp only [aSlice, ht, if_pos hb]
  refine ao_op hd rfl ?_ h
  cases lo <;> cases hi <;> simp only [optI] at h1 h2
  · injection h1 with h1; injection h2 with h2; subst h1 h2; simp only [aEff, hx, Option.bind_some, hsl, oneR, ho, rds, bnd, cond_true, Option.map_some]
  · injection h1 with h1; subst h1; simp only [aEff, hx, h2, Option.bind_some, hsl, oneR, ho, rds, bnd, cond_true, Option.map_some]
  · injection h2 with h2; subst h2; simp only [aEff, hx, h1, Option.bind_some, hsl, oneR, ho, rds, bnd, cond_true, Option.map_some]
  · simp only [aEff, hx, h1, h2, Option.bind_some, hsl, oneR, ho, rds, bnd, cond_true, Option.map_some]

/-! ### loads, stores -/
theorem ao_load_reg (hd : dstOk E.nt dst = true) (hx : s.ev x = some (.reg t off)) (hok : (E.ti ty).ok = true) (hc : s.lc t = some cs) (hl : loadT (E.ti ty) cs off = some tt)
    (h : WPo E call ops rest (s.put dst { val := tt, lr := [t] }) m (es ++ [{ val := tt, lr := [t] }]) R) : WPo E call ops (⟨dst, .load ty x, rt, pos, af, none⟩ :: rest) s m es R :=
  ao_op hd rfl (by simp only [aEff, hok, hx, bnd, cond_true, Option.bind_some, aLoad, hc, hl, Option.map_some]) h
theorem ao_load_ea (hd : dstOk E.nt dst = true) (hx : s.ev x = some (.ea sz xs i off)) (hok : (E.ti ty).ok = true) (ha : (E.ti ty).isAgg = false) (he : xs[i]? = some a) (hc : a.cells[off]? = some a')
    (h : WPo E call ops rest (s.put dst { val := .v a' }) m (es ++ [{ val := .v a' }]) R) : WPo E call ops (⟨dst, .load ty x, rt, pos, af, none⟩ :: rest) s m es R :=
  ao_op hd rfl (by simp only [aEff, hok, hx, bnd, cond_true, Option.bind_some, aLoad, he, ha, hc, Option.map_some]) h
/-- A whole element that is a struct. -/
theorem ao_load_el (hd : dstOk E.nt dst = true) (hx : s.ev x = some (.ea sz xs i 0)) (hok : (E.ti ty).ok = true) (ha : (E.ti ty).isAgg = true) (he : xs[i]? = some (.agg zs)) (hc : zs.length = (E.ti ty).sz)
    (h : WPo E call ops rest (s.put dst { val := .v (.agg zs) }) m (es ++ [{ val := .v (.agg zs) }]) R) : WPo E call ops (⟨dst, .load ty x, rt, pos, af, none⟩ :: rest) s m es R :=
  ao_op hd rfl (by
    simp only [aEff, hok, hx, bnd, cond_true, Option.bind_some, aLoad, he, ha, AV.cells, Nat.zero_add, ← hc, List.drop_zero, List.take_length]
    rw [show Nat.ble zs.length zs.length = true from Nat.ble_eq_true_of_le (Nat.le_refl _)]; rfl) h
theorem ao_load_ptr (hd : dstOk E.nt dst = true) (hx : s.ev x = some (.v (.ptr id off))) (hok : (E.ti ty).ok = true) (ha : (E.ti ty).isAgg = false) (hm : m.blk id = some cs) (hc : cs[off]? = some tz)
    (h : WPo E call ops rest (s.put dst { val := ldT id off tz, mr := true }) m (es ++ [{ val := ldT id off tz, mr := true }]) R) : WPo E call ops (⟨dst, .load ty x, rt, pos, af, none⟩ :: rest) s m es R :=
  ao_op hd rfl (by simp only [aEff, hok, hx, bnd, cond_true, Option.bind_some, aLoad, hm, ha, hc, Option.map_some]) h
theorem ao_load_ptrA (hd : dstOk E.nt dst = true) (hx : s.ev x = some (.v (.ptr id off))) (hok : (E.ti ty).ok = true) (ha : (E.ti ty).isAgg = true) (hm : m.blk id = some cs) (hc : loadT (E.ti ty) (cs.map down) off = some tz)
    (h : WPo E call ops rest (s.put dst { val := tz, mr := true }) m (es ++ [{ val := tz, mr := true }]) R) : WPo E call ops (⟨dst, .load ty x, rt, pos, af, none⟩ :: rest) s m es R :=
  ao_op hd rfl (by simp only [aEff, hok, hx, bnd, cond_true, Option.bind_some, aLoad, hm, ha, hc, Option.map_some]) h
theorem ao_store_reg (hd : dstOk E.nt dst = true) (hx : s.ev x = some (.reg t off)) (hy : s.ev y = some tx) (hok : (E.ti ty).ok = true) (hz : tx.cells = some ys) (hc : s.lc t = some cs) (hb : (Nat.beq ys.length (E.ti ty).sz && Nat.ble (off + ys.length) cs.length) = true)
    (h : WPo E call ops rest (s.put dst { lw := [(t, some (setAt cs off ys))], lr := [t] }) m (es ++ [{ lw := [(t, some (setAt cs off ys))], lr := [t] }]) R) : WPo E call ops (⟨dst, .store ty x y, rt, pos, af, none⟩ :: rest) s m es R := by
  refine ao_op hd rfl ?_ h
  simp only [aEff, hok, hx, hy, bnd, cond_true, Option.bind_some, aStore]
  cases tx <;> first | (cases hz; done) | simp only [hz, hc, Option.bind_some, hb, bnd, cond_true]
theorem ao_store_set (off' : Nat) (cs' : List T) (hd : dstOk E.nt dst = true) (hx : s.ev x = some (.reg t off)) (hy : s.ev y = some tx) (hok : (E.ti ty).ok = true) (hz : tx.cells = some ys) (hc : s.lc t = some cs) (ho : off = off') (h1 : Nat.beq ys.length (E.ti ty).sz = true) (hb : off' + ys.length ≤ cs.length) (hs : setAt cs off' ys = cs')
    (h : WPo E call ops rest (s.put dst { lw := [(t, some cs')], lr := [t] }) m (es ++ [{ lw := [(t, some cs')], lr := [t] }]) R) : WPo E call ops (⟨dst, .store ty x y, rt, pos, af, none⟩ :: rest) s m es R := by
  subst ho hs
  exact ao_store_reg hd hx hy hok hz hc (by rw [h1, Nat.ble_eq_true_of_le hb]; rfl) h
/-- Into memory: a token that becomes the cell's own. -/
theorem ao_store_own {kk ev : Nat} (hd : dstOk E.nt dst = true) (hx : s.ev x = some (.v (.ptr id off))) (hy : s.ev y = some (.own kk sz xs)) (hok : (E.ti ty).ok = true) (ha : (E.ti ty).isAgg = false) (h1 : Nat.beq (E.ti ty).sz 1 = true) (hk : Nat.beq kk 0 = false) (hlv : s.live kk = true) (hev : elOf kk = ev) (hm : m.blk id = some cs) (hc : Nat.blt off cs.length = true)
    (h : WPo E call ops rest (s.put dst { mr := true, mw := some { m with next := tk m.next ev + 1, blk := upd m.blk id (some (cs.set off (.own (tk m.next ev) sz xs))) }, kill := [kk] }) { m with next := tk m.next ev + 1, blk := upd m.blk id (some (cs.set off (.own (tk m.next ev) sz xs))) } (es ++ [{ mr := true, mw := some { m with next := tk m.next ev + 1, blk := upd m.blk id (some (cs.set off (.own (tk m.next ev) sz xs))) }, kill := [kk] }]) R) :
    WPo E call ops (⟨dst, .store ty x y, rt, pos, af, none⟩ :: rest) s m es R := by
  subst hev
  refine ao_op (e := { mr := true, mw := some { m with next := tk m.next (elOf kk) + 1, blk := upd m.blk id (some (cs.set off (.own (tk m.next (elOf kk)) sz xs))) }, kill := [kk] }) hd rfl ?_ h
  have hkk : kk ≠ 0 := by rintro rfl; cases hk
  obtain ⟨k1, rfl⟩ := Nat.exists_eq_succ_of_ne_zero hkk
  simp only [aEff, hok, hx, hy, bnd, cond_true, Option.bind_some, aStore, hm, ha, h1, esc, T.av, Option.map_some, memCell, hc, hlv, Bool.or_true, Bool.and_true]
theorem ao_store_ptr (hd : dstOk E.nt dst = true) (hx : s.ev x = some (.v (.ptr id off))) (hy : s.ev y = some (.v a)) (hok : (E.ti ty).ok = true) (ha : (E.ti ty).isAgg = false) (h1 : Nat.beq (E.ti ty).sz 1 = true) (hz : (T.v a).cell = some tz) (hm : m.blk id = some cs) (hc : Nat.blt off cs.length = true)
    (h : WPo E call ops rest (s.put dst { mr := true, mw := some { m with blk := upd m.blk id (some (cs.set off tz)) } }) { m with blk := upd m.blk id (some (cs.set off tz)) } (es ++ [{ mr := true, mw := some { m with blk := upd m.blk id (some (cs.set off tz)) } }]) R) :
    WPo E call ops (⟨dst, .store ty x y, rt, pos, af, none⟩ :: rest) s m es R := by
  refine ao_op (e := { mr := true, mw := some { m with blk := upd m.blk id (some (cs.set off tz)) } }) hd rfl ?_ h
  simp only [aEff, hok, hx, hy, bnd, cond_true, Option.bind_some, aStore, hm, ha, h1, esc, T.av, Option.map_some, hz, hc, closeL, closeP, List.map_nil]

/-! ### new variables -/
theorem ao_box_reg {d : Nat} (hd : dstOk E.nt (some d) = true) (hx : s.ev x = some tx) (hok : (E.ti ty).ok = true) (hz : tx.cells = some ys) (hl : Nat.beq ys.length (E.ti ty).sz = true) (hr : E.regs.contains d = true) (hs : s.seen d = false)
    (h : WPo E call ops rest (s.put (some d) { val := .reg d 0, lw := [(d, some ys)], lr := [d], use := [d] }) m (es ++ [{ val := .reg d 0, lw := [(d, some ys)], lr := [d], use := [d] }]) R) : WPo E call ops (⟨some d, .box ty x, rt, pos, af, none⟩ :: rest) s m es R :=
  ao_op hd rfl (by simp only [aEff, hok, hx, bnd, cond_true, Option.bind_some, hz, hl, dOp, Option.getD_some, hr, hs, Option.isSome_some, Bool.not_false, Bool.and_true]) h
theorem ao_box_mem {d : Nat} (hd : dstOk E.nt (some d) = true) (hx : s.ev x = some tx) (hok : (E.ti ty).ok = true) (hz : tx.cells = some ys) (hl : Nat.beq ys.length (E.ti ty).sz = true) (hr : E.regs.contains d = false)
    (h : WPo E call ops rest (s.put (some d) { val := .v (.ptr m.next 0), mr := true, mw := some { next := m.next + 1, blk := upd m.blk m.next (some (ys.map down)), ty := upd m.ty m.next ty } }) { next := m.next + 1, blk := upd m.blk m.next (some (ys.map down)), ty := upd m.ty m.next ty } (es ++ [{ val := .v (.ptr m.next 0), mr := true, mw := some { next := m.next + 1, blk := upd m.blk m.next (some (ys.map down)), ty := upd m.ty m.next ty } }]) R) :
    WPo E call ops (⟨some d, .box ty x, rt, pos, af, none⟩ :: rest) s m es R :=
  ao_op (e := { val := .v (.ptr m.next 0), mr := true, mw := some { next := m.next + 1, blk := upd m.blk m.next (some (ys.map down)), ty := upd m.ty m.next ty } }) hd rfl (by simp only [aEff, hok, hx, bnd, cond_true, Option.bind_some, hz, hl, dOp, Option.getD_some, hr, cond_false]) h
theorem ao_alloc_reg {d : Nat} (hd : dstOk E.nt (some d) = true) (hok : (E.ti ty).ok = true) (hl : Nat.beq (E.ti ty).zero.length (E.ti ty).sz = true) (hr : E.regs.contains d = true) (hs : s.seen d = false)
    (h : WPo E call ops rest (s.put (some d) { val := .reg d 0, lw := [(d, some (E.ti ty).zero)], lr := [d], use := [d] }) m (es ++ [{ val := .reg d 0, lw := [(d, some (E.ti ty).zero)], lr := [d], use := [d] }]) R) : WPo E call ops (⟨some d, .alloc ty, rt, pos, af, none⟩ :: rest) s m es R :=
  ao_op hd rfl (by simp only [aEff, hok, bnd, cond_true, hl, dOp, Option.getD_some, hr, hs, Option.isSome_some, Bool.not_false, Bool.and_true]) h
theorem ao_alloc_mem {d : Nat} (hd : dstOk E.nt (some d) = true) (hok : (E.ti ty).ok = true) (hl : Nat.beq (E.ti ty).zero.length (E.ti ty).sz = true) (hr : E.regs.contains d = false)
    (h : WPo E call ops rest (s.put (some d) { val := .v (.ptr m.next 0), mr := true, mw := some { next := m.next + 1, blk := upd m.blk m.next (some (E.ti ty).zero), ty := upd m.ty m.next ty } }) { next := m.next + 1, blk := upd m.blk m.next (some (E.ti ty).zero), ty := upd m.ty m.next ty } (es ++ [{ val := .v (.ptr m.next 0), mr := true, mw := some { next := m.next + 1, blk := upd m.blk m.next (some (E.ti ty).zero), ty := upd m.ty m.next ty } }]) R) :
    WPo E call ops (⟨some d, .alloc ty, rt, pos, af, none⟩ :: rest) s m es R :=
  ao_op (e := { val := .v (.ptr m.next 0), mr := true, mw := some { next := m.next + 1, blk := upd m.blk m.next (some (E.ti ty).zero), ty := upd m.ty m.next ty } }) hd rfl (by simp only [aEff, hok, bnd, cond_true, hl, dOp, Option.getD_some, hr, cond_false]) h

/-! ### what is built -/
def partsT (s : St) : List (Nat × Operand) → Option (List (Nat × T))
  | [] => some []
  | (i, o) :: r => (s.ev o).bind fun t => (partsT s r).map ((i, t) :: ·)
theorem partsT_eq (s : St) : ∀ ps : List (Nat × Operand), (ps.mapM fun (ix : Nat × Operand) => (s.ev ix.2).map fun y => (ix.1, y)) = partsT s ps
  | [] => rfl
  | (i, o) :: r => by
    rw [List.mapM_cons, partsT_eq s r]
    simp only [partsT]
    cases s.ev o <;> simp
    cases partsT s r <;> rfl
theorem ao_build {ps : Array (Nat × Operand)} {qs : List (Nat × T)} (hd : dstOk E.nt dst = true) (hp : partsT s ps.toList = some qs) (hb : aBuild E ty qs = some tt)
    (h : WPo E call ops rest (s.put dst { val := tt }) m (es ++ [{ val := tt }]) R) : WPo E call ops (⟨dst, .build ty ps, rt, pos, af, none⟩ :: rest) s m es R :=
  ao_op hd rfl (by simp only [aEff]; rw [partsT_eq, hp]; simp only [Option.bind_some, hb, one, Option.map_some]) h
theorem ao_buildS {ps : Array (Nat × Operand)} {qs : List (Nat × T)} (hd : dstOk E.nt dst = true) (hp : partsT s ps.toList = some qs) (hb : aBuildSlice E ty n qs = some tt)
    (h : WPo E call ops rest (s.put dst { val := tt }) m (es ++ [{ val := tt }]) R) : WPo E call ops (⟨dst, .buildSlice ty n ps, rt, pos, af, none⟩ :: rest) s m es R :=
  ao_op hd rfl (by simp only [aEff]; rw [partsT_eq, hp]; simp only [Option.bind_some, hb, one, Option.map_some]) h
theorem ao_extract (hd : dstOk E.nt dst = true) (hx : s.ev x = some (.v (.tup xs))) (hb : xs[i]? = some a)
    (h : WPo E call ops rest (s.put dst { val := .v a }) m (es ++ [{ val := .v a }]) R) : WPo E call ops (⟨dst, .extract x i, rt, pos, af, none⟩ :: rest) s m es R :=
  ao_op hd rfl (by simp only [aEff, hx, Option.bind_some, oneV, hb, Option.map_some]) h

/-! ### a string, rune by rune -/
theorem ao_range {d : Nat} (hd : dstOk E.nt (some d) = true) (hx : s.ev x = some (.v (.str l))) (ht : (E.ti ty).k = .str) (hs : s.seen d = false)
    (h : WPo E call ops rest (s.put (some d) { val := .sit d, iw := [(d, some (l, 0))], ir := [d], use := [d] }) m (es ++ [{ val := .sit d, iw := [(d, some (l, 0))], ir := [d], use := [d] }]) R) : WPo E call ops (⟨some d, .range ty x, rt, pos, af, none⟩ :: rest) s m es R :=
  ao_op hd rfl (by simp only [aEff, hx, Option.bind_some, ht, dOp, Option.getD_some, hs, Bool.not_false, Option.isSome_some, Bool.and_self, bnd, cond_true]) h
theorem ao_next_t {pp rr ww : Nat} (hd : dstOk E.nt dst = true) (hx : s.ev x = some (.sit t)) (hi : s.it t = some (l, pp)) (hp : pp < l.length) (hr : Utf8.decode ⟨l.toArray⟩ pp = (rr, ww))
    (h : WPo E call ops rest (s.put dst { val := .v (.tup [.bool true, .int .i64 pp, .int .i32 rr]), ir := [t], iw := [(t, some (l, pp + ww))] }) m (es ++ [{ val := .v (.tup [.bool true, .int .i64 pp, .int .i32 rr]), ir := [t], iw := [(t, some (l, pp + ww))] }]) R) : WPo E call ops (⟨dst, .next x true, rt, pos, af, none⟩ :: rest) s m es R :=
  ao_op hd rfl (by
    simp only [aEff, hx, Option.bind_some, hi, Option.map_some]
    have : Nat.blt pp l.length = true := Nat.ble_eq_true_of_le hp
    rw [this]; simp only [hr]) h
theorem ao_next_f {pp : Nat} (hd : dstOk E.nt dst = true) (hx : s.ev x = some (.sit t)) (hi : s.it t = some (l, pp)) (hp : l.length ≤ pp)
    (h : WPo E call ops rest (s.put dst { val := .v (.tup [.bool false]), ir := [t] }) m (es ++ [{ val := .v (.tup [.bool false]), ir := [t] }]) R) : WPo E call ops (⟨dst, .next x true, rt, pos, af, none⟩ :: rest) s m es R :=
  ao_op hd rfl (by
    simp only [aEff, hx, Option.bind_some, hi, Option.map_some]
    have : Nat.blt pp l.length = false := by
      cases hb : Nat.blt pp l.length with
      | false => rfl
      | true => have := Nat.le_of_ble_eq_true hb; omega
    rw [this]) h

/-! ### calls -/
/-- Operands as values that are handed on. -/
def argsV (s : St) : List Operand → Option (List AV)
  | [] => some []
  | o :: r => ((s.ev o).bind T.av).bind fun x => (argsV s r).map (x :: ·)
theorem esc_av {x : T} {y : AV} (h : x.av = some y) : esc s x = some { x := y } := by
  cases x <;> first | (cases h; done) | (simp only [esc, h, Option.map_some])
theorem argsV_ok {s : St} : ∀ {os : List Operand} {xs : List AV}, argsV s os = some xs → ∃ ts, os.mapM s.ev = some ts ∧ escs s ts = some (xs, [], [])
  | [], xs, h => by simp only [argsV, Option.some.injEq] at h; subst h; exact ⟨[], rfl, rfl⟩
  | o :: r, xs, h => by
    simp only [argsV] at h
    obtain ⟨x, h1, h2⟩ := Option.bind_eq_some_iff.1 h
    obtain ⟨t, h3, h4⟩ := Option.bind_eq_some_iff.1 h1
    obtain ⟨ys, h5, h6⟩ := Option.map_eq_some_iff.1 h2
    subst h6
    obtain ⟨ts, h7, h8⟩ := argsV_ok h5
    exact ⟨t :: ts, by rw [List.mapM_cons, h3, h7]; rfl, by simp only [escs, esc_av h4, Option.bind_some, h8, Option.map_some, List.nil_append]⟩
theorem argsV_caps {s : St} : ∀ {os : List Operand} {xs : List AV}, argsV s os = some xs → (os.mapM fun x => (s.ev x).bind T.av) = some xs
  | [], xs, h => by simp only [argsV, Option.some.injEq] at h; subst h; rfl
  | o :: r, xs, h => by
    simp only [argsV] at h
    obtain ⟨x, h1, h2⟩ := Option.bind_eq_some_iff.1 h
    obtain ⟨ys, h5, h6⟩ := Option.map_eq_some_iff.1 h2
    subst h6
    rw [List.mapM_cons, h1, argsV_caps h5]; rfl
theorem av0 : argsV s [] = some [] := rfl
theorem av1 {o : Operand} {r : List Operand} (h : s.ev o = some tx) (h1 : tx.av = some a) (h2 : argsV s r = some xs) : argsV s (o :: r) = some (a :: xs) := by
  simp only [argsV, h, Option.bind_some, h1, h2, Option.map_some]
theorem ao_func {f : FuncId} {cap : Array Operand} (hd : dstOk E.nt dst = true) (hc : argsV s cap.toList = some xs)
    (h : WPo E call ops rest (s.put dst { val := .v (.fn f xs) }) m (es ++ [{ val := .v (.fn f xs) }]) R) : WPo E call ops (⟨dst, .makeFunc (.func f) #[] cap, rt, pos, af, none⟩ :: rest) s m es R :=
  ao_op hd rfl (by simp only [aEff]; rw [argsV_caps hc]; rfl) h
theorem ao_call {fo : Operand} {f : FuncId} {cap : List AV} {args : Array Operand} {ats : Array TypeId} {C : AV → AMem → Prop} (hd : dstOk E.nt dst = true) (hf : s.ev fo = some (.v (.fn f cap))) (ha : argsV s args.toList = some xs) (hc : CallTo call f (xs ++ cap) m C)
    (h : ∀ r m', C r m' → WPo E call ops rest (s.put dst { val := .v r, mr := true, mw := some m' }) m' (es ++ [{ val := .v r, mr := true, mw := some m' }]) R) :
    WPo E call ops (⟨dst, .call ⟨.value fo, args, ats⟩, rt, pos, af, none⟩ :: rest) s m es R := by
  obtain ⟨r, m', h1, h2⟩ := hc.out
  obtain ⟨ts, h3, h4⟩ := argsV_ok ha
  refine ao_op (e := { val := .v r, mr := true, mw := some m' }) hd rfl ?_ (h r m' h2)
  simp only [aEff]
  rw [h3]
  simp only [Option.bind_some, hf, h4, distinct, bnd, Bool.and_self, cond_true, h1, Option.map_some, closeL, closeP, List.map_nil]
/-- A call whose second argument is a slice over a variable of the frame: the variable is closed. -/
theorem ao_call_m {fo o1 o2 : Operand} {f : FuncId} {cap : List AV} {ats : Array TypeId} {ag : Bool} {len : Nat} {C : AV → AMem → Prop} (hd : dstOk E.nt dst = true) (hf : s.ev fo = some (.v (.fn f cap))) (h1 : s.ev o1 = some tx) (h1' : tx.av = some a) (h2 : s.ev o2 = some (.mref t off len sz ag)) (hz : Nat.blt 0 sz = true) (hl : s.lc t = some cs) (hch : chunk sz ag len (cs.drop off) = some xs) (hc : CallTo call f ([a, .sl sz xs] ++ cap) m C)
    (h : ∀ r m', C r m' → WPo E call ops rest (s.put dst { val := .v r, mr := true, mw := some m', lr := [t], lw := [(t, none)] }) m' (es ++ [{ val := .v r, mr := true, mw := some m', lr := [t], lw := [(t, none)] }]) R) :
    WPo E call ops (⟨dst, .call ⟨.value fo, #[o1, o2], ats⟩, rt, pos, af, none⟩ :: rest) s m es R := by
  obtain ⟨r, m', h3, h4⟩ := hc.out
  refine ao_op (e := { val := .v r, mr := true, mw := some m', lr := [t], lw := [(t, none)] }) hd rfl ?_ (h r m' h4)
  have he : escs s [tx, .mref t off len sz ag] = some ([a, .sl sz xs], [t], []) := by
    simp only [escs]
    rw [esc_av h1']
    simp only [Option.bind_some, esc, hz, bnd, cond_true, hl, hch, Option.map_some, List.nil_append, List.append_nil]
  simp only [aEff, List.mapM_cons, List.mapM_nil, h1, h2]
  simp only [bind, Option.bind_some, pure, hf, he, distinct, bnd, List.contains_nil, Bool.not_false, Bool.and_self, cond_true, h3, Option.map_some, closeL, closeP, List.map_nil, List.map_cons]
theorem ao_len_str {ats : Array TypeId} (hd : dstOk E.nt dst = true) (hx : s.ev x = some (.v (.str l))) (h0 : ats[0]? = some ty) (ht : (E.ti ty).k = .str)
    (h : WPo E call ops rest (s.put dst { val := .v (.int .i64 l.length) }) m (es ++ [{ val := .v (.int .i64 l.length) }]) R) : WPo E call ops (⟨dst, .call ⟨.builtin .len, #[x], ats⟩, rt, pos, af, none⟩ :: rest) s m es R := by
  refine ao_op hd rfl ?_ h
  simp only [aEff, List.mapM_cons, List.mapM_nil, hx]
  simp [h0, oneR, aLen, ht, opn, rds, bnd]
theorem ao_len_sl {ats : Array TypeId} (hd : dstOk E.nt dst = true) (hx : s.ev x = some tx) (h0 : ats[0]? = some ty) (ht : (E.ti ty).k = .slice e) (hs : tx.slice = some (sz, xs))
    (h : WPo E call ops rest (s.put dst { val := .v (.int .i64 xs.length) }) m (es ++ [{ val := .v (.int .i64 xs.length) }]) R) : WPo E call ops (⟨dst, .call ⟨.builtin .len, #[x], ats⟩, rt, pos, af, none⟩ :: rest) s m es R := by
  refine ao_op hd rfl ?_ h
  have hm := slice_ne_mref hs
  simp only [aEff, List.mapM_cons, List.mapM_nil, hx]
  cases tx <;> first | (cases hs; done) | exact absurd rfl (hm _ _ _ _ _) | simp [h0, oneR, aLen, ht, opn, rds, bnd, hs]
/-- What is appended: a slice's elements, or a string's bytes. -/
def T.sliceS : T → Option (Nat × List AV)
  | .v (.str l) => some (1, ofBytes l)
  | x => x.slice
/-- append to a slice that the frame may append to. -/
theorem ao_app_own {kk szx d q : Nat} {ats : Array TypeId} {Z : Nat} (hd : dstOk E.nt (some d) = true) (hx : s.ev x = some (.own kk sz xs)) (hy : s.ev y = some tx) (h0 : ats[0]? = some ty) (h1 : appTy E ats[1]? = true) (ht : (E.ti ty).k = .slice e) (hs : tx.sliceS = some (szx, zs))
    (hz : ((Nat.beq szx (E.ti e).sz || zs.isEmpty) && Nat.beq (E.ti e).zero.length (E.ti e).sz) = true) (hk : (Nat.beq kk 0 || s.live kk) = true) (hq : (Nat.beq sz (E.ti e).sz || xs.isEmpty && (Nat.beq kk 0 || Nat.beq sz 0)) = true) (hp : (Nat.blt 0 (E.ti e).by_ && (Nat.blt 0 (E.ti e).sz && (!(s.seen q) && Nat.blt 0 d))) = true) (hq0 : tk d (bif Nat.beq kk 0 then (bif xs.isEmpty then e else 0) else elOf kk) = q) (he2 : ((Nat.beq (elOf kk) 0 || Nat.beq (elOf kk) e) && Nat.blt e 65536) = true) (hZ : (E.ti e).sz = Z) (hB : Nat.ble (E.ti e).by_ 65536 = true) (hr : xs.length + zs.length ≤ 2147483648)
    (h : WPo E call ops rest (s.put (some d) { val := .own q Z (xs ++ zs), kill := bif Nat.beq kk 0 then [] else [kk], new := [q] }) m (es ++ [{ val := .own q Z (xs ++ zs), kill := bif Nat.beq kk 0 then [] else [kk], new := [q] }]) R) :
    WPo E call ops (⟨some d, .call ⟨.builtin .append, #[x, y], ats⟩, rt, pos, af, none⟩ :: rest) s m es R := by
  subst hZ hq0
  refine ao_op hd rfl ?_ h
  simp only [Bool.and_eq_true] at hp he2
  obtain ⟨p1, p2, p3, p4⟩ := hp
  obtain ⟨e1, e2⟩ := he2
  have hap : aAppend E s m ty d (.own kk sz xs) szx zs = some { val := .own (tk d (bif Nat.beq kk 0 then (bif xs.isEmpty then e else 0) else elOf kk)) (E.ti e).sz (xs ++ zs), kill := bif Nat.beq kk 0 then [] else [kk], new := [tk d (bif Nat.beq kk 0 then (bif xs.isEmpty then e else 0) else elOf kk)] } := by
    have hroom : room (xs.length + zs.length) (E.ti e).by_ = true := by simp only [room, p1, Bool.true_and]; exact Nat.ble_eq_true_of_le (Nat.le_trans (Nat.mul_le_mul hr (Nat.le_of_ble_eq_true hB)) (by omega))
    simp only [aAppend, ht, hz, hk, hq, hroom, p2, p3, p4, e1, e2, bnd, cond_true, Bool.and_self]
  simp only [aEff, List.mapM_cons, List.mapM_nil, hx, hy]
  cases tx <;> first | (cases hs; done) | skip
  all_goals simp only [bind, Option.bind_some, pure, h0, h1, dOp, Option.getD_some, bnd, cond_true]
  all_goals first | (simp only [T.sliceS, T.slice, Option.some.injEq, Prod.mk.injEq] at hs; obtain ⟨rfl, rfl⟩ := hs; simp only [T.slice, Option.bind_some]; exact hap) | (rename_i v; cases v <;> first | (cases hs; done) | (simp only [T.sliceS, T.slice, Option.some.injEq, Prod.mk.injEq] at hs; obtain ⟨rfl, rfl⟩ := hs; simp only [T.slice, Option.bind_some]; exact hap))
/-- append to a slice that was read out of a memory cell. -/
theorem ao_app_ld {kk szx d sz' ev : Nat} {xs' : List AV} {ats : Array TypeId} {Z : Nat} (hd : dstOk E.nt (some d) = true) (hx : s.ev x = some (.ld id off kk sz xs)) (hy : s.ev y = some tx) (h0 : ats[0]? = some ty) (h1 : appTy E ats[1]? = true) (ht : (E.ti ty).k = .slice e) (hs : tx.sliceS = some (szx, zs))
    (hm : m.blk id = some cs) (hc : cs[off]? = some (.own kk sz' xs'))
    (hz : ((Nat.beq szx (E.ti e).sz || zs.isEmpty) && Nat.beq (E.ti e).zero.length (E.ti e).sz) = true) (hq : Nat.beq sz (E.ti e).sz = true) (hp : (Nat.blt 0 (E.ti e).by_ && (Nat.blt 0 (E.ti e).sz && (!(s.seen (tk d ev)) && (Nat.blt 0 d && (Nat.beq ev 0 || Nat.beq ev e))))) = true) (hev : elOf kk = ev) (hZ : (E.ti e).sz = Z) (hB : Nat.ble (E.ti e).by_ 65536 = true) (hr : xs.length + zs.length ≤ 2147483648)
    (h : WPo E call ops rest (s.put (some d) { val := .own (tk d ev) Z (xs ++ zs), new := [tk d ev], mr := true, mw := some { m with blk := upd m.blk id (some (cs.set off (.v (.sl sz' xs')))) } }) { m with blk := upd m.blk id (some (cs.set off (.v (.sl sz' xs')))) } (es ++ [{ val := .own (tk d ev) Z (xs ++ zs), new := [tk d ev], mr := true, mw := some { m with blk := upd m.blk id (some (cs.set off (.v (.sl sz' xs')))) } }]) R) :
    WPo E call ops (⟨some d, .call ⟨.builtin .append, #[x, y], ats⟩, rt, pos, af, none⟩ :: rest) s m es R := by
  subst hZ hev
  refine ao_op (e := { val := .own (tk d (elOf kk)) (E.ti e).sz (xs ++ zs), new := [tk d (elOf kk)], mr := true, mw := some { m with blk := upd m.blk id (some (cs.set off (.v (.sl sz' xs')))) } }) hd rfl ?_ h
  simp only [Bool.and_eq_true] at hp
  obtain ⟨p1, p2, p3, p4, p5⟩ := hp
  have hap : aAppend E s m ty d (.ld id off kk sz xs) szx zs = some { val := .own (tk d (elOf kk)) (E.ti e).sz (xs ++ zs), new := [tk d (elOf kk)], mr := true, mw := some { m with blk := upd m.blk id (some (cs.set off (.v (.sl sz' xs')))) } } := by
    have hroom : room (xs.length + zs.length) (E.ti e).by_ = true := by simp only [room, p1, Bool.true_and]; exact Nat.ble_eq_true_of_le (Nat.le_trans (Nat.mul_le_mul hr (Nat.le_of_ble_eq_true hB)) (by omega))
    simp only [aAppend, ht, hz, hm, hc, Option.bind_some, if_true, hq, hroom, p2, p3, p4, p5, bnd, cond_true, Bool.and_self]
  simp only [aEff, List.mapM_cons, List.mapM_nil, hx, hy]
  cases tx <;> first | (cases hs; done) | skip
  all_goals simp only [bind, Option.bind_some, pure, h0, h1, dOp, Option.getD_some, bnd, cond_true]
  all_goals first | (simp only [T.sliceS, T.slice, Option.some.injEq, Prod.mk.injEq] at hs; obtain ⟨rfl, rfl⟩ := hs; simp only [T.slice, Option.bind_some]; exact hap) | (rename_i v; cases v <;> first | (cases hs; done) | (simp only [T.sliceS, T.slice, Option.some.injEq, Prod.mk.injEq] at hs; obtain ⟨rfl, rfl⟩ := hs; simp only [T.slice, Option.bind_some]; exact hap))
/-! ### a function's start and end -/
/-- What is asked at a body's end. -/
structure FinK (P : Prg) (k : Nat) (E : Env) (rs : List ResultVar) (Q : AV → AMem → Prop) (x : AX) (s : St) (m : AMem) : Prop where
  out : (match x with | .exit _ => False | _ => True) ∧ ∃ m' r, runDefers (aDef P (aCall P k) k) s.df m = some m' ∧ resOf E s m' rs = some r ∧ Q r m'
theorem cal_of {P : Prg} {kf f : Nat} {args : List AV} {Q : AV → AMem → Prop} {np nt : Nat} {rs : List ResultVar} {body : Code} {regs : List Nat} {keep : List (Nat × Keep)} (hs : P.spec f = none) (hf : P.fn f = some ⟨np, nt, rs, body, ⟨regs, keep⟩⟩) (hn : Nat.beq args.length np = true) (hb : Nat.ble np nt = true)
    (h : WP ⟨P.ti, regs, nt⟩ (aCall P kf) keep kf body (enterSt args) m (FinK P kf ⟨P.ti, regs, nt⟩ rs Q)) : Cal P (kf + 1) f args m Q := by
  obtain ⟨x, s', m', h1, ⟨h2, m2, r, h3, h4, h5⟩⟩ := h
  have key : ∀ (hx : ∀ i, x ≠ .exit i), aBody P (aCall P kf) kf ⟨np, nt, rs, body, ⟨regs, keep⟩⟩ args m = some (s', m') := by
    intro hx
    simp only [aBody, hn, hb, bnd, Bool.and_self, cond_true, FnD.env, h1, Option.bind_some]
    try (cases x <;> first | rfl | exact absurd rfl (hx _))
  cases x with
  | exit i => exact h2.elim
  | normal =>
    exact ⟨r, m2, by simp only [aCall, hs, hf, Option.bind_some, key (by intro i; simp), h3]; simp only [FnD.env, h4, Option.map_some], h5⟩
  | ret =>
    exact ⟨r, m2, by simp only [aCall, hs, hf, Option.bind_some, key (by intro i; simp), h3]; simp only [FnD.env, h4, Option.map_some], h5⟩
variable {P : Prg} {kf : Nat} {Qf : AV → AMem → Prop}
theorem fin0 {x : AX} (hx : (match x with | .exit _ => false | _ => true) = true) (hd : s.df = []) (h : Qf (.tup []) m) : FinK P kf E [] Qf x s m := by
  cases x <;> first | (cases hx; done) | exact ⟨trivial, m, _, by rw [hd]; rfl, rfl, h⟩
theorem fin1 {x : AX} {t : Nat} (hx : (match x with | .exit _ => false | _ => true) = true) (hd : s.df = []) (ht : s.tm t = tx) (ha : tx.av = some a) (h : Qf a m) : FinK P kf E [.tmp t] Qf x s m := by
  have : resOf E s m [.tmp t] = some a := by
    simp only [resOf, List.mapM_cons, List.mapM_nil, resT, ht]
    simp [escs, esc_av ha, distinct, bnd]
  cases x <;> first | (cases hx; done) | exact ⟨trivial, m, _, by rw [hd]; rfl, this, h⟩
theorem fin2 {x : AX} {t t' : Nat} (hx : (match x with | .exit _ => false | _ => true) = true) (hd : s.df = []) (ht : s.tm t = tx) (ha : tx.av = some a) (ht' : s.tm t' = tz) (ha' : tz.av = some a') (h : Qf (.tup [a, a']) m) : FinK P kf E [.tmp t, .tmp t'] Qf x s m := by
  have : resOf E s m [.tmp t, .tmp t'] = some (.tup [a, a']) := by
    simp only [resOf, List.mapM_cons, List.mapM_nil, resT, ht, ht']
    simp [escs, esc_av ha, esc_av ha', distinct, bnd]
  cases x <;> first | (cases hx; done) | exact ⟨trivial, m, _, by rw [hd]; rfl, this, h⟩
theorem fin_cell {x : AX} {c : Nat} (hx : (match x with | .exit _ => false | _ => true) = true) (hd : s.df = []) (hok : (E.ti ty).ok = true) (ht : s.tm c = .reg t off) (hc : s.lc t = some cs) (hl : loadT (E.ti ty) cs off = some tx) (ha : tx.av = some a) (h : Qf a m) : FinK P kf E [.cell c ty] Qf x s m := by
  have : resOf E s m [.cell c ty] = some a := by
    simp only [resOf, List.mapM_cons, List.mapM_nil, resT, ht, hok, bnd, cond_true, aLoad, hc, Option.bind_some, hl, Option.map_some]
    simp [escs, esc_av ha, distinct]
  cases x <;> first | (cases hx; done) | exact ⟨trivial, m, _, by rw [hd]; rfl, this, h⟩
/-! ### which operation is it? (so that a rule that does not fit fails at once) -/
theorem isO {rest : List Oper} (h : WPo E call ops rest s m es R) : WPo E call ops rest s m es R := h
theorem isG {g : Nat × Bool} {op : Op} (h : WPo E call ops (⟨dst, op, rt, pos, af, some g⟩ :: rest) s m es R) : WPo E call ops (⟨dst, op, rt, pos, af, some g⟩ :: rest) s m es R := h
theorem isMove (h : WPo E call ops (⟨dst, .move x, rt, pos, af, none⟩ :: rest) s m es R) : WPo E call ops (⟨dst, .move x, rt, pos, af, none⟩ :: rest) s m es R := h
theorem isAssign (h : WPo E call ops (⟨dst, .assign x, rt, pos, af, none⟩ :: rest) s m es R) : WPo E call ops (⟨dst, .assign x, rt, pos, af, none⟩ :: rest) s m es R := h
theorem isPick (h : WPo E call ops (⟨dst, .pick c x y, rt, pos, af, none⟩ :: rest) s m es R) : WPo E call ops (⟨dst, .pick c x y, rt, pos, af, none⟩ :: rest) s m es R := h
theorem isBin {bo : BinOp} (h : WPo E call ops (⟨dst, .binOp bo ty x y tyb, rt, pos, af, none⟩ :: rest) s m es R) : WPo E call ops (⟨dst, .binOp bo ty x y tyb, rt, pos, af, none⟩ :: rest) s m es R := h
theorem isUn {uo : UnOp} (h : WPo E call ops (⟨dst, .unOp uo ty x, rt, pos, af, none⟩ :: rest) s m es R) : WPo E call ops (⟨dst, .unOp uo ty x, rt, pos, af, none⟩ :: rest) s m es R := h
theorem isConv (h : WPo E call ops (⟨dst, .convert ty tyb x, rt, pos, af, none⟩ :: rest) s m es R) : WPo E call ops (⟨dst, .convert ty tyb x, rt, pos, af, none⟩ :: rest) s m es R := h
theorem isField (h : WPo E call ops (⟨dst, .fieldAddr ty x i, rt, pos, af, none⟩ :: rest) s m es R) : WPo E call ops (⟨dst, .fieldAddr ty x i, rt, pos, af, none⟩ :: rest) s m es R := h
theorem isCheck (h : WPo E call ops (⟨dst, .nilCheck x, rt, pos, af, none⟩ :: rest) s m es R) : WPo E call ops (⟨dst, .nilCheck x, rt, pos, af, none⟩ :: rest) s m es R := h
theorem isIAddr (h : WPo E call ops (⟨dst, .indexAddr ty x y, rt, pos, af, none⟩ :: rest) s m es R) : WPo E call ops (⟨dst, .indexAddr ty x y, rt, pos, af, none⟩ :: rest) s m es R := h
theorem isIndex (h : WPo E call ops (⟨dst, .index ty x y, rt, pos, af, none⟩ :: rest) s m es R) : WPo E call ops (⟨dst, .index ty x y, rt, pos, af, none⟩ :: rest) s m es R := h
theorem isSlice {lo : Option Operand} {hi : Option Operand} {hx : Option Operand} (h : WPo E call ops (⟨dst, .slice ty x lo hi hx, rt, pos, af, none⟩ :: rest) s m es R) : WPo E call ops (⟨dst, .slice ty x lo hi hx, rt, pos, af, none⟩ :: rest) s m es R := h
theorem isLoad (h : WPo E call ops (⟨dst, .load ty x, rt, pos, af, none⟩ :: rest) s m es R) : WPo E call ops (⟨dst, .load ty x, rt, pos, af, none⟩ :: rest) s m es R := h
theorem isStore (h : WPo E call ops (⟨dst, .store ty x y, rt, pos, af, none⟩ :: rest) s m es R) : WPo E call ops (⟨dst, .store ty x y, rt, pos, af, none⟩ :: rest) s m es R := h
theorem isBox (h : WPo E call ops (⟨dst, .box ty x, rt, pos, af, none⟩ :: rest) s m es R) : WPo E call ops (⟨dst, .box ty x, rt, pos, af, none⟩ :: rest) s m es R := h
theorem isAlloc (h : WPo E call ops (⟨dst, .alloc ty, rt, pos, af, none⟩ :: rest) s m es R) : WPo E call ops (⟨dst, .alloc ty, rt, pos, af, none⟩ :: rest) s m es R := h
theorem isBuild {ps : Array (Nat × Operand)} (h : WPo E call ops (⟨dst, .build ty ps, rt, pos, af, none⟩ :: rest) s m es R) : WPo E call ops (⟨dst, .build ty ps, rt, pos, af, none⟩ :: rest) s m es R := h
theorem isBuildS {ps : Array (Nat × Operand)} (h : WPo E call ops (⟨dst, .buildSlice ty n ps, rt, pos, af, none⟩ :: rest) s m es R) : WPo E call ops (⟨dst, .buildSlice ty n ps, rt, pos, af, none⟩ :: rest) s m es R := h
theorem isExtract (h : WPo E call ops (⟨dst, .extract x i, rt, pos, af, none⟩ :: rest) s m es R) : WPo E call ops (⟨dst, .extract x i, rt, pos, af, none⟩ :: rest) s m es R := h
theorem isFunc {fn : Fn} {fs : Array Operand} {cp : Array Operand} (h : WPo E call ops (⟨dst, .makeFunc fn fs cp, rt, pos, af, none⟩ :: rest) s m es R) : WPo E call ops (⟨dst, .makeFunc fn fs cp, rt, pos, af, none⟩ :: rest) s m es R := h
theorem isCall {cl : Call} (h : WPo E call ops (⟨dst, .call cl, rt, pos, af, none⟩ :: rest) s m es R) : WPo E call ops (⟨dst, .call cl, rt, pos, af, none⟩ :: rest) s m es R := h
theorem isLookup (h : WPo E call ops (⟨dst, .lookup ty x y b, rt, pos, af, none⟩ :: rest) s m es R) : WPo E call ops (⟨dst, .lookup ty x y b, rt, pos, af, none⟩ :: rest) s m es R := h
theorem isMapUp (h : WPo E call ops (⟨dst, .mapUpdate ty x y z, rt, pos, af, none⟩ :: rest) s m es R) : WPo E call ops (⟨dst, .mapUpdate ty x y z, rt, pos, af, none⟩ :: rest) s m es R := h
theorem isInsert (h : WPo E call ops (⟨dst, .insert ty x y z, rt, pos, af, none⟩ :: rest) s m es R) : WPo E call ops (⟨dst, .insert ty x y z, rt, pos, af, none⟩ :: rest) s m es R := h
theorem isMakeMap {lo : Option Operand} (h : WPo E call ops (⟨dst, .makeMap ty lo, rt, pos, af, none⟩ :: rest) s m es R) : WPo E call ops (⟨dst, .makeMap ty lo, rt, pos, af, none⟩ :: rest) s m es R := h
theorem isRange (h : WPo E call ops (⟨dst, .range ty x, rt, pos, af, none⟩ :: rest) s m es R) : WPo E call ops (⟨dst, .range ty x, rt, pos, af, none⟩ :: rest) s m es R := h
theorem isNext (h : WPo E call ops (⟨dst, .next x b, rt, pos, af, none⟩ :: rest) s m es R) : WPo E call ops (⟨dst, .next x b, rt, pos, af, none⟩ :: rest) s m es R := h
theorem isMakeSl (h : WPo E call ops (⟨dst, .makeSlice ty x y, rt, pos, af, none⟩ :: rest) s m es R) : WPo E call ops (⟨dst, .makeSlice ty x y, rt, pos, af, none⟩ :: rest) s m es R := h
theorem isDefer {cl : Call} (h : WPo E call ops (⟨dst, .defer cl, rt, pos, af, none⟩ :: rest) s m es R) : WPo E call ops (⟨dst, .defer cl, rt, pos, af, none⟩ :: rest) s m es R := h
end Go.Ax
