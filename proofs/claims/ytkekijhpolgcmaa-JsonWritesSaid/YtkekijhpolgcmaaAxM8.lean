/- The machine Ax, part AxM8: its steps and why they are sound. -/
import Derived.Test.YtkekijhpolgcmaaAxM6
import Derived.Test.YtkekijhpolgcmaaAxM7
import Derived.Tactics
import Derived.LoopN
import Derived.Orders
import Derived.Defers
import GoSem.ClaimChange
/- Ax: regions and code. -/
set_option linter.unusedVariables false
set_option linter.unusedSimpArgs false
namespace Go.Ax
open Go.RowKit
variable {P : Program} {ti : Nat → TI}
variable {nt N d : Nat} {s : St} {m : AMem} {H : Hp} {lam : Nat → Option Nat} {a : Act} {w w0 : World}
variable {Hi : Hp} {mi : AMem} {wi : World} {K : Act → World → Prop} {Q : Exit → Act → World → Prop}

theorem wanted_ok (hf : Fr nt N d s m H lam a w) {ops : Array Oper} {o : Oper} {b : Bool} (h : wantedA ops s o = some b) : Region.wanted o (yielded ops a.tmps) = b := by
  unfold wantedA at h
  unfold Region.wanted
  split at h
  · rename_i hg
    rw [hg]; injection h
  · rename_i j want hg
    rw [hg]
    split at h
    · cases h
    · rename_i t ht
      have hv := hf.tm t
      have hy : yielded ops a.tmps j = match a.tmps[t]? with | some (.bool b) => some b | _ => none := by
        unfold yielded; rw [ht]; rfl
      simp only [hy]
      split at h
      · rename_i b' hb'
        rw [hb'] at hv
        injection h with h; subst h
        have : a.tmps[t]? = some (.bool b') := by
          have hv' : a.tmps.getD t undef = .bool b' := hv
          rw [Array.getD_eq_getD_getElem?] at hv'
          cases hq : a.tmps[t]? with
          | none => rw [hq] at hv'; simp [undef] at hv'
          | some v => rw [hq] at hv'; simp at hv'; rw [hv']
        rw [this]
        cases b' <;> cases want <;> rfl
      · rename_i hu
        rw [hu] at hv
        injection h with h; subst h
        have hv' : a.tmps.getD t undef = undef := hv
        rw [Array.getD_eq_getD_getElem?] at hv'
        cases hq : a.tmps[t]? with
        | none => rfl
        | some v => rw [hq] at hv'; simp at hv'; rw [hv']; rfl
      · cases h

/-- One operation of a region. -/
theorem step_sound (E : Env) (hnt : E.nt = nt) (hti : TysOk P E.ti) {call : CallT} (hco : CallOk P w0 (d + 1) call) (hB : w0.heap.size ≤ N) {ops : Array Oper} {o : Oper} {s' : St} {m' : AMem} {e : Eff} (h : aStep E call ops o (s, m) = some (s', m', e)) (hi : Inv nt N d w0 Hi mi wi s m a w)
    (hK : ∀ a' w', Inv nt N d w0 Hi mi wi s' m' a' w' → K a' w') : if Region.wanted o (yielded ops a.tmps) then o.wp P a w K Q ∨ (o.asks P a w ∧ LetsOut Q) else K (a.put o.dst undef) w := by
  obtain ⟨H, lam, hw, hf, x, hN⟩ := hi
  unfold aStep at h
  obtain ⟨hd, h1⟩ := bnd_some h
  rw [hnt] at hd
  obtain ⟨b, h2, h3⟩ := Option.bind_eq_some_iff.1 h1
  rw [wanted_ok hf h2]
  cases b with
  | true =>
    obtain ⟨e', h4, h5⟩ := Option.map_eq_some_iff.1 h3
    simp only [Prod.mk.injEq] at h5
    obtain ⟨rfl, rfl, rfl⟩ := h5
    rw [if_pos rfl]
    exact .inl (op_sound E hnt hti hco hw hf x hN hB h4 hd hK)
  | false =>
    simp only [Option.some.injEq, Prod.mk.injEq] at h3
    obtain ⟨rfl, rfl, rfl⟩ := h3
    rw [if_neg (by simp)]
    refine hK _ _ ?_
    have : s.put o.dst {} = { s with tm := putT s.tm o.dst .undef } := put_val _ _ _
    rw [this]
    exact ⟨H, lam, hw, hf.put (x := .undef) rfl hd, x, hN⟩

theorem list_sound (E : Env) (hnt : E.nt = nt) (hti : TysOk P E.ti) {call : CallT} (hco : CallOk P w0 (d + 1) call) (hB : w0.heap.size ≤ N) {ops : Array Oper} : ∀ {l : List Oper} {s s' : St} {m m' : AMem} {es : List Eff} {a : Act} {w : World}, runOps E call ops l (s, m) = some (s', m', es) → Inv nt N d w0 Hi mi wi s m a w →
    (∀ a' w', Inv nt N d w0 Hi mi wi s' m' a' w' → Q .normal a' w') → wpList P ops Q l a w
  | [], s, s', m, m', es, a, w, h, hi, hQ => by
    simp only [runOps, Option.some.injEq, Prod.mk.injEq] at h
    obtain ⟨rfl, rfl, rfl⟩ := h
    exact hQ _ _ hi
  | o :: r, s, s', m, m', es, a, w, h, hi, hQ => by
    simp only [runOps] at h
    obtain ⟨⟨s1, m1, e⟩, h1, h2⟩ := Option.bind_eq_some_iff.1 h
    obtain ⟨⟨s2, m2, es'⟩, h3, h4⟩ := Option.map_eq_some_iff.1 h2
    simp only [Prod.mk.injEq] at h4
    obtain ⟨rfl, rfl, rfl⟩ := h4
    exact step_sound E hnt hti hco hB h1 hi fun a' w' hi' => list_sound E hnt hti hco hB h3 hi' hQ

theorem getD_listed {listed : Array Bool} {i : Nat} (h : i < listed.size) : listed.getD i true = listed.getD i false := by
  simp [Array.getD_eq_getD_getElem?, h]

theorem getD_set {listed : Array Bool} {i j : Nat} (d : Bool) (h : i < listed.size) : (listed.setIfInBounds i true).getD j d = if i = j then true else listed.getD j d := by
  simp only [Array.getD_eq_getD_getElem?, Array.getElem?_setIfInBounds]
  by_cases e : i = j
  · subst e; simp [h]
  · simp [e]

/-- Whatever operation is ready goes first: what is left runs to the same end. -/
theorem any_sound (E : Env) (hnt : E.nt = nt) (hti : TysOk P E.ti) {call : CallT} (hco : CallOk P w0 (d + 1) call) (hB : w0.heap.size ≤ N) {ops : Array Oper} {bs : List Nat} (hbef : BefP ops.toList bs) (hdown : edgesDown 0 ops.toList = true) {s' : St} {m' : AMem}
    (hQ : ∀ a' w', Inv nt N d w0 Hi mi wi s' m' a' w' → Q .normal a' w') : ∀ (fuel : Nat) (Z : List Zt) (listed : Array Bool) (s : St) (m : AMem) (a : Act) (w : World), Z.length = fuel →
    (∀ z ∈ Z, ops[z.1]? = some z.2.1 ∧ listed.getD z.1 true = false) → (∀ i, i < ops.size → listed.getD i true = false → ∃ z ∈ Z, z.1 = i) → Z.Pairwise (fun x y => x.1 < y.1) →
    Z.Pairwise (fun x y => (∃ b, bs[y.1]? = some b ∧ b.testBit x.1 = true) ∨ (ApartP x.2.2 y.2.2 ∧ x.2.1.apart ops y.2.1 = true)) → Closed ops listed → listed.size = ops.size → RunZ E call ops Z (s, m) (s', m') → Inv nt N d w0 Hi mi wi s m a w →
    wpAny P .any ops Q fuel listed a w := by
  intro fuel
  induction fuel with
  | zero =>
    intro Z listed s m a w hl hz hcov hsort hpw hcl hsz hrun hi
    obtain rfl := List.eq_nil_of_length_eq_zero hl
    simp only [RunZ, Prod.mk.injEq] at hrun
    obtain ⟨rfl, rfl⟩ := hrun
    refine ⟨?_, hQ _ _ hi⟩
    cases hr : Region.ready .any ops listed with
    | nil => rfl
    | cons i r =>
      have : i ∈ Region.ready .any ops listed := by rw [hr]; exact List.mem_cons_self
      obtain ⟨h0, o, ho, _⟩ := mem_ready.1 this
      obtain ⟨z, hz1, _⟩ := hcov i (Array.getElem?_eq_some_iff.1 ho).1 h0
      cases hz1
  | succ fuel ih =>
    intro Z listed s m a w hl hz hcov hsort hpw hcl hsz hrun hi
    constructor
    · intro hr
      exfalso
      cases Z with
      | nil => cases hl
      | cons z Z =>
        obtain ⟨ho, hu⟩ := hz z List.mem_cons_self
        have : z.1 ∈ Region.ready .any ops listed := by
          refine mem_ready.2 ⟨hu, z.2.1, ho, fun e he hb => ?_⟩
          have hlt := edgesDown_ok hdown z.1 z.2.1 (by simpa using ho) e he hb
          have hzs := (Array.getElem?_eq_some_iff.1 ho).1
          rw [← getD_listed (by omega)]
          cases hq : listed.getD e.on true with
          | true => rfl
          | false =>
            obtain ⟨z', hz', e'⟩ := hcov e.on (by omega) hq
            rcases List.mem_cons.1 hz' with rfl | hz'
            · omega
            · have := (List.pairwise_cons.1 hsort).1 z' hz'
              omega
        rw [hr] at this; cases this
    · intro i hir
      obtain ⟨h0, o, ho, hre⟩ := mem_ready.1 hir
      have hi1 := (Array.getElem?_eq_some_iff.1 ho).1
      obtain ⟨z, hzm, hz1⟩ := hcov i hi1 h0
      obtain ⟨pre, post, rfl⟩ := List.append_of_mem hzm
      obtain ⟨hoz, _⟩ := hz z hzm
      rw [hz1, ho] at hoz
      injection hoz with hoz
      have hap : ∀ y ∈ pre, ApartP y.2.2 z.2.2 ∧ y.2.1.apart ops z.2.1 = true := by
        intro y hy
        have hyz := (List.pairwise_append.1 hpw).2.2 y hy z List.mem_cons_self
        rcases hyz with ⟨b, hb1, hb2⟩ | h
        · exfalso
          rw [hz1] at hb1
          have := bef_listed hbef hcl i (fun o' ho' e he hb => by rw [ho] at ho'; injection ho' with ho'; subst ho'; exact hre e he hb) b y.1 hb1 hb2
          obtain ⟨hy1, hy2⟩ := hz y (List.mem_append_left _ hy)
          rw [getD_listed (by have := (Array.getElem?_eq_some_iff.1 hy1).1; omega), this] at hy2
          cases hy2
        · exact h
      obtain ⟨s1, m1, hst, hrest⟩ := extract hap hrun
      rw [← hoz] at hst
      unfold wpOp
      simp only [ho]
      have hsub : (pre ++ post).Sublist (pre ++ z :: post) := List.Sublist.append (List.Sublist.refl _) (List.sublist_cons_self _ _)
      have hne : ∀ z' ∈ pre ++ post, z'.1 ≠ i := by
        intro z' hz'
        rcases List.mem_append.1 hz' with h | h
        · have := (List.pairwise_append.1 hsort).2.2 z' h z List.mem_cons_self
          omega
        · have := (List.pairwise_cons.1 (List.pairwise_append.1 hsort).2.1).1 z' h
          omega
      refine step_sound E hnt hti hco hB hst hi fun a' w' hi' => ih (pre ++ post) _ s1 m1 a' w' (by simp at hl ⊢; omega) (fun z' hz' => ?_) (fun j hj hu => ?_) (hsort.sublist hsub) (hpw.sublist hsub) ?_ (by simp [hsz]) hrest hi'
      · obtain ⟨g1, g2⟩ := hz z' (hsub.subset hz')
        refine ⟨g1, ?_⟩
        rw [getD_set true (by omega), if_neg (fun e => hne z' hz' e.symm)]
        exact g2
      · rw [getD_set true (by omega)] at hu
        split at hu
        · cases hu
        · rename_i hij
          obtain ⟨z', hz', e'⟩ := hcov j hj hu
          refine ⟨z', ?_, e'⟩
          rcases List.mem_append.1 hz' with h | h
          · exact List.mem_append_left _ h
          · rcases List.mem_cons.1 h with rfl | h
            · exact absurd (hz1.symm.trans e') hij
            · exact List.mem_append_right _ h
      · intro k hk o' ho' e he hb
        rw [getD_set false (by omega)] at hk ⊢
        split
        · rfl
        · split at hk
          · rename_i hik
            subst hik
            rw [ho] at ho'; injection ho' with ho'; subst ho'
            exact hre e he hb
          · exact hcl k hk o' ho' e he hb

/-- A region whose order is drawn. -/
theorem draw_sound (hm : P.follows .mixedOrders = true) (E : Env) (hnt : E.nt = nt) (hti : TysOk P E.ti) {call : CallT} (hco : CallOk P w0 (d + 1) call) (hB : w0.heap.size ≤ N) {id : Nat} {ops : Array Oper} {s' : St} {m' : AMem} (h : aRegion E call ops true (s, m) = some (s', m')) (hi : Inv nt N d w0 Hi mi wi s m a w)
    (hQ : ∀ a' w', Inv nt N d w0 Hi mi wi s' m' a' w' → Q .normal a' w') : (Code.region id ops true).wp P Q a w := by
  unfold aRegion at h
  obtain ⟨⟨s1, m1, es⟩, h1, h2⟩ := Option.bind_eq_some_iff.1 h
  obtain ⟨hb, h3⟩ := bnd_some h2
  simp only [Option.some.injEq, Prod.mk.injEq] at h3
  obtain ⟨rfl, rfl⟩ := h3
  simp only [Bool.not_true, Bool.false_or, Bool.and_eq_true] at hb
  obtain ⟨hdown, hpairs⟩ := hb
  obtain ⟨hlen, hrun⟩ := run_Z 0 h1
  have hbef : BefP ops.toList (befGo ops.toList []) := befGo_ok ops.toList [] [] rfl (fun i b j hi => by simp at hi)
  refine wp_region_any hm ?_
  have hZl : ((List.range' 0 ops.toList.length).zip (ops.toList.zip es)).length = ops.size := by simp [hlen]
  have hget : ∀ (j : Nat) (z : Zt), ((List.range' 0 ops.toList.length).zip (ops.toList.zip es))[j]? = some z → z.1 = j ∧ ops[j]? = some z.2.1 ∧ es[j]? = some z.2.2 := by
    intro j z hj
    rw [List.getElem?_zip_eq_some] at hj
    obtain ⟨g1, g2⟩ := hj
    rw [List.getElem?_zip_eq_some] at g2
    obtain ⟨hj1, hj2⟩ := List.getElem?_eq_some_iff.1 g1
    refine ⟨by rw [← hj2]; simp, by simpa using g2.1, g2.2⟩
  have hi' : Inv nt N d w0 Hi mi wi s m a { w with drawn := w.drawn + 1 } := by
    obtain ⟨H, lam, k1, k2, k3, k4⟩ := hi
    exact ⟨H, lam, k1.drew, k2.drew, k3.trans (Ext.drew _ _ _ _ _), k4⟩
  refine any_sound E hnt hti hco hB hbef hdown hQ ops.size _ _ s m a _ hZl (fun z hz => ?_) (fun i hi hu => ?_) ?_ ?_ ?_ (by simp) hrun hi'
  · obtain ⟨j, hj⟩ := List.mem_iff_getElem?.1 hz
    obtain ⟨g1, g2, _⟩ := hget j z hj
    rw [g1]
    have := (Array.getElem?_eq_some_iff.1 g2).1
    exact ⟨g2, by simp [Array.getD_eq_getD_getElem?, this]⟩
  · have hlt : i < ((List.range' 0 ops.toList.length).zip (ops.toList.zip es)).length := by omega
    exact ⟨_, List.getElem_mem hlt, (hget i _ (List.getElem?_eq_getElem hlt)).1⟩
  · rw [List.pairwise_iff_getElem]
    intro i j hi hj hij
    rw [(hget i _ (List.getElem?_eq_getElem hi)).1, (hget j _ (List.getElem?_eq_getElem hj)).1]
    exact hij
  · rw [List.pairwise_iff_getElem]
    intro i j hi hj hij
    obtain ⟨a1, a2, a3⟩ := hget i _ (List.getElem?_eq_getElem hi)
    obtain ⟨b1, b2, b3⟩ := hget j _ (List.getElem?_eq_getElem hj)
    unfold pairsOk at hpairs
    simp only [List.all_eq_true, List.mem_range, Bool.or_eq_true, Bool.and_eq_true] at hpairs
    have hje : j < es.length := (List.getElem?_eq_some_iff.1 b3).1
    rcases hpairs j hje i hij with h | ⟨h, h'⟩
    · left
      rw [a1, b1]
      rw [List.getD_eq_getElem?_getD] at h
      cases hq : (befGo ops.toList [])[j]? with
      | none => rw [hq] at h; simp at h
      | some b => rw [hq] at h; exact ⟨b, rfl, h⟩
    · right
      rw [List.getD_eq_getElem?_getD, List.getD_eq_getElem?_getD, a3, b3] at h
      rw [Array.getD_eq_getD_getElem?, Array.getD_eq_getD_getElem?, a2, b2] at h'
      exact ⟨apartE_spec h, h'⟩
  · intro k hk
    rw [Array.getD_eq_getD_getElem?, Array.getElem?_replicate] at hk
    split at hk <;> simp at hk

theorem region_sound (hm : P.follows .mixedOrders = true) (E : Env) (hnt : E.nt = nt) (hti : TysOk P E.ti) {call : CallT} (hco : CallOk P w0 (d + 1) call) (hB : w0.heap.size ≤ N) {id : Nat} {ops : Array Oper} {draw : Bool} {s' : St} {m' : AMem} (h : aRegion E call ops draw (s, m) = some (s', m')) (hi : Inv nt N d w0 Hi mi wi s m a w)
    (hQ : ∀ a' w', Inv nt N d w0 Hi mi wi s' m' a' w' → Q .normal a' w') : (Code.region id ops draw).wp P Q a w := by
  cases draw with
  | true => exact draw_sound hm E hnt hti hco hB h hi hQ
  | false =>
    unfold aRegion at h
    obtain ⟨⟨s1, m1, es⟩, h1, h2⟩ := Option.bind_eq_some_iff.1 h
    obtain ⟨_, h3⟩ := bnd_some h2
    simp only [Option.some.injEq, Prod.mk.injEq] at h3
    obtain ⟨rfl, rfl⟩ := h3
    exact wp_region_list (list_sound E hnt hti hco hB h1 hi hQ)

def AX.exit_ : AX → Exit
  | .normal => .normal
  | .exit id => .exit id
  | .ret => .ret

theorem code_sound (hm : P.follows .mixedOrders = true) (E : Env) (hnt : E.nt = nt) (hti : TysOk P E.ti) {call : CallT} (hco : CallOk P w0 (d + 1) call) (hB : w0.heap.size ≤ N) (keep : List (Nat × Keep)) (n : Nat) (c : Code) : ∀ {s s' : St} {m m' : AMem} {x : AX} {a : Act} {w : World} {Q : Exit → Act → World → Prop}, aCode E call keep n c s m = some (x, s', m') →
    Inv nt N d w0 Hi mi wi s m a w → (∀ a' w', Inv nt N d w0 Hi mi wi s' m' a' w' → Q x.exit_ a' w') → c.wp P Q a w := by
  induction c with
  | skip =>
    intro s s' m m' x a w Q h hi hQ
    simp only [aCode, Option.some.injEq, Prod.mk.injEq] at h
    obtain ⟨rfl, rfl, rfl⟩ := h
    exact wp_skip (hQ _ _ hi)
  | region id ops draw =>
    intro s s' m m' x a w Q h hi hQ
    simp only [aCode] at h
    obtain ⟨⟨s1, m1⟩, h1, h2⟩ := Option.map_eq_some_iff.1 h
    simp only [Prod.mk.injEq] at h2
    obtain ⟨rfl, rfl, rfl⟩ := h2
    exact region_sound hm E hnt hti hco hB h1 hi hQ
  | seq c1 c2 ih1 ih2 =>
    intro s s' m m' x a w Q h hi hQ
    simp only [aCode] at h
    obtain ⟨⟨x1, s1, m1⟩, h1, h2⟩ := Option.bind_eq_some_iff.1 h
    refine wp_seq (ih1 h1 hi fun a' w' hi' => ?_)
    cases x1 with
    | normal => exact ih2 h2 hi' hQ
    | exit id =>
      simp only [Option.some.injEq, Prod.mk.injEq] at h2
      obtain ⟨rfl, rfl, rfl⟩ := h2
      exact hQ _ _ hi'
    | ret =>
      simp only [Option.some.injEq, Prod.mk.injEq] at h2
      obtain ⟨rfl, rfl, rfl⟩ := h2
      exact hQ _ _ hi'
  | cond c x y ihx ihy =>
    intro s s' m m' x a w Q h hi hQ
    simp only [aCode] at h
    obtain ⟨b, h1, h2⟩ := Option.bind_eq_some_iff.1 h
    obtain ⟨z, h3, h4⟩ := Option.bind_eq_some_iff.1 h1
    obtain rfl := boolOf_some h4
    obtain ⟨H, lam, hw, hf, hx, hN⟩ := id hi
    have hc : a.eval c = .bool b := ev_ok hf h3
    cases b with
    | true => exact wp_cond_true hc (ihx h2 hi hQ)
    | false => exact wp_cond_false hc (ihy h2 hi hQ)
  | block id c ih =>
    intro s s' m m' x a w Q h hi hQ
    simp only [aCode] at h
    obtain ⟨⟨x1, s1, m1⟩, h1, h2⟩ := Option.map_eq_some_iff.1 h
    refine wp_block (ih h1 hi fun a' w' hi' => ?_)
    cases x1 with
    | normal =>
      simp only [Prod.mk.injEq] at h2
      obtain ⟨rfl, rfl, rfl⟩ := h2
      exact hQ _ _ hi'
    | ret =>
      simp only [Prod.mk.injEq] at h2
      obtain ⟨rfl, rfl, rfl⟩ := h2
      exact hQ _ _ hi'
    | exit j =>
      simp only at h2
      show if j = id then Q .normal a' w' else Q (.exit j) a' w'
      by_cases e : j = id
      · subst e
        rw [if_pos rfl]
        simp only [Nat.beq_refl, cond_true, Prod.mk.injEq] at h2
        obtain ⟨rfl, rfl, rfl⟩ := h2
        exact hQ _ _ hi'
      · rw [if_neg e]
        rw [beq_ne e, cond_false] at h2
        simp only [Prod.mk.injEq] at h2
        obtain ⟨rfl, rfl, rfl⟩ := h2
        exact hQ _ _ hi'
  | loop c ih =>
    intro s s' m m' x a w Q h hi hQ
    simp only [aCode] at h
    refine wp_loop_rounds n ?_
    have key : ∀ (j : Nat) {s : St} {m : AMem} {a : Act} {w : World}, loopN (ofL keep (firstRegion c)) (aCode E call keep n c) j s m = some (x, s', m') → Inv nt N d w0 Hi mi wi s m a w → Code.rounds P c Q j a w := by
      intro j
      induction j with
      | zero => intro s m a w h _; cases h
      | succ j ihj =>
        intro s m a w h hi
        simp only [loopN] at h
        obtain ⟨kp, h1, h2⟩ := Option.bind_eq_some_iff.1 h
        obtain ⟨s1, h3, h4⟩ := Option.bind_eq_some_iff.1 h2
        obtain ⟨⟨x2, s2, m2⟩, h5, h6⟩ := Option.bind_eq_some_iff.1 h4
        refine ih h5 (canon_ok h3 hi) fun a' w' hi' => ?_
        cases x2 with
        | normal => exact ihj h6 hi'
        | exit id =>
          simp only [Option.some.injEq, Prod.mk.injEq] at h6
          obtain ⟨rfl, rfl, rfl⟩ := h6
          exact hQ _ _ hi'
        | ret =>
          simp only [Option.some.injEq, Prod.mk.injEq] at h6
          obtain ⟨rfl, rfl, rfl⟩ := h6
          exact hQ _ _ hi'
    exact key n h hi
  | exit id =>
    intro s s' m m' x a w Q h hi hQ
    simp only [aCode, Option.some.injEq, Prod.mk.injEq] at h
    obtain ⟨rfl, rfl, rfl⟩ := h
    exact wp_exit (hQ _ _ hi)
  | ret =>
    intro s s' m m' x a w Q h hi hQ
    simp only [aCode, Option.some.injEq, Prod.mk.injEq] at h
    obtain ⟨rfl, rfl, rfl⟩ := h
    exact wp_ret (hQ _ _ hi)
  | _ =>
    intro s s' m m' x a w Q h hi hQ
    simp only [aCode, reduceCtorEq] at h

end Go.Ax
/- Ax: calls. -/
set_option linter.unusedVariables false
set_option linter.unusedSimpArgs false
namespace Go.Ax
open Go.RowKit
variable {P : Program} {ti : Nat → TI}
variable {nt N d : Nat} {s : St} {m : AMem} {H : Hp} {lam : Nat → Option Nat} {a : Act} {w w0 : World}
variable {Hi : Hp} {mi : AMem} {wi : World} {K : Act → World → Prop} {Q : Exit → Act → World → Prop}

/-- A function that is known by its contract does what the contract says. -/
def SpecOk (P : Program) (f : FuncId) (g : List AV → AMem → Option (AV × AMem)) : Prop :=
  ∀ w0 d args m r m', g args m = some (r, m') → ∀ H w (vs : List Value), WOk w0 H m w → VL H args vs →
    Runs P f vs.toArray w fun v w' => ∃ H', WOk w0 H' m' w' ∧ Ext d w.heap.size H m w H' m' w' ∧ V H' r v

/-- What the machine is told of a program is so. -/
structure PrgOk (P : Program) (A : Prg) : Prop where
  mixed : P.follows .mixedOrders = true
  tys : TysOk P A.ti
  fn : ∀ f fd, A.fn f = some fd → ∃ fn : Func, P.funcs[f]? = some fn ∧ fn.body = some fd.body ∧ fn.ntmps = fd.nt ∧ fn.results.toList = fd.results ∧ (fn.name == "runtime.NumGoroutine") = false
  spec : ∀ f g, A.spec f = some g → SpecOk P f g

variable {A : Prg}

theorem run_callFunc (hA : PrgOk P A) {f : FuncId} {fd : FnD} (h : A.fn f = some fd) (vs : Array Value) (w : World) : (callFunc f vs).run P w = .ok (.enter f vs) w := by
  obtain ⟨fn, h1, h2, h3, h4, h5⟩ := hA.fn f fd h
  have h6 : ¬ fn.name = "runtime.NumGoroutine" := by simpa using h5
  simp [callFunc, h1, h2, h6]

theorem load_as {ty : TypeId} {v u : Value} {w w' : World} (h : (Instr.loadAt ty v).run P w = .ok u w') : (do loadVar ty (← asAddr v) : Sem Value).run P w = .ok u w' := by
  cases v <;> first | (simp [Instr.loadAt, Instr.sureAddr, stuck, Sem.run] at h; done) | skip
  rename_i p
  cases p with
  | none => simp [Instr.loadAt, Instr.sureAddr, stuck, Sem.run] at h
  | some b => simpa [Instr.loadAt, Instr.sureAddr, asAddr] using h

theorem resT_ok (E : Env) (hti : TysOk P E.ti) (hw : WOk w0 H m w) (hf : Fr nt N d s m H lam a w) : ∀ {rs : List ResultVar} {ts : List T}, rs.mapM (resT E s m) = some ts →
    ∃ us : List Value, (rs.mapM (fun r => match r with | .tmp t => pure (a.tmps.getD t undef) | .cell b t => do loadVar t (← asAddr (a.tmps.getD b undef)) : ResultVar → Sem Value)).run P w = .ok us w ∧ All2 (VT d H m w lam s) ts us
  | [], ts, h => by simp at h; subst h; exact ⟨[], by simp, trivial⟩
  | r :: rs, ts, h => by
    rw [List.mapM_cons] at h
    obtain ⟨y, h1, h2⟩ := Option.bind_eq_some_iff.1 h
    obtain ⟨ys, h3, h4⟩ := Option.bind_eq_some_iff.1 h2
    injection h4 with h4; subst h4
    obtain ⟨us, h5, h6⟩ := resT_ok E hti hw hf h3
    have : ∃ u, (match r with | .tmp t => pure (a.tmps.getD t undef) | .cell b t => do loadVar t (← asAddr (a.tmps.getD b undef)) : Sem Value).run P w = .ok u w ∧ VT d H m w lam s y u := by
      cases r with
      | tmp t =>
        simp only [resT, Option.some.injEq] at h1; subst h1
        exact ⟨_, by simp only [Sem.run_pure], hf.tm t⟩
      | cell b t =>
        simp only [resT] at h1
        obtain ⟨hg, h7⟩ := bnd_some h1
        obtain ⟨e, h8, rfl⟩ := Option.map_eq_some_iff.1 h7
        obtain ⟨_, u, g1, g2⟩ := load_ok E hti hw hf hg h8 (hf.tm b)
        exact ⟨u, load_as g1, g2⟩
    obtain ⟨u, g1, g2⟩ := this
    refine ⟨u :: us, ?_, g2, h6⟩
    rw [List.mapM_cons]
    simp only [Sem.run_bind, g1, Result.andThen_ok, h5, Sem.run_pure]

theorem res_ok (E : Env) (hti : TysOk P E.ti) (hB : w0.heap.size ≤ N) (hw : WOk w0 H m w) (hf : Fr nt N d s m H lam a w) {fn : Func} {rs : List ResultVar} (hrs : fn.results.toList = rs) {r : AV} (h : resOf E s m rs = some r) (D : Nat) :
    ∃ v H', (results fn a.tmps).run P w = .ok v w ∧ WOk w0 H' m w ∧ Ext D N H m w H' m w ∧ V H' r v := by
  unfold resOf at h
  obtain ⟨ts, h1, h2⟩ := Option.bind_eq_some_iff.1 h
  obtain ⟨⟨xs, ls, ps⟩, h3, h4⟩ := Option.bind_eq_some_iff.1 h2
  obtain ⟨hb, h5⟩ := bnd_some h4
  simp only [Bool.and_eq_true] at hb
  obtain ⟨us, g1, g2⟩ := resT_ok E hti hw hf h1
  obtain ⟨H1, k1, k2, k3, k4, k5⟩ := escs_ok hB D hw hf h3 hb.1 hb.2 g2
  have hrun : (results fn a.tmps).run P w = .ok (if h : us.toArray.size = 1 then us.toArray[0] else .tuple us.toArray) w := by
    unfold results
    simp only [Sem.run_bind, Array.mapM_eq_mapM_toList, Sem.run_map, hrs]
    erw [g1]
    rfl
  refine ⟨_, H1, hrun, k1, k2, ?_⟩
  have hlen := (VL_iff.1 k4).length
  split at h5
  · rename_i x
    simp only [Option.some.injEq] at h5; subst h5
    obtain ⟨u, us', e, h6, h7⟩ := k4
    obtain rfl := h7
    subst e
    simpa using h6
  · rename_i hx
    simp only [Option.some.injEq] at h5; subst h5
    have : ¬ us.toArray.size = 1 := by
      simp only [List.size_toArray]
      intro e
      rw [e] at hlen
      match xs, hlen with
      | [x], _ => exact hx x rfl
    rw [dif_neg this]
    exact ⟨us, rfl, k4⟩

theorem enter_inv (hw : WOk w0 H m w) {args : List AV} {vs : List Value} (hv : VL H args vs) (hle : args.length ≤ nt) : Inv nt w.heap.size d w0 H m w (enterSt args) m { tmps := vs.toArray ++ Array.replicate (nt - vs.toArray.size) undef, defers := [] } w := by
  have hall := VL_iff.1 hv
  have hl := hall.length
  refine ⟨H, fun _ => none, hw, ⟨by simp; omega, fun t => ?_, fun t cs h => (by cases h), fun t cs h => (by cases h), fun t l p h => (by cases h), fun i j c h => (by cases h), fun i c h => (by cases h), trivial, fun k h => (by cases h)⟩, Ext.refl _ _ _ _ _, Nat.le_refl _⟩
  show VT d H m w (fun _ => none) (enterSt args) (match args[t]? with | some x => .v x | none => .undef) _
  cases hx : args[t]? with
  | some x =>
    obtain ⟨v, h1, h2⟩ := hall.get t x hx
    have : (vs.toArray ++ Array.replicate (nt - vs.toArray.size) undef).getD t undef = v := by
      rw [Array.getD_eq_getD_getElem?]
      have ht : t < vs.length := by
        rcases Nat.lt_or_ge t vs.length with h | h
        · exact h
        · rw [List.getElem?_eq_none h] at h1; cases h1
      rw [Array.getElem?_append_left (by simpa using ht)]
      simp [h1]
    rw [this]; exact h2
  | none =>
    have ht : vs.length ≤ t := by rw [← hl]; exact List.getElem?_eq_none_iff.1 hx
    show _ = undef
    rw [Array.getD_eq_getD_getElem?, Array.getElem?_append_right (by simpa using ht)]
    rw [Array.getElem?_replicate]
    split <;> rfl

end Go.Ax
/- Ax: the machine's calls are the program's. -/
set_option linter.unusedVariables false
set_option linter.unusedSimpArgs false
namespace Go.Ax
open Go.RowKit
variable {P : Program} {ti : Nat → TI}
variable {nt N d : Nat} {s : St} {m : AMem} {H : Hp} {lam : Nat → Option Nat} {a : Act} {w w0 : World}
variable {Hi : Hp} {mi : AMem} {wi : World} {K : Act → World → Prop} {Q : Exit → Act → World → Prop} {A : Prg}

/-- A body's run ends where the machine says. -/
theorem body_sound (hA : PrgOk P A) {call : CallT} (hco : CallOk P w0 (d + 1) call) (hw : WOk w0 H m w) {n : Nat} {fd : FnD} {args : List AV} {vs : List Value} (hv : VL H args vs) {s' : St} {m' : AMem} (h : aBody A call n fd args m = some (s', m'))
    (hQ : ∀ a' w', Inv fd.nt w.heap.size d w0 H m w s' m' a' w' → Q .normal a' w' ∧ Q .ret a' w') : fd.body.wp P Q { tmps := vs.toArray ++ Array.replicate (fd.nt - vs.toArray.size) undef, defers := [] } w := by
  unfold aBody at h
  obtain ⟨hb, h1⟩ := bnd_some h
  simp only [Bool.and_eq_true] at hb
  obtain ⟨⟨x, s1, m1⟩, h2, h3⟩ := Option.bind_eq_some_iff.1 h1
  have hl := Nat.eq_of_beq_eq_true hb.1
  have hi := enter_inv (nt := fd.nt) (d := d) hw hv (by have := Nat.le_of_ble_eq_true hb.2; omega)
  refine code_sound hA.mixed (fd.env A) rfl hA.tys hco hw.below.size _ _ _ h2 hi fun a' w' hi' => ?_
  cases x with
  | exit id => cases h3
  | normal =>
    simp only [Option.some.injEq, Prod.mk.injEq] at h3
    obtain ⟨rfl, rfl⟩ := h3
    exact (hQ a' w' hi').1
  | ret =>
    simp only [Option.some.injEq, Prod.mk.injEq] at h3
    obtain ⟨rfl, rfl⟩ := h3
    exact (hQ a' w' hi').2

/-- Deferred calls. -/
def DefOk (P : Program) (w0 : World) (d : Nat) (call : CallT) : Prop :=
  ∀ f args m r m', call f args m = some (r, m') → ∀ H w (vs : List Value), WOk w0 H m w → VL H args vs →
    (callFunc f vs.toArray).run P w = .ok (.enter f vs.toArray) w ∧ ∀ u, CallsD P f vs.toArray u w fun e u' w' => u' = u ∧ match e with | .returned _ => ∃ H', WOk w0 H' m' w' ∧ Ext d w.heap.size H m w H' m' w' | _ => False

theorem def_sound (hA : PrgOk P A) {call : CallT} (hco : CallOk P w0 (d + 1) call) (n : Nat) : DefOk P w0 d (aDef A call n) := by
  intro f args m r m' h H w vs hw hv
  unfold aDef at h
  obtain ⟨fd, h1, h2⟩ := Option.bind_eq_some_iff.1 h
  obtain ⟨⟨s1, m1⟩, h3, h4⟩ := Option.bind_eq_some_iff.1 h2
  obtain ⟨hdf, h5⟩ := bnd_some h4
  obtain ⟨r', h6, h7⟩ := Option.map_eq_some_iff.1 h5
  simp only [Prod.mk.injEq] at h7
  obtain ⟨rfl, rfl⟩ := h7
  refine ⟨run_callFunc hA h1 _ _, fun u => ?_⟩
  obtain ⟨fn, g1, g2, g3, g4, g5⟩ := hA.fn f fd h1
  refine callsD_of_wp g1 g2 ?_
  rw [g3]
  refine body_sound hA hco hw hv h3 fun a' w' hi => ?_
  have key : a'.defers = [] ∧ ∃ v, (results fn a'.tmps).run P w' = .ok v w' ∧ ∃ H', WOk w0 H' m1 w' ∧ Ext d w.heap.size H m w H' m1 w' := by
    obtain ⟨H1, lam, k1, k2, k3, k4⟩ := hi
    have hd0 : s1.df = [] := List.isEmpty_iff.1 hdf
    have hdd : a'.defers = [] := by
      have := k2.df
      rw [hd0] at this
      cases ha : a'.defers with
      | nil => rfl
      | cons q r => rw [ha] at this; exact this.elim
    obtain ⟨v, H2, q1, q2, q3, q4⟩ := res_ok (fd.env A) hA.tys hw.below.size k1 k2 g4 h6 d
    exact ⟨hdd, v, q1, H2, q2, k3.trans q3⟩
  exact ⟨key, key⟩

theorem settle_returning : settle .returning = .returning := rfl

theorem defers_sound (hB : w0.heap.size ≤ N) {cd : CallT} (hcd : DefOk P w0 (d + 1) cd) {fn : Func} {R : Ending → World → Prop} : ∀ {df : List AV} {qs : List Deferred} {m m' : AMem} {H : Hp} {w : World}, runDefers cd df m = some m' →
    All2 (fun x (q : Deferred) => ∃ f cap, x = .fn f cap ∧ ∃ vs : List Value, q = { target := .fn (.func f) vs.toArray, args := #[] } ∧ VL H cap vs) df qs → WOk w0 H m w → Fr nt N d s m H lam a w → Ext d N Hi mi wi H m w → N ≤ w.heap.size →
    (∀ H' w', WOk w0 H' m' w' → Fr nt N d s m' H' lam a w' → Ext d N Hi mi wi H' m' w' → ∃ v, (results fn a.tmps).run P w' = .ok v w' ∧ R (.returned v) w') → Go.Leaves P fn a.tmps R qs .returning w
  | [], [], m, m', H, w, h, _, hw, hf, hx, hN, hR => by
    simp only [runDefers, Option.some.injEq] at h; subst h
    exact hR H w hw hf hx
  | [], _ :: _, _, _, _, _, _, h, _, _, _, _, _ => h.elim
  | _ :: _, [], _, _, _, _, _, h, _, _, _, _, _ => h.elim
  | x :: df, q :: qs, m, m', H, w, h, ⟨⟨f, cap, e1, vs, e2, hv⟩, hrest⟩, hw, hf, hx, hN, hR => by
    subst e1 e2
    simp only [runDefers] at h
    obtain ⟨⟨r, m1⟩, h1, h2⟩ := Option.bind_eq_some_iff.1 h
    obtain ⟨g1, g2⟩ := hcd f cap m r m1 h1 H w vs hw hv
    refine leaves_cons (f := f) (args := vs.toArray) (by simp) (by simpa [invoke] using g1) (CallsD.mono (g2 .returning) fun e u' w' he => ?_)
    obtain ⟨rfl, he⟩ := he
    cases e with
    | returned v =>
      obtain ⟨H', k1, k2⟩ := he
      have hf' := hf.ext k2 (Nat.le_refl _)
      exact defers_sound hB hcd h2 (hrest.mono fun _ _ _ ⟨f, cap, e, vs, e2, hv⟩ => ⟨f, cap, e, vs, e2, VL_mono k2.hle cap vs hv⟩) k1 hf' (hx.trans (k2.weaken (Nat.le_succ d) hN)) (Nat.le_trans hN k2.size) hR
    | panicked chain => exact he.elim
    | outgrown => exact he.elim

/-- THE MACHINE's CALLS ARE THE PROGRAM's. -/
theorem call_ok (hA : PrgOk P A) : ∀ (n d : Nat), CallOk P w0 d (aCall A n)
  | 0, d => fun f args m r m' h => by cases h
  | n + 1, d => by
    intro f args m r m' h H w vs hw hv
    simp only [aCall] at h
    split at h
    · rename_i g hg
      exact hA.spec f g hg w0 d args m r m' h H w vs hw hv
    · obtain ⟨fd, h1, h2⟩ := Option.bind_eq_some_iff.1 h
      obtain ⟨⟨s1, m1⟩, h3, h4⟩ := Option.bind_eq_some_iff.1 h2
      obtain ⟨m2, h5, h6⟩ := Option.bind_eq_some_iff.1 h4
      obtain ⟨r', h7, h8⟩ := Option.map_eq_some_iff.1 h6
      simp only [Prod.mk.injEq] at h8
      obtain ⟨rfl, rfl⟩ := h8
      refine .inr ⟨run_callFunc hA h1 _ _, ?_⟩
      obtain ⟨fn, g1, g2, g3, g4, g5⟩ := hA.fn f fd h1
      refine calls_of_wp_defers g1 g2 ?_
      rw [g3]
      refine body_sound hA (call_ok hA n (d + 1)) hw hv h3 fun a' w' hi => ?_
      have key : Go.Leaves P fn a'.tmps (fun e w' => match e with | .returned v => ∃ H', WOk w0 H' m2 w' ∧ Ext d w.heap.size H m w H' m2 w' ∧ V H' r' v | _ => False) a'.defers .returning w' := by
        obtain ⟨H1, lam, k1, k2, k3, k4⟩ := hi
        refine defers_sound hw.below.size (def_sound hA (call_ok hA n (d + 2)) n) h5 k2.df k1 k2 k3 k4 fun H2 w2 q1 q2 q3 => ?_
        obtain ⟨v, H3, q4, q5, q6, q7⟩ := res_ok (fd.env A) hA.tys hw.below.size q1 q2 g4 h7 d
        exact ⟨v, q4, H3, q5, q3.trans q6, q7⟩
      exact ⟨key, key⟩

end Go.Ax
/- Ax: a seat's types are what the machine is told: a check by computation. -/
set_option linter.unusedVariables false
namespace Go.Ax

/-- Does a model's zero cell read as the machine's? -/
def zrB : T → Value → Bool
  | .v (.int k n), .int k' n' => decide (k = k') && decide (n = n')
  | .v (.bool b), .bool b' => b == b'
  | .v (.str []), .string s => s.data.toList.isEmpty
  | .v .nilp, .pointer none => true
  | .v .nilf, .nilFunc => true
  | .v .nili, .nilIface => true
  | .v (.mp [] []), .map none => true
  | .own 0 _ [], .slice none 0 0 => true
  | _, _ => false

def zrsB : List T → List Value → Bool
  | [], [] => true
  | z :: zs, u :: us => zrB z u && zrsB zs us
  | _, _ => false

theorem zrB_ok {z : T} {u : Value} (h : zrB z u = true) : Zr z u := by
  unfold zrB at h
  split at h <;> first | (cases h; done) | skip
  · simp only [Bool.and_eq_true, decide_eq_true_eq] at h; obtain ⟨rfl, rfl⟩ := h; rfl
  · simp only [beq_iff_eq] at h; subst h; rfl
  · rename_i s
    simp only [List.isEmpty_iff] at h
    show Value.string s = .string ⟨#[]⟩
    congr 1
    apply ByteArray.ext
    exact Array.toList_inj.1 h
  · rfl
  · rfl
  · rfl
  · rfl
  · rfl

theorem zrsB_ok : ∀ {zs : List T} {us : List Value}, zrsB zs us = true → All2 Zr zs us
  | [], [], _ => trivial
  | z :: zs, u :: us, h => by
    simp only [zrsB, Bool.and_eq_true] at h
    exact ⟨zrB_ok h.1, zrsB_ok h.2⟩
  | [], _ :: _, h => by cases h
  | _ :: _, [], h => by cases h

def undB : TK → Option TypeDesc → Bool
  | .int k, some (.int k') => decide (k = k')
  | .bool, some .bool => true
  | .str, some .string => true
  | .slice e, some (.slice e') => decide (e = e')
  | .struct fs, some (.struct F) => decide (F.toList.map (fun f => (f.offset, f.type)) = fs)
  | .array n e, some (.array n' e') => decide (n = n') && decide (e = e')
  | .ptr e, some (.pointer e') => decide (e = e')
  | .map k e, some (.map k' e') => decide (k = k') && decide (e = e')
  | .func, some (.func _ _ _) => true
  | .iface, some (.struct _) => false
  | .iface, some (.array _ _) => false
  | .iface, some _ => true
  | .tuple, some (.struct _) => false
  | .tuple, some (.array _ _) => false
  | .tuple, some _ => true
  | _, _ => false

def zeroB (i : TI) (z : Value) : Bool := zrsB i.zero z.cells.toList && (match i.isAgg, z with | true, .agg _ => true | true, _ => false | false, z => z.oneCell')

def tyB (P : Program) (t : Nat) (i : TI) : Bool :=
  undB i.k (P.underlying t) && match P.info? t with
    | some x => decide (x.size = i.sz) && decide (x.bytes = i.by_) && (!(Nat.beq i.zero.length i.sz) || match x.zero with | some z => zeroB i z | none => false)
    | none => false

def tysB (P : Program) (ti : Nat → TI) (n : Nat) : Bool := (List.range n).all fun t => !(ti t).ok || (tyB P t (ti t) && (subs (ti t).k).all fun e => (ti e).ok)

theorem tyB_ok {P : Program} {t : Nat} {i : TI} (h : tyB P t i = true) (hk : i.ok = true) : TyOk P t i := by
  unfold tyB at h
  rw [Bool.and_eq_true] at h
  obtain ⟨h1, h2⟩ := h
  refine ⟨?_, ?_⟩
  · unfold TI.ok at hk
    unfold undB at h1
    generalize P.underlying t = u at h1 ⊢
    generalize i.k = k at h1 hk ⊢
    cases k <;> (try (cases hk; done)) <;> rcases u with _ | D <;> (try (cases h1; done)) <;> cases D <;> first | (cases h1; done) | skip
    all_goals (try simp only [Bool.and_eq_true, decide_eq_true_eq] at h1)
    all_goals first | (subst h1; rfl; done) | (obtain ⟨rfl, rfl⟩ := h1; rfl; done) | rfl | exact ⟨_, rfl, h1⟩ | exact ⟨_, _, _, rfl⟩ | exact ⟨_, rfl, fun _ _ _ => ⟨by simp, by simp⟩⟩
  · split at h2
    · rename_i x hx
      simp only [Bool.and_eq_true, decide_eq_true_eq, Bool.or_eq_true, Bool.not_eq_true'] at h2
      obtain ⟨⟨g1, g2⟩, g3⟩ := h2
      refine ⟨x, hx, g1, g2, fun hl => ?_⟩
      rcases g3 with g3 | g3
      · rw [hl] at g3; simp at g3
      · split at g3
        · rename_i z hz
          unfold zeroB at g3
          rw [Bool.and_eq_true] at g3
          refine ⟨z, hz, zrsB_ok g3.1, fun ha => ?_, fun ha => ?_⟩
          · have := g3.2
            rw [ha] at this
            cases z <;> first | exact ⟨_, rfl⟩ | (cases this; done)
          · have := g3.2
            rw [ha] at this
            exact this
        · cases g3
    · cases h2

theorem tysB_ok {P : Program} {ti : Nat → TI} {n : Nat} (h : tysB P ti n = true) (hd : ∀ t, n ≤ t → (ti t).ok = false) (hs : ∀ t, (ti t).ok = false → subs (ti t).k = []) : TysOk P ti := by
  have key : ∀ t, (ti t).ok = true → tyB P t (ti t) = true ∧ ∀ e ∈ subs (ti t).k, (ti e).ok = true := by
    intro t ht
    have hlt : t < n := by
      rcases Nat.lt_or_ge t n with h | h
      · exact h
      · rw [hd t h] at ht; cases ht
    have := List.all_eq_true.1 h t (List.mem_range.2 hlt)
    simp only [ht, Bool.not_true, Bool.false_or, Bool.and_eq_true, List.all_eq_true] at this
    exact this
  refine ⟨fun t ht => tyB_ok (key t ht).1 ht, fun t e he => ?_⟩
  cases ht : (ti t).ok with
  | true => exact (key t ht).2 e he
  | false => rw [hs t ht] at he; cases he

end Go.Ax
/- Ax: freezing a row that nobody appends to any more; runs by contract. -/
set_option linter.unusedVariables false
set_option linter.unusedSimpArgs false
namespace Go.Ax
open Go.RowKit
variable {P : Program} {nt N d : Nat} {s : St} {m : AMem} {H : Hp} {w w0 : World}

theorem refreeze (hw : WOk w0 H m w) {c0 : Nat} {f : Nat → Option Value} (hB : w0.heap.size ≤ c0) (hc : H c0 = .froz f none) {arr : Array Value} {ty : TypeId} {fr : Nat × Nat} (harr : w.heap[c0]? = some (.cells arr ty fr)) (fr' : Nat × Nat) (D N' : Nat) :
    WOk w0 H m (setBlk w c0 (.cells arr ty fr')) ∧ Ext D N' H m w H m (setBlk w c0 (.cells arr ty fr')) := by
  have hlt := lt_of_heap harr
  have hne : ∀ {j : Nat} {x : HB}, H j = x → (∀ f r, x ≠ .froz f r) → j ≠ c0 := by rintro j x h hx rfl; rw [hc] at h; exact hx _ _ h.symm
  refine ⟨⟨below_setBlk hw.below hB _, fun j hj => hw.free j (by rw [setBlk_size] at hj; exact hj), ?_, ?_, hw.memU, hw.memN, ?_, hw.next, hw.mvU, ?_, ?_⟩, ⟨HLe.refl _, ?_, ?_, Nat.le_refl _, ?_, fun _ _ h _ => h, by rw [setBlk_size]; exact Nat.le_refl _⟩⟩
  · intro j g r hj
    obtain ⟨arr1, ty1, fr1, h1, h2, h3⟩ := hw.froz j g r hj
    by_cases e : j = c0
    · subst e
      rw [hc] at hj; injection hj with e1 e2; subst e1 e2
      rw [harr] at h1; injection h1 with h1; injection h1 with e1 e2 _; subst e1 e2
      exact ⟨arr, ty, fr', setBlk_same _ hlt, h2, fun q hq => by cases hq⟩
    · exact ⟨arr1, ty1, fr1, by rw [setBlk_ne _ e, h1], h2, h3⟩
  · intro id cs h
    obtain ⟨j, arr1, ty1, h1, h2, h3, h4⟩ := hw.mem id cs h
    exact ⟨j, arr1, ty1, h1, by rw [setBlk_ne _ (hne h1 (by simp)), h2], h3, h4⟩
  · intro j ks vs hj
    obtain ⟨es, clk, h1, h2⟩ := hw.fmap j ks vs hj
    exact ⟨es, clk, by rw [setBlk_ne _ (hne hj (by simp)), h1], h2⟩
  · intro j id hj arr1 e1 fr1 ha
    rw [setBlk_ne _ (hne hj (by simp))] at ha; exact hw.memT j id hj arr1 e1 fr1 ha
  · intro j g q hj hq arr1 e1 fr1 ha
    have e : j ≠ c0 := by rintro rfl; rw [hc] at hj; injection hj with _ h2; cases h2
    rw [setBlk_ne _ e] at ha; exact hw.rowT j g q hj hq arr1 e1 fr1 ha
  · intro j hj _
    exact ⟨hj, setBlk_ne _ (hne hj (by simp))⟩
  · intro j g d' k x y hj _
    have e : j ≠ c0 := by rintro rfl; rw [hc] at hj; injection hj with _ h2; cases h2
    exact ⟨rfl, setBlk_ne _ e⟩
  · intro id off cs k sz xs h1 h2 _ _
    refine ⟨⟨cs, h1, h2⟩, fun j hj => ?_⟩
    simp only [World.cell?]
    rw [setBlk_ne _ (hne hj (by simp))]

theorem freeze_blk {w : World} {c o n : Nat} {arr : Array Value} {e : TypeId} {fr : Nat × Nat} (h : w.heap[c]? = some (.cells arr e fr)) : ∃ fr', w.freeze ⟨c, o, none⟩ n = setBlk w c (.cells arr e fr') := by
  by_cases hn : n = 0
  · exact ⟨fr, by rw [setBlk_id h, World.freeze, if_pos hn]⟩
  · obtain ⟨lo, hi⟩ := fr
    refine ⟨if lo == hi then (o, o + n) else (min lo o, max hi (o + n)), ?_⟩
    unfold World.freeze setBlk
    rw [if_neg hn]
    congr 1
    apply Array.ext_getElem?
    intro i
    obtain ⟨hlt, hx⟩ := Array.getElem?_eq_some_iff.1 h
    rw [Array.getElem?_modify, Array.getElem?_setIfInBounds]
    by_cases e : c = i
    · subst e; simp [hlt, hx]
    · simp [e]

/-- A function that is entered runs as its calls say. -/
theorem runs_of_calls {f : FuncId} {vs : Array Value} {R : Value → World → Prop} (h1 : (callFunc f vs).run P w = .ok (.enter f vs) w) (h2 : Calls P f vs w fun e w' => match e with | .returned v => R v w' | _ => False) : Runs P f vs w R := .inr ⟨h1, h2⟩

/-- A memory cell is set to a plain value. -/
theorem mem_set (hw : WOk w0 H m w) {id c off : Nat} {cs : List T} {x : AV} {v : Value} (hb : m.blk id = some cs) (hc : H c = .mem id) {arr : Array Value} {ty : TypeId} (harr : w.heap[c]? = some (.cells arr ty (0, 0))) (hall : All2 (VM1 H m) cs arr.toList) (hone : v.oneCell' = true) (hv : V H x v) (D N' : Nat) :
    WOk w0 H { m with blk := upd m.blk id (some (cs.set off (.v x))) } (setBlk w c (.cells (arr.setIfInBounds off v) ty)) ∧ Ext D N' H m w H { m with blk := upd m.blk id (some (cs.set off (.v x))) } (setBlk w c (.cells (arr.setIfInBounds off v) ty)) := by
  have hset : ∀ (j k2 sz2 : Nat) (xs2 : List AV), (cs.set off (T.v x))[j]? = some (.own k2 sz2 xs2) → j ≠ off ∧ cs[j]? = some (.own k2 sz2 xs2) := by
    intro j k2 sz2 xs2 hj
    rw [List.getElem?_set] at hj
    split at hj
    · split at hj <;> simp at hj
    · rename_i hne; exact ⟨fun e => hne e.symm, hj⟩
  exact mem_write (n0 := m.next) (D := D) (N' := N') (cs' := cs.set off (.v x)) hw hb hc harr (arr' := arr.setIfInBounds off v)
    (by
      have := hall.set off (T.v x) v ⟨hone, hv⟩
      simpa using this)
    (fun j k2 sz2 xs2 hj _ => .inl ⟨(hset j k2 sz2 xs2 hj).2, by rw [Array.getElem?_setIfInBounds, if_neg (fun e => (hset j k2 sz2 xs2 hj).1 e.symm)]⟩) (Nat.le_refl _) (fun j k2 sz2 xs2 hj _ _ => (hset j k2 sz2 xs2 hj).2)

/-- A call without arguments, in a world of its own: what lay there stays. -/
theorem closed_spec {A : Prg} (hA : PrgOk P A) {n f : Nat} {m0 m1 : AMem} {b : Bool} (hm0 : m0.blk = fun _ => none) (hn0 : 0 < m0.next) (h : aCall A n f [] m0 = some (.bool b, m1)) : SpecOk P f (fun args m => match args with | [] => some (.bool b, m) | _ => none) := by
  intro w0 d args m r m' hr H w vs hw hv
  cases args with
  | cons a l => cases hr
  | nil =>
    simp only [Option.some.injEq, Prod.mk.injEq] at hr
    obtain ⟨rfl, rfl⟩ := hr
    let H0 : Hp := fun c => if c < w.heap.size then .priv else .free
    have hw0 : WOk w H0 m0 w := by
      refine ⟨Below.refl _ _, fun c hc => ?_, fun c f r hc => ?_, fun id cs hc => ?_, fun c c' id hc => ?_, fun c id hc => ?_, fun c ks vs hc => ?_, hn0, fun id off cs id' off' cs' k sz xs sz' xs' hc => ?_, fun c id hc => ?_, fun c f q hc => ?_⟩
      · show (if c < w.heap.size then HB.priv else .free) = .free
        rw [if_neg (by omega)]
      all_goals first
        | (rw [hm0] at hc; cases hc; done)
        | (exfalso; change (if c < w.heap.size then HB.priv else .free) = _ at hc; split at hc <;> cases hc)
    have hc := call_ok (w0 := w) hA n d f [] m0 (.bool b) m1 h H0 w vs hw0 hv
    have key : ∀ v w', (∃ H', WOk w H' m1 w' ∧ Ext d w.heap.size H0 m0 w H' m1 w' ∧ V H' (.bool b) v) → ∃ H', WOk w0 H' m w' ∧ Ext d w.heap.size H m w H' m w' ∧ V H' (.bool b) v := by
      rintro v w' ⟨H', g1, g2, g3⟩
      have hsz := g1.below.size
      have hblk : ∀ c, c < w.heap.size → w'.heap[c]? = w.heap[c]? := fun c hc => g1.below.block c hc
      let H1 : Hp := fun c => if c < w.heap.size then H c else if c < w'.heap.size then .priv else .free
      have e1 : ∀ c, c < w.heap.size → H1 c = H c := fun c hc => if_pos hc
      have e2 : ∀ {c : Nat} {x : HB}, H1 c = x → x ≠ .priv → x ≠ .free → c < w.heap.size := by
        intro c x hx h1 h2
        rcases Nat.lt_or_ge c w.heap.size with hlt | hge
        · exact hlt
        · exfalso
          change (if c < w.heap.size then H c else if c < w'.heap.size then .priv else .free) = x at hx
          rw [if_neg (by omega)] at hx
          split at hx
          · exact h1 hx.symm
          · exact h2 hx.symm
      have e3 : ∀ c, H c ≠ .free → c < w.heap.size := fun c hc => by
        rcases Nat.lt_or_ge c w.heap.size with hlt | hge
        · exact hlt
        · exact absurd (hw.free c hge) hc
      have hs : ∀ c, H c ≠ .free → H1 c = H c := fun c hc => e1 c (e3 c hc)
      have hle := HLe.of_same hs
      refine ⟨H1, ?_, ?_, g3⟩
      · refine ⟨(hw.below.trans (g1.below.mono hw.below.size)), fun c hc => ?_, fun c f r hc => ?_, fun id cs hc => ?_, fun c c' id h1 h2 => ?_, fun c id hc => ?_, fun c ks vs hc => ?_, hw.next, hw.mvU, fun c id hc arr e fr ha => ?_, fun c f q hc hq arr e fr ha => ?_⟩
        · show (if c < w.heap.size then H c else if c < w'.heap.size then HB.priv else .free) = .free
          rw [if_neg (by omega), if_neg (by omega)]
        · have hlt := e2 hc (by simp) (by simp)
          rw [e1 c hlt] at hc
          obtain ⟨arr, e, fr, h1, h2⟩ := hw.froz c f r hc
          exact ⟨arr, e, fr, by rw [hblk c hlt, h1], h2⟩
        · obtain ⟨c, arr, e, h1, h2, h3, h4⟩ := hw.mem id cs hc
          have hlt := e3 c (by rw [h1]; simp)
          exact ⟨c, arr, e, by rw [e1 c hlt, h1], by rw [hblk c hlt, h2], h3, h4.mono fun _ _ _ h => h.mono hle (fun _ _ _ _ _ hr => hr.same hs) (Nat.le_refl _)⟩
        · have l1 := e2 h1 (by simp) (by simp)
          have l2 := e2 h2 (by simp) (by simp)
          rw [e1 c l1] at h1; rw [e1 c' l2] at h2
          exact hw.memU c c' id h1 h2
        · have l1 := e2 hc (by simp) (by simp)
          rw [e1 c l1] at hc; exact hw.memN c id hc
        · have l1 := e2 hc (by simp) (by simp)
          rw [e1 c l1] at hc
          obtain ⟨es, clk, h1, h2⟩ := hw.fmap c ks vs hc
          exact ⟨es, clk, by rw [hblk c l1, h1], h2⟩
        · have l1 := e2 hc (by simp) (by simp)
          rw [e1 c l1] at hc; rw [hblk c l1] at ha; exact hw.memT c id hc arr e fr ha
        · have l1 := e2 hc (by simp) (by simp)
          rw [e1 c l1] at hc; rw [hblk c l1] at ha; exact hw.rowT c f q hc hq arr e fr ha
      · refine ⟨hle, fun c hc hlt => ⟨by rw [e1 c hlt, hc], hblk c hlt⟩, fun c f d' k x y hc _ => ?_, Nat.le_refl _, fun id off cs k sz xs h1 h2 _ _ => ⟨⟨cs, h1, h2⟩, fun c hc => ?_⟩, fun c id hc _ => ?_, hsz⟩
        · have l1 := e3 c (by rw [hc]; simp)
          exact ⟨e1 c l1, hblk c l1⟩
        · have l1 := e3 c (by rw [hc]; simp)
          simp only [World.cell?]; rw [hblk c l1]
        · have l1 := e2 hc (by simp) (by simp)
          rw [e1 c l1] at hc; exact hc
    rcases hc with ⟨v, w', h1, h2⟩ | ⟨h1, h2⟩
    · exact .inl ⟨v, w', h1, key v w' h2⟩
    · exact .inr ⟨h1, h2.mono fun e w' he => by cases e <;> first | exact key _ _ he | exact he⟩
end Go.Ax
/- Ax: what can be read as data in the old memory is an abstract value. -/
set_option linter.unusedVariables false
set_option linter.unusedSimpArgs false
namespace Go.Ax
open Go.RowKit

/-- The old memory: every row is closed. -/
def Hw (W : World) : Hp := fun c => match W.heap[c]? with
  | some (.cells arr _ _) => .froz (fun i => arr[i]?) none
  | some _ => .priv
  | none => .free

def mz : AMem := { next := 1, blk := fun _ => none, ty := fun _ => 0 }
theorem hw_ok (W : World) : WOk W (Hw W) mz W := by
  refine ⟨Below.refl _ _, fun c hc => ?_, fun c f r hc => ?_, fun id cs hc => (by cases hc), fun c c' id hc => ?_, fun c id hc => ?_, fun c ks vs hc => ?_, Nat.one_pos, fun id off cs id' off' cs' k sz xs sz' xs' hc => (by cases hc), fun c id hc => ?_, fun c f q hc => ?_⟩
  · unfold Hw; rw [Array.getElem?_eq_none hc]
  · unfold Hw at hc
    split at hc
    · rename_i arr e fr h
      injection hc with e1 e2; subst e1 e2
      exact ⟨arr, e, fr, h, fun _ _ h => h, fun q hq => by cases hq⟩
    · cases hc
    · cases hc
  all_goals (exfalso; unfold Hw at hc; split at hc <;> first | (cases hc; done) | (injection hc with _ e2; cases e2; done))

/-- Cells that read so. -/
def RdOk (W : World) (x : AV) (cs : List Value) : Prop := ∃ v, V (Hw W) x v ∧ v.cells.toList = cs ∧ ∀ u ∈ cs, u.oneCell' = true

theorem mapM_get {α β : Type} {g : α → Option β} : ∀ {l : List α} {ys : List β}, l.mapM g = some ys → ys.length = l.length ∧ ∀ (i : Nat) x, l[i]? = some x → ∃ y, g x = some y ∧ ys[i]? = some y
  | [], ys, h => by simp at h; subst h; exact ⟨rfl, fun i x h => by simp at h⟩
  | a :: l, ys, h => by
    rw [List.mapM_cons] at h
    obtain ⟨y, h1, h2⟩ := Option.bind_eq_some_iff.1 h
    obtain ⟨zs, h3, h4⟩ := Option.bind_eq_some_iff.1 h2
    injection h4 with h4; subst h4
    obtain ⟨h5, h6⟩ := mapM_get h3
    refine ⟨by simp [h5], fun i x hx => ?_⟩
    cases i with
    | zero => simp at hx; subst hx; exact ⟨y, h1, rfl⟩
    | succ i => simpa using h6 i x (by simpa using hx)

theorem VE_of_get {H : Hp} {f : Nat → Option Value} {sz : Nat} : ∀ {xs : List AV} {o : Nat}, (∀ (i : Nat) x, xs[i]? = some x → ∃ v, V H x v ∧ v.cells.size = sz ∧ ∀ j u, v.cells[j]? = some u → u.oneCell' = true ∧ f (o + i * sz + j) = some u) → VE H f sz xs o
  | [], o, _ => trivial
  | x :: xs, o, h => by
    refine ⟨?_, VE_of_get (o := o + sz) fun i y hy => ?_⟩
    · obtain ⟨v, h1, h2, h3⟩ := h 0 x rfl
      exact ⟨v, h1, h2, fun j u hu => by simpa using h3 j u hu⟩
    · obtain ⟨v, h1, h2, h3⟩ := h (i + 1) y (by simpa using hy)
      refine ⟨v, h1, h2, fun j u hu => ?_⟩
      have := h3 j u hu
      rw [show o + (i + 1) * sz + j = o + sz + i * sz + j by rw [Nat.add_mul]; omega] at this
      exact this

theorem add_at (c o n j : Nat) : ((⟨c, o, none⟩ : Addr).add n).add j = ⟨c, o + n + j, none⟩ := by
  unfold Addr.add
  by_cases h1 : n = 0 <;> by_cases h2 : j = 0 <;> simp [h1, h2]

/-- A slice whose elements can be read. -/
theorem rd_slice {α β : Type} (W : World) (en : α → AV) (sz : Nat) (h0 : 0 < sz) (rd : List Value → Option β) (hrd : ∀ cs d, rd cs = some d → cs.length = sz → ∃ x, RdOk W (en x) cs) {a : Addr} {len cap : Nat} {ys : List β}
    (h : (List.range len).mapM (fun i => (W.cells? 0 (a.add (i * sz)) sz).bind rd) = some ys) (hc : len ≤ cap) : ∃ xs : List α, xs.length = len ∧ V (Hw W) (.sl sz (xs.map en)) (.slice (some a) len cap) := by
  have hi : ∀ i, i < len → ∃ cs x, W.cells? 0 (a.add (i * sz)) sz = some cs ∧ cs.length = sz ∧ RdOk W (en x) cs := by
    intro i hlt
    obtain ⟨y, h1, _⟩ := (mapM_get h).2 i i (by simp [hlt])
    obtain ⟨cs, h2, h3⟩ := Option.bind_eq_some_iff.1 h1
    have hl : cs.length = sz := by
      unfold World.cells? at h2
      rw [if_pos (Nat.zero_le _)] at h2
      simpa using (mapM_get h2).1
    obtain ⟨x, hx⟩ := hrd cs y h3 hl
    exact ⟨cs, x, h2, hl, hx⟩
  by_cases hlen : len = 0
  · subst hlen
    exact ⟨[], rfl, some a, cap, rfl, Nat.zero_le _, .inl rfl⟩
  have hcell : ∀ i, i < len → ∀ cs, W.cells? 0 (a.add (i * sz)) sz = some cs → ∀ j u, cs[j]? = some u → W.cell? ((a.add (i * sz)).add j) = some u := by
    intro i hlt cs h2 j u hu
    unfold World.cells? at h2
    rw [if_pos (Nat.zero_le _)] at h2
    obtain ⟨h3, h4⟩ := mapM_get h2
    have hj : j < sz := by
      have : j < cs.length := by
        rcases Nat.lt_or_ge j cs.length with h | h
        · exact h
        · rw [List.getElem?_eq_none h] at hu; cases hu
      simpa [h3] using this
    obtain ⟨y, h5, h6⟩ := h4 j j (by simp [hj])
    rw [hu] at h6; injection h6 with h6; subst h6
    exact h5
  obtain ⟨cs0, x0, g1, g2, g3⟩ := hi 0 (by omega)
  obtain ⟨u0, hu0⟩ : ∃ u, cs0[0]? = some u := ⟨cs0[0]'(by omega), List.getElem?_eq_getElem _⟩
  have hc0 := hcell 0 (by omega) cs0 g1 0 u0 hu0
  have ha : W.cell? a = some u0 := by simpa [Addr.add] using hc0
  obtain ⟨c, o, sp⟩ := a
  obtain ⟨arr, e, fr, hh, rfl⟩ : ∃ arr e fr, W.heap[c]? = some (.cells arr e fr) ∧ sp = none := by
    unfold World.cell? at ha
    split at ha
    · rename_i arr e fr hh
      refine ⟨arr, e, fr, hh, ?_⟩
      cases sp with
      | none => rfl
      | some s => simp at ha
    · cases ha
  have hx : ∀ i : Fin len, ∃ x : α, ∃ v, V (Hw W) (en x) v ∧ v.cells.size = sz ∧ ∀ j u, v.cells[j]? = some u → u.oneCell' = true ∧ arr[o + i.val * sz + j]? = some u := by
    intro i
    obtain ⟨cs, x, k1, k2, v, k3, k4, k5⟩ := hi i.val i.isLt
    refine ⟨x, v, k3, by rw [← Array.length_toList, k4, k2], fun j u hu => ?_⟩
    have hu' : cs[j]? = some u := by rw [← k4]; simpa using hu
    refine ⟨k5 u (List.mem_of_getElem? hu'), ?_⟩
    have := hcell i.val i.isLt cs k1 j u hu'
    rw [add_at, cell_block hh] at this
    exact this
  refine ⟨List.ofFn fun i => Classical.choose (hx i), by simp, some ⟨c, o, none⟩, cap, by simp, by simpa using hc, .inr ⟨c, o, fun i => arr[i]?, none, rfl, by unfold Hw; rw [hh], h0, VE_of_get fun i y hy => ?_⟩⟩
  rw [List.getElem?_map] at hy
  obtain ⟨x, hx1, hx2⟩ := Option.map_eq_some_iff.1 hy
  obtain ⟨hlt, hx3⟩ := List.getElem?_eq_some_iff.1 hx1
  simp at hlt
  have hx4 : x = Classical.choose (hx ⟨i, hlt⟩) := by rw [← hx3]; simp
  obtain ⟨v, k1, k2, k3⟩ := Classical.choose_spec (hx ⟨i, hlt⟩)
  rw [← hx4, hx2] at k1
  exact ⟨v, k1, k2, k3⟩
end Go.Ax
