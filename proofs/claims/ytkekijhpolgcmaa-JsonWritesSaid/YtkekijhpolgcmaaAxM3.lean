/- The machine Ax, part AxM3: its steps and why they are sound. -/
import Derived.Test.YtkekijhpolgcmaaAxM2
/- Ax: new blocks. -/
set_option linter.unusedVariables false
set_option linter.unusedSimpArgs false
namespace Go.Ax
open Go.RowKit
variable {P : Program} {ti : Nat → TI}
variable {nt N d : Nat} {s : St} {m : AMem} {H : Hp} {lam : Nat → Option Nat} {a : Act} {w w0 : World}

theorem heap_new (w : World) (o : Obj) : (w.alloc o).heap[w.heap.size]? = some o := by
  show (w.heap.push o)[w.heap.size]? = _; simp
theorem heap_old (w : World) (o : Obj) {c : Nat} (h : c ≠ w.heap.size) : (w.alloc o).heap[c]? = w.heap[c]? := by
  show (w.heap.push o)[c]? = _
  rw [Array.getElem?_push]; simp [h]
theorem heap_size (w : World) (o : Obj) : (w.alloc o).heap.size = w.heap.size + 1 := by
  show (w.heap.push o).size = _; simp

theorem WOk.lt (hw : WOk w0 H m w) {c : Nat} (h : H c ≠ .free) : c < w.heap.size := by
  rcases Nat.lt_or_ge c w.heap.size with q | q
  · exact q
  · exact absurd (hw.free c q) h

theorem Roomy.same {H' : Hp} {l : RL} {sz n : Nat} {v : Value} (h : Roomy H l sz n v) (hs : ∀ c, H c ≠ .free → H' c = H c) : Roomy H' l sz n v := by
  obtain ⟨b, cap, e, h⟩ := h
  refine ⟨b, cap, e, h.imp id ?_⟩
  rintro ⟨c, o, f, ea, h0, hc⟩
  exact ⟨c, o, f, ea, h0, by rw [hs c (by rw [hc]; simp), hc]⟩

theorem VM1.mono {H' : Hp} {m' : AMem} (hle : HLe H H') (hs : ∀ k sz n v, k < m.next → Roomy H (.mv k) sz n v → Roomy H' (.mv k) sz n v) (hn : m.next ≤ m'.next) : ∀ {x : T} {v : Value}, VM1 H m x v → VM1 H' m' x v
  | .v y, v, ⟨h1, h2⟩ => ⟨h1, V_mono hle y v h2⟩
  | .own k sz xs, v, ⟨h1, h2, h3⟩ => ⟨V_mono hle _ v h1, h2, fun hk => ⟨Nat.lt_of_lt_of_le (h3 hk).1 hn, hs _ _ _ _ (h3 hk).1 (h3 hk).2⟩⟩
  | .undef, v, h => h.elim
  | .any, v, h => h.elim
  | .reg _ _, v, h => h.elim
  | .ea _ _ _ _, v, h => h.elim
  | .ld _ _ _ _ _, v, h => h.elim
  | .agg _, v, h => h.elim
  | .mref _ _ _ _ _, v, h => h.elim
  | .omap _, v, h => h.elim
  | .sit _, v, h => h.elim

theorem HLe.of_same {H' : Hp} (hs : ∀ c, H c ≠ .free → H' c = H c) : HLe H H' :=
  ⟨fun c f r h => ⟨f, r, by rw [hs c (by rw [h]; simp), h], fun _ _ h => h⟩, fun c id h => by rw [hs c (by rw [h]; simp), h], fun c k v h => by rw [hs c (by rw [h]; simp), h]⟩

/-- A new block that is no memory block. -/
theorem alloc_ok (hw : WOk w0 H m w) (o : Obj) (hb : HB) (hm : ∀ id, hb ≠ .mem id)
    (hf : ∀ f r, hb = .froz f r → ∃ arr e fr, o = .cells arr e fr ∧ (∀ i v, f i = some v → arr[i]? = some v) ∧ ∀ q, r = some q → q.to_ ≤ arr.size ∧ (∀ i v, f i = some v → i < q.from_) ∧ (∀ i, q.from_ ≤ i → i < arr.size → ¬ (fr.1 ≤ i ∧ i < fr.2)))
    (hp : ∀ ks vs, hb = .fmap ks vs → ∃ es clk, o = .map es clk ∧ es.toList.map (·.key) = ks ∧ es.toList.map (·.val) = vs) (ht : ∀ f (q : Room), hb = .froz f (some q) → q.l.el ≠ 0 → ∀ arr e fr, o = .cells arr e fr → e = q.l.el) (D N' : Nat) :
    WOk w0 (upd H w.heap.size hb) m (w.alloc o) ∧ Ext D N' H m w (upd H w.heap.size hb) m (w.alloc o) ∧ (∀ c, H c ≠ .free → upd H w.heap.size hb c = H c) := by
  have hne : ∀ c, H c ≠ .free → c ≠ w.heap.size := fun c hc e => hc (hw.free c (by omega))
  have hs : ∀ c, H c ≠ .free → upd H w.heap.size hb c = H c := fun c hc => upd_ne _ _ (hne c hc)
  have hle := HLe.of_same hs
  refine ⟨⟨?_, ?_, ?_, ?_, ?_, ?_, ?_, hw.next, hw.mvU, fun c id hc => by
    by_cases e : c = w.heap.size
    · subst e; rw [upd_same] at hc; exact absurd hc (hm id)
    · rw [upd_ne _ _ e] at hc; rw [heap_old _ _ e]; exact hw.memT c id hc, fun c f q hc hq arr e1 fr ha => by
    by_cases e : c = w.heap.size
    · subst e; rw [upd_same] at hc; rw [heap_new] at ha; injection ha with ha; exact ht f q hc hq arr e1 fr ha
    · rw [upd_ne _ _ e] at hc; rw [heap_old _ _ e] at ha; exact hw.rowT c f q hc hq arr e1 fr ha⟩, ⟨hle, ?_, ?_, Nat.le_refl _, ?_, ?_, ?_⟩, hs⟩
  · exact hw.below.alloc hw.below.size o
  · intro c hc
    rw [heap_size] at hc
    rw [upd_ne _ _ (by omega)]
    exact hw.free c (by omega)
  · intro c f r hc
    by_cases e : c = w.heap.size
    · subst e
      rw [upd_same] at hc
      obtain ⟨arr, ty, fr, h1, h2, h3⟩ := hf f r hc
      exact ⟨arr, ty, fr, by rw [heap_new, h1], h2, fun q hq => ⟨hw.below.size, h3 q hq⟩⟩
    · rw [upd_ne _ _ e] at hc
      obtain ⟨arr, ty, fr, h1, h2⟩ := hw.froz c f r hc
      exact ⟨arr, ty, fr, by rw [heap_old _ _ e, h1], h2⟩
  · intro id cs hc
    obtain ⟨c, arr, ty, h1, h2, h3, h4⟩ := hw.mem id cs hc
    have e := hne c (by rw [h1]; simp)
    exact ⟨c, arr, ty, by rw [upd_ne _ _ e, h1], by rw [heap_old _ _ e, h2], h3, h4.mono fun _ _ _ h => h.mono hle (fun _ _ _ _ _ hr => hr.same hs) (Nat.le_refl _)⟩
  · intro c c' id h1 h2
    have q : ∀ c, upd H w.heap.size hb c = .mem id → H c = .mem id := by
      intro c hc
      by_cases e : c = w.heap.size
      · subst e; rw [upd_same] at hc; exact absurd hc (hm id)
      · rwa [upd_ne _ _ e] at hc
    exact hw.memU c c' id (q c h1) (q c' h2)
  · intro c id hc
    by_cases e : c = w.heap.size
    · subst e; rw [upd_same] at hc; exact absurd hc (hm id)
    · rw [upd_ne _ _ e] at hc; exact hw.memN c id hc
  · intro c ks vs hc
    by_cases e : c = w.heap.size
    · subst e; rw [upd_same] at hc
      obtain ⟨es, clk, h1, h2⟩ := hp ks vs hc
      exact ⟨es, clk, by rw [heap_new, h1], h2⟩
    · rw [upd_ne _ _ e] at hc
      obtain ⟨es, clk, h1, h2⟩ := hw.fmap c ks vs hc
      exact ⟨es, clk, by rw [heap_old _ _ e, h1], h2⟩
  · intro c hc _
    have e := hne c (by rw [hc]; simp)
    exact ⟨by rw [upd_ne _ _ e, hc], heap_old _ _ e⟩
  · intro c f d' k x y hc _
    have e := hne c (by rw [hc]; simp)
    exact ⟨upd_ne _ _ e, heap_old _ _ e⟩
  · intro id off cs k sz xs h1 h2 _ _
    refine ⟨⟨cs, h1, h2⟩, fun c hc => ?_⟩
    have e := hne c (by rw [hc]; simp)
    simp only [World.cell?]
    rw [heap_old _ _ e]
  · intro c id hc _
    by_cases e : c = w.heap.size
    · subst e; rw [upd_same] at hc; exact absurd hc (hm id)
    · rwa [upd_ne _ _ e] at hc
  · rw [heap_size]; omega

/-- A new memory block. -/
theorem alloc_mem_ok (hw : WOk w0 H m w) (arr : Array Value) (e : TypeId) {cs : List T} (hc : All2 (VM1 H m) cs arr.toList) (hz : ∀ (i : Nat) k sz xs, cs[i]? = some (.own k sz xs) → k = 0) (D N' : Nat) :
    WOk w0 (upd H w.heap.size (.mem m.next)) { next := m.next + 1, blk := upd m.blk m.next (some cs), ty := upd m.ty m.next e } (w.alloc (.cells arr e)) ∧
    Ext D N' H m w (upd H w.heap.size (.mem m.next)) { next := m.next + 1, blk := upd m.blk m.next (some cs), ty := upd m.ty m.next e } (w.alloc (.cells arr e)) := by
  have hne : ∀ c, H c ≠ .free → c ≠ w.heap.size := fun c hc e => hc (hw.free c (by omega))
  have hs : ∀ c, H c ≠ .free → upd H w.heap.size (.mem m.next) c = H c := fun c hc => upd_ne _ _ (hne c hc)
  have hle := HLe.of_same hs
  have hmN : ∀ id cs', m.blk id = some cs' → id ≠ m.next := by
    intro id cs' h e
    obtain ⟨c, _, _, h1, _⟩ := hw.mem id cs' h
    have := hw.memN c id h1
    omega
  have hmono : ∀ {x : T} {v : Value}, VM1 H m x v → VM1 (upd H w.heap.size (.mem m.next)) { next := m.next + 1, blk := upd m.blk m.next (some cs), ty := upd m.ty m.next e } x v :=
    fun h => h.mono hle (fun _ _ _ _ _ hr => hr.same hs) (Nat.le_succ _)
  have hmvU : ∀ (id off : Nat) (cs0 : List T) (id' off' : Nat) (cs' : List T) (k sz : Nat) (xs : List AV) (sz' : Nat) (xs' : List AV), (upd m.blk m.next (some cs)) id = some cs0 → cs0[off]? = some (T.own k sz xs) → (upd m.blk m.next (some cs)) id' = some cs' → cs'[off']? = some (T.own k sz' xs') → k ≠ 0 → id = id' ∧ off = off' := by
    intro id off cs0 id' off' cs' k sz xs sz' xs' h1 h2 h3 h4 hk
    have q : ∀ {id off : Nat} {cs0 : List T} {k sz : Nat} {xs : List AV}, k ≠ 0 → (upd m.blk m.next (some cs)) id = some cs0 → cs0[off]? = some (T.own k sz xs) → m.blk id = some cs0 := by
      intro id off cs0 k sz xs hk h1 h2
      by_cases e : id = m.next
      · subst e; rw [upd_same] at h1; injection h1 with h1; subst h1; exact absurd (hz off k sz xs h2) hk
      · rwa [upd_ne _ _ e] at h1
    exact hw.mvU id off cs0 id' off' cs' k sz xs sz' xs' (q hk h1 h2) h2 (q hk h3 h4) h4 hk
  refine ⟨⟨?_, ?_, ?_, ?_, ?_, ?_, ?_, Nat.succ_pos _, hmvU, fun c id hc arr' e' fr ha => by
    by_cases ee : c = w.heap.size
    · subst ee
      rw [upd_same] at hc; injection hc with hc; subst hc
      rw [heap_new] at ha; injection ha with ha; injection ha with _ h2 _
      rw [← h2]; exact (upd_same _ _ _).symm
    · rw [upd_ne _ _ ee] at hc; rw [heap_old _ _ ee] at ha
      have := hw.memN c id hc
      exact (hw.memT c id hc arr' e' fr ha).trans (upd_ne _ _ (by omega)).symm, fun c f q hc hq arr' e1 fr ha => by
    by_cases ee : c = w.heap.size
    · subst ee; rw [upd_same] at hc; cases hc
    · rw [upd_ne _ _ ee] at hc; rw [heap_old _ _ ee] at ha; exact hw.rowT c f q hc hq arr' e1 fr ha⟩, ⟨hle, ?_, ?_, Nat.le_succ _, ?_, ?_, ?_⟩⟩
  · exact hw.below.alloc hw.below.size _
  · intro c hc
    rw [heap_size] at hc
    rw [upd_ne _ _ (by omega)]
    exact hw.free c (by omega)
  · intro c f r hc
    by_cases e : c = w.heap.size
    · subst e; rw [upd_same] at hc; cases hc
    · rw [upd_ne _ _ e] at hc
      obtain ⟨arr, ty, fr, h1, h2⟩ := hw.froz c f r hc
      exact ⟨arr, ty, fr, by rw [heap_old _ _ e, h1], h2⟩
  · intro id cs' hc'
    by_cases e1 : id = m.next
    · subst e1
      simp only [upd_same, Option.some.injEq] at hc'; subst hc'
      exact ⟨w.heap.size, arr, e, upd_same _ _ _, heap_new _ _, hw.below.size, hc.mono fun _ _ _ h => hmono h⟩
    · simp only [upd_ne _ _ e1] at hc'
      obtain ⟨c, arr, ty, h1, h2, h3, h4⟩ := hw.mem id cs' hc'
      have e := hne c (by rw [h1]; simp)
      exact ⟨c, arr, ty, by rw [upd_ne _ _ e, h1], by rw [heap_old _ _ e, h2], h3, h4.mono fun _ _ _ h => hmono h⟩
  · intro c c' id h1 h2
    by_cases e1 : c = w.heap.size
    · subst e1; rw [upd_same] at h1; injection h1 with h1; subst h1
      by_cases e2 : c' = w.heap.size
      · exact e2.symm
      · rw [upd_ne _ _ e2] at h2; have := hw.memN _ _ h2; omega
    · rw [upd_ne _ _ e1] at h1
      by_cases e2 : c' = w.heap.size
      · subst e2; rw [upd_same] at h2; injection h2 with h2; subst h2; have := hw.memN _ _ h1; omega
      · rw [upd_ne _ _ e2] at h2; exact hw.memU c c' id h1 h2
  · intro c id hc
    by_cases e : c = w.heap.size
    · subst e; rw [upd_same] at hc; injection hc with hc; subst hc; exact Nat.lt_succ_self _
    · rw [upd_ne _ _ e] at hc; exact Nat.lt_succ_of_lt (hw.memN c id hc)
  · intro c ks vs hc
    by_cases e : c = w.heap.size
    · subst e; rw [upd_same] at hc; cases hc
    · rw [upd_ne _ _ e] at hc
      obtain ⟨es, clk, h1, h2⟩ := hw.fmap c ks vs hc
      exact ⟨es, clk, by rw [heap_old _ _ e, h1], h2⟩
  · intro c hc _
    have e := hne c (by rw [hc]; simp)
    exact ⟨by rw [upd_ne _ _ e, hc], heap_old _ _ e⟩
  · intro c f d' k x y hc _
    have e := hne c (by rw [hc]; simp)
    exact ⟨upd_ne _ _ e, heap_old _ _ e⟩
  · intro id off cs' k sz xs h1 h2 hk hlt
    by_cases e1 : id = m.next
    · subst e1
      simp only [upd_same, Option.some.injEq] at h1; subst h1
      exact absurd (hz off k sz xs h2) hk
    · simp only [upd_ne _ _ e1] at h1
      refine ⟨⟨cs', h1, h2⟩, fun c hc => ?_⟩
      have e := hne c (by rw [hc]; simp)
      simp only [World.cell?]
      rw [heap_old _ _ e]
  · intro c id hc hlt
    by_cases e : c = w.heap.size
    · subst e; rw [upd_same] at hc; injection hc with hc; omega
    · rwa [upd_ne _ _ e] at hc
  · rw [heap_size]; omega

/-! ### a frame whose state turns -/
structure StLe (s s' : St) (lam lam' : Nat → Option Nat) : Prop where
  seen : ∀ k, s.seen k = true → s'.seen k = true
  live : ∀ k, s.seen k = true → s'.live k = true → s.live k = true
  lc : ∀ t, s.seen t = true → (s'.lc t).isSome = true → (s.lc t).isSome = true ∧ lam' (3 * t) = lam (3 * t)
  mp : ∀ t, s.seen t = true → (s'.mp t).isSome = true → (s.mp t).isSome = true ∧ lam' (3 * t + 1) = lam (3 * t + 1)
  it : ∀ t, s.seen t = true → (s'.it t).isSome = true → (s.it t).isSome = true ∧ lam' (3 * t + 2) = lam (3 * t + 2)

theorem VQ.st {s s' : St} {lam lam' : Nat → Option Nat} (h : StLe s s' lam lam') {c : T} {u : Value} (hv : VQ d H s c u) : VQ d H s' c u := by
  obtain ⟨h1, h2⟩ := hv
  refine ⟨fun k sz xs e => (h1 k sz xs e).imp id (h.seen k), ?_⟩
  cases c <;> first | exact h2.elim | exact h2 | skip
  case own k sz xs =>
    obtain ⟨q1, q2, q3⟩ := h2
    exact ⟨q1, q2, fun hk hl => q3 hk (h.live k ((h1 k sz xs rfl).resolve_left hk) hl)⟩

theorem VT.st {s s' : St} {lam lam' : Nat → Option Nat} (h : StLe s s' lam lam') {x : T} {v : Value} (hv : VT d H m w lam s x v) : VT d H m w lam' s' x v := by
  cases x
  case undef => exact hv
  case any => trivial
  case v => exact hv
  case reg t off =>
    obtain ⟨h1, h2⟩ := hv
    refine ⟨h.seen t h1, fun hs => ?_⟩
    obtain ⟨h3, h4⟩ := h.lc t h1 hs
    rw [h4]; exact h2 h3
  case ea => exact hv
  case own k sz xs =>
    obtain ⟨h1, q1, q2, q3⟩ := hv
    exact ⟨h1.imp id (h.seen k), q1, q2, fun hk hl => q3 hk (h.live k (h1.resolve_left hk) hl)⟩
  case ld => exact hv
  case agg cs =>
    obtain ⟨vs, e, ha⟩ := hv
    exact ⟨vs, e, ha.mono fun c u _ hq => VQ.st (d := d) (H := H) h hq⟩
  case mref t off len sz ag =>
    obtain ⟨h1, h2⟩ := hv
    refine ⟨h.seen t h1, fun hs => ?_⟩
    obtain ⟨h3, h4⟩ := h.lc t h1 hs
    rw [h4]; exact h2 h3
  case omap t =>
    obtain ⟨h1, h2⟩ := hv
    refine ⟨h.seen t h1, fun hs => ?_⟩
    obtain ⟨h3, h4⟩ := h.mp t h1 hs
    rw [h4]; exact h2 h3
  case sit t =>
    obtain ⟨h1, h2⟩ := hv
    refine ⟨h.seen t h1, fun hs => ?_⟩
    obtain ⟨h3, h4⟩ := h.it t h1 hs
    rw [h4]; exact h2 h3

end Go.Ax
/- Ax: what an operation turns in a frame. -/
set_option linter.unusedVariables false
set_option linter.unusedSimpArgs false
namespace Go.Ax
open Go.RowKit
variable {P : Program} {ti : Nat → TI}
variable {nt N d : Nat} {s : St} {m : AMem} {H : Hp} {lam : Nat → Option Nat} {a : Act} {w w0 : World}

/-- What holds of a frame at every step. -/
def Inv (nt N d : Nat) (w0 : World) (Hi : Hp) (mi : AMem) (wi : World) (s : St) (m : AMem) (a : Act) (w : World) : Prop :=
  ∃ H lam, WOk w0 H m w ∧ Fr nt N d s m H lam a w ∧ Ext d N Hi mi wi H m w ∧ N ≤ w.heap.size

theorem VQ.ext {N' : Nat} {H' : Hp} {m' : AMem} {w' : World} (x : Ext (d + 1) N' H m w H' m' w') {c : T} {u : Value} (h : VQ d H s c u) : VQ d H' s c u := ⟨h.1, h.2.ext x⟩

theorem putT_same (f : Nat → T) (k : Nat) (x : T) : putT f (some k) x k = x := upd_same f k x

theorem VT_tm {s : St} {tm : Nat → T} {x : T} {v : Value} (h : VT d H m w lam s x v) : VT d H m w lam { s with tm := tm } x v := by
  cases x <;> exact h

/-- A frame behind an operation: its state turns, a temporary is written. -/
theorem Fr.step (hf : Fr nt N d s m H lam a w) {s' : St} {lam' : Nat → Option Nat} (h : StLe s s' lam lam') {dst : Option Tmp} {x : T} {v : Value} (htm : s'.tm = putT s.tm dst x) (hx : VT d H m w lam' s' x v) (hd : dstOk nt dst = true)
    (hlc : ∀ t cs, s'.lc t = some cs → s'.seen t = true ∧ ∃ c arr e, lam' (3 * t) = some c ∧ H c = .priv ∧ N ≤ c ∧ w.heap[c]? = some (.cells arr e (0, 0)) ∧ All2 (VQ d H s') cs arr.toList)
    (hmp : ∀ t es, s'.mp t = some es → s'.seen t = true ∧ ∃ c ents clk, lam' (3 * t + 1) = some c ∧ H c = .priv ∧ N ≤ c ∧ w.heap[c]? = some (.map ents clk) ∧ All2 (fun p (q : MapEntry) => V H p.1 q.key ∧ V H p.2 q.val) es ents.toList)
    (hit : ∀ t l p, s'.it t = some (l, p) → s'.seen t = true ∧ ∃ c, lam' (3 * t + 2) = some c ∧ H c = .priv ∧ N ≤ c ∧ w.heap[c]? = some (.stringIter ⟨l.toArray⟩ p))
    (hinj : ∀ i j c, lam' i = some c → lam' j = some c → i = j) (hlamN : ∀ i c, lam' i = some c → c < w.heap.size) (hdf : s'.df = s.df) (hlive : ∀ k, s'.live k = true → s'.seen k = true) :
    Fr nt N d s' m H lam' (a.put dst v) w := by
  refine ⟨?_, ?_, hlc, hmp, hit, hinj, hlamN, ?_, hlive⟩
  · cases dst <;> simp [Act.put, hf.size]
  · intro t
    rw [htm]
    cases dst with
    | none => exact (hf.tm t).st h
    | some k =>
      have hk : k < a.tmps.size := by rw [hf.size]; simpa [dstOk] using hd
      by_cases e : t = k
      · subst e
        rw [putT_same]
        simpa [Act.put, Array.getD_eq_getD_getElem?, hk] using hx
      · show VT d H m w lam' s' (upd s.tm k x t) _
        rw [upd_ne _ _ e]
        simp only [Act.put, Array.getD_eq_getD_getElem?, Array.getElem?_setIfInBounds]
        rw [if_neg (fun e' => e e'.symm)]
        simpa [Array.getD_eq_getD_getElem?] using (hf.tm t).st h
  · rw [hdf]
    cases dst <;> exact hf.df

theorem StLe.refl (s : St) (lam : Nat → Option Nat) : StLe s s lam lam := ⟨fun _ h => h, fun _ _ h => h, fun _ _ h => ⟨h, rfl⟩, fun _ _ h => ⟨h, rfl⟩, fun _ _ h => ⟨h, rfl⟩⟩

theorem Fr.lcQ (hf : Fr nt N d s m H lam a w) {t : Nat} {cs : List T} (h : s.lc t = some cs) : s.seen t = true ∧ ∃ c arr e, lam (3 * t) = some c ∧ H c = .priv ∧ N ≤ c ∧ w.heap[c]? = some (.cells arr e (0, 0)) ∧ All2 (VQ d H s) cs arr.toList := hf.lc t cs h

variable {Hi : Hp} {mi : AMem} {wi : World}

/-- An operation that only answers. -/
theorem quiet_inv (hw : WOk w0 H m w) (hf : Fr nt N d s m H lam a w) (x : Ext d N Hi mi wi H m w) (hN : N ≤ w.heap.size) {e : Eff} (hq : Quiet e) {dst : Option Tmp} (hd : dstOk nt dst = true) {v : Value} (hv : VT d H m w lam s e.val v) :
    Inv nt N d w0 Hi mi wi (s.put dst e) (e.mw.getD m) (a.put dst v) w := by
  rw [hq.put, hq.mw]
  refine ⟨H, lam, hw, hf.put hv hd, x, hN⟩

/-- An answer that lies in a new closed block. -/
theorem froz_inv (hw : WOk w0 H m w) (hf : Fr nt N d s m H lam a w) (x : Ext d N Hi mi wi H m w) (hN : N ≤ w.heap.size) {e : Eff} (hq : Quiet e) {dst : Option Tmp} (hd : dstOk nt dst = true) (arr : Array Value) (ty : TypeId) (fr : Nat × Nat) (r : Option Room) (f : Nat → Option Value) {v : Value}
    (hf1 : ∀ i v, f i = some v → arr[i]? = some v) (hf2 : ∀ q, r = some q → q.to_ ≤ arr.size ∧ (∀ i v, f i = some v → i < q.from_) ∧ (∀ i, q.from_ ≤ i → i < arr.size → ¬ (fr.1 ≤ i ∧ i < fr.2))) (ht : ∀ q : Room, r = some q → q.l.el ≠ 0 → ty = q.l.el)
    (hv : VT d (upd H w.heap.size (.froz f r)) m (w.alloc (.cells arr ty fr)) lam s e.val v) :
    Inv nt N d w0 Hi mi wi (s.put dst e) (e.mw.getD m) (a.put dst v) (w.alloc (.cells arr ty fr)) := by
  obtain ⟨h1, h2, h3⟩ := alloc_ok (D := d + 1) (N' := w.heap.size) hw (.cells arr ty fr) (.froz f r) (by simp) (fun f' r' e => by injection e with e1 e2; subst e1 e2; exact ⟨arr, ty, fr, rfl, hf1, hf2⟩) (by simp) (fun f' q e hq arr' e' fr' ho => by injection e with _ e2; injection ho with _ h2 _; rw [← h2]; exact ht q e2 hq)
  rw [hq.put, hq.mw]
  refine ⟨_, lam, h1, (hf.ext h2 (Nat.le_refl _)).put hv hd, x.trans (h2.weaken (Nat.le_succ d) hN), by rw [heap_size]; omega⟩

theorem lam_new (hf : Fr nt N d s m H lam a w) (k : Nat) : (∀ i j c, upd lam k (some w.heap.size) i = some c → upd lam k (some w.heap.size) j = some c → i = j) ∧ (∀ i c (w' : World), w.heap.size < w'.heap.size → upd lam k (some w.heap.size) i = some c → c < w'.heap.size) := by
  constructor
  · intro i j c h1 h2
    by_cases e1 : i = k
    · subst e1; rw [upd_same] at h1; injection h1 with h1; subst h1
      by_cases e2 : j = i
      · exact e2.symm
      · rw [upd_ne _ _ e2] at h2; have := hf.lamN _ _ h2; omega
    · rw [upd_ne _ _ e1] at h1
      by_cases e2 : j = k
      · subst e2; rw [upd_same] at h2; injection h2 with h2; subst h2; have := hf.lamN _ _ h1; omega
      · rw [upd_ne _ _ e2] at h2; exact hf.inj _ _ _ h1 h2
  · intro i c w' hlt h
    by_cases e1 : i = k
    · subst e1; rw [upd_same] at h; injection h with h; omega
    · rw [upd_ne _ _ e1] at h; have := hf.lamN _ _ h; omega

/-- A new variable of the frame. -/
theorem newLoc_inv (hw : WOk w0 H m w) (hf : Fr nt N d s m H lam a w) (x : Ext d N Hi mi wi H m w) (hN : N ≤ w.heap.size) {k : Nat} (hd : dstOk nt (some k) = true) (hs : s.seen k = false) {cs : List T} {arr : Array Value} {ty : TypeId} (hcs : All2 (VQ d H s) cs arr.toList)
    {y : T} {v : Value} {e : Eff} (he : e = { val := y, lw := [(k, some cs)], lr := [k], use := [k] })
    (hy : ∀ H' m' w' s' lam', s'.seen k = true → lam' (3 * k) = some w.heap.size → VT d H' m' w' lam' s' y v) :
    Inv nt N d w0 Hi mi wi (s.put (some k) e) (e.mw.getD m) (a.put (some k) v) (w.alloc (.cells arr ty)) := by
  subst he
  obtain ⟨h1, h2, h3⟩ := alloc_ok (D := d + 1) (N' := w.heap.size) hw (.cells arr ty) .priv (by simp) (by simp) (by simp) (by simp)
  have hf' := hf.ext h2 (Nat.le_refl _)
  obtain ⟨hl1, hl2⟩ := lam_new hf (3 * k)
  refine ⟨_, upd lam (3 * k) (some w.heap.size), h1, ?_, x.trans (h2.weaken (Nat.le_succ d) hN), by rw [heap_size]; omega⟩
  have hle : StLe s (s.put (some k) { val := y, lw := [(k, some cs)], lr := [k], use := [k] }) lam (upd lam (3 * k) (some w.heap.size)) := by
    have hne : ∀ t, s.seen t = true → t ≠ k := fun t ht e => by subst e; rw [hs] at ht; cases ht
    refine ⟨fun j hj => by simp [St.put, hj], fun j _ hj => by simpa [St.put] using hj, fun t ht h => ?_, fun t ht h => ?_, fun t ht h => ?_⟩
    · simp only [St.put, updL, beq_ne (hne t ht), cond_false] at h
      exact ⟨h, upd_ne _ _ (by have := hne t ht; omega)⟩
    · simp only [St.put, updL] at h
      exact ⟨h, upd_ne _ _ (by omega)⟩
    · simp only [St.put, updL] at h
      exact ⟨h, upd_ne _ _ (by omega)⟩
  have hsk : (s.put (some k) { val := y, lw := [(k, some cs)], lr := [k], use := [k] }).seen k = true := by simp [St.put]
  refine Fr.step hf' hle rfl (hy _ _ _ _ _ hsk (upd_same _ _ _)) hd ?_ ?_ ?_ hl1 (fun i c h => hl2 i c _ (by rw [heap_size]; omega) h) (by simp [St.put]) (fun j hj => ?_)
  · intro t cs' h
    simp only [St.put, updL] at h
    by_cases e : t = k
    · subst e
      simp only [Nat.beq_refl, cond_true, Option.some.injEq] at h; subst h
      exact ⟨hsk, w.heap.size, arr, ty, upd_same _ _ _, upd_same _ _ _, hN, heap_new _ _, hcs.mono fun c u _ hq => (hq.ext h2).st hle⟩
    · simp only [beq_ne e, cond_false] at h
      obtain ⟨q0, c, arr', ty', q1, q2, q3, q4, q5⟩ := hf'.lcQ h
      exact ⟨hle.seen t q0, c, arr', ty', by rw [upd_ne _ _ (by omega), q1], q2, q3, q4, q5.mono fun c u _ hq => hq.st hle⟩
  · intro t es h
    simp only [St.put, updL] at h
    obtain ⟨q0, c, ents, clk, q1, q⟩ := hf'.mp t es h
    exact ⟨hle.seen t q0, c, ents, clk, by rw [upd_ne _ _ (by omega), q1], q⟩
  · intro t l p h
    simp only [St.put, updL] at h
    obtain ⟨q0, c, q1, q⟩ := hf'.it t l p h
    exact ⟨hle.seen t q0, c, by rw [upd_ne _ _ (by omega), q1], q⟩
  · have : s.live j = true := by simpa [St.put] using hj
    exact hle.seen j (hf.live j this)

end Go.Ax
/- Ax: blocks that are written. -/
set_option linter.unusedVariables false
set_option linter.unusedSimpArgs false
namespace Go.Ax
open Go.RowKit
variable {P : Program} {ti : Nat → TI}
variable {nt N d : Nat} {s : St} {m : AMem} {H : Hp} {lam : Nat → Option Nat} {a : Act} {w w0 : World}

def setBlk (w : World) (c : Nat) (o : Obj) : World := { w with heap := w.heap.setIfInBounds c o }

theorem setBlk_same {w : World} {c : Nat} (o : Obj) (h : c < w.heap.size) : (setBlk w c o).heap[c]? = some o := by
  simp [setBlk, h]
theorem setBlk_ne {w : World} {c j : Nat} (o : Obj) (h : j ≠ c) : (setBlk w c o).heap[j]? = w.heap[j]? := by
  simp only [setBlk, Array.getElem?_setIfInBounds]; rw [if_neg (fun e => h e.symm)]
theorem setBlk_size {w : World} {c : Nat} (o : Obj) : (setBlk w c o).heap.size = w.heap.size := by simp [setBlk]
theorem setBlk_twice {w : World} {c : Nat} (o o' : Obj) : setBlk (setBlk w c o) c o' = setBlk w c o' := by simp [setBlk]

theorem lt_of_heap {w : World} {c : Nat} {o : Obj} (h : w.heap[c]? = some o) : c < w.heap.size := (Array.getElem?_eq_some_iff.1 h).1

theorem setCell_blk {w : World} {c : Nat} {arr : Array Value} {e : TypeId} {fr : Nat × Nat} (h : w.heap[c]? = some (.cells arr e fr)) (i : Nat) (v : Value) : w.setCell ⟨c, i, none⟩ v = setBlk w c (.cells (arr.setIfInBounds i v) e fr) := by
  unfold World.setCell setBlk
  congr 1
  apply Array.ext_getElem?
  intro j
  obtain ⟨hc, hx⟩ := Array.getElem?_eq_some_iff.1 h
  rw [Array.getElem?_modify, Array.getElem?_setIfInBounds]
  by_cases e : c = j
  · subst e; simp [hc, hx]
  · simp [e]

theorem run_store_at {w : World} {c i : Nat} {arr : Array Value} {e : TypeId} {fr : Nat × Nat} (h : w.heap[c]? = some (.cells arr e fr)) (hi : i < arr.size) (hf : ¬ (fr.1 ≤ i ∧ i < fr.2)) {v : Value} (hv : v.oneCell' = true) :
    (store ⟨c, i, none⟩ v).run P w = .ok () (setBlk w c (.cells (arr.setIfInBounds i v) e fr)) := by
  have hc : w.cell? ⟨c, i, none⟩ = some arr[i] := by rw [cell_block h]; simp [hi]
  have hz : w.frozen? ⟨c, i, none⟩ = false := by
    simp only [World.frozen?, h]
    obtain ⟨lo, hi'⟩ := fr
    simpa using hf
  rw [← setCell_blk h]
  cases v <;> first | (simp [Value.oneCell'] at hv; done) | (simp [store, Sem.run, hc, hz])

/-- Cells set one behind the other. -/
def setCells (arr : Array Value) (o : Nat) : List Value → Array Value
  | [] => arr
  | v :: vs => setCells (arr.setIfInBounds o v) (o + 1) vs

theorem setCells_size : ∀ (vs : List Value) (arr : Array Value) (o : Nat), (setCells arr o vs).size = arr.size
  | [], _, _ => rfl
  | v :: vs, arr, o => by simp [setCells, setCells_size vs]

theorem setCells_toList : ∀ (vs : List Value) (arr : Array Value) (o : Nat), (setCells arr o vs).toList = setAt arr.toList o vs
  | [], _, _ => rfl
  | v :: vs, arr, o => by simp [setCells, setAt, setCells_toList vs]

theorem setAt_all {α β : Type} {R : α → β → Prop} : ∀ {ys : List α} {vs : List β} {A : List α} {B : List β} (off : Nat), All2 R A B → All2 R ys vs → All2 R (setAt A off ys) (setAt B off vs)
  | [], [], A, B, off, h, _ => h
  | [], _ :: _, _, _, _, _, h => h.elim
  | _ :: _, [], _, _, _, _, h => h.elim
  | y :: ys, v :: vs, A, B, off, h, ⟨h1, h2⟩ => setAt_all (off + 1) (h.set off y v h1) h2

theorem setAt_old {α : Type} : ∀ (vs : List α) (l : List α) (o j : Nat), (j < o ∨ o + vs.length ≤ j) → (setAt l o vs)[j]? = l[j]?
  | [], _, _, _, _ => rfl
  | v :: vs, l, o, j, h => by
    simp only [List.length_cons] at h
    rw [setAt, setAt_old vs _ _ _ (by omega), List.getElem?_set]
    rw [if_neg (by omega)]

theorem setAt_new {α : Type} : ∀ (vs : List α) (l : List α) (o j : Nat), o + vs.length ≤ l.length → j < vs.length → (setAt l o vs)[o + j]? = vs[j]?
  | [], _, _, _, _, h => by simp at h
  | v :: vs, l, o, 0, hl, _ => by
    simp only [List.length_cons] at hl
    rw [setAt, setAt_old vs _ _ _ (by omega)]
    have : o < l.length := by omega
    simp [this]
  | v :: vs, l, o, j + 1, hl, h => by
    simp only [List.length_cons] at hl h
    have := setAt_new vs (l.set o v) (o + 1) j (by simp; omega) (by omega)
    rw [setAt, show o + (j + 1) = o + 1 + j from by omega, this]
    simp

theorem run_storeCells {c : Nat} {e : TypeId} {fr : Nat × Nat} {o : Nat} : ∀ (vs : List Value) (i : Nat) {w : World} {arr : Array Value}, w.heap[c]? = some (.cells arr e fr) → o + i + vs.length ≤ arr.size → (∀ j, o + i ≤ j → j < o + i + vs.length → ¬ (fr.1 ≤ j ∧ j < fr.2)) → (∀ v ∈ vs, v.oneCell' = true) →
    (storeCells ⟨c, o, none⟩ vs i).run P w = .ok () (setBlk w c (.cells (setCells arr (o + i) vs) e fr))
  | [], i, w, arr, h, _, _, _ => by
    have : setBlk w c (.cells arr e fr) = w := by
      unfold setBlk
      obtain ⟨hc, hx⟩ := Array.getElem?_eq_some_iff.1 h
      have : w.heap.setIfInBounds c (.cells arr e fr) = w.heap := by
        apply Array.ext_getElem?
        intro j
        rw [Array.getElem?_setIfInBounds]
        by_cases e : c = j
        · subst e; simp [hc, hx]
        · simp [e]
      rw [this]
    simp [storeCells, setCells, this]
  | v :: vs, i, w, arr, h, hl, hf, hv => by
    simp only [List.length_cons] at hl hf
    have h1 := run_store_at (P := P) h (i := o + i) (by omega) (hf _ (by omega) (by omega)) (hv v List.mem_cons_self)
    have hlt := lt_of_heap h
    have ih := run_storeCells (e := e) (fr := fr) (o := o) vs (i + 1) (w := setBlk w c (.cells (arr.setIfInBounds (o + i) v) e fr)) (arr := arr.setIfInBounds (o + i) v) (setBlk_same _ hlt) (by simp; omega) (fun j h1 h2 => hf j (by omega) (by omega)) (fun u hu => hv u (List.mem_cons_of_mem _ hu))
    simp only [storeCells, Sem.run_bind, add_plain, h1, Result.andThen_ok, ih, setBlk_twice]
    simp [setCells, Nat.add_assoc]

theorem run_storeVar (hti : TysOk P ti) {ty c o : Nat} (hg : (ti ty).ok = true) {arr : Array Value} {e : TypeId} {fr : Nat × Nat} {v : Value} (h : w.heap[c]? = some (.cells arr e fr)) (hs : v.cells.size = (ti ty).sz) (hl : o + v.cells.size ≤ arr.size) (hf : ∀ j, o ≤ j → j < o + v.cells.size → ¬ (fr.1 ≤ j ∧ j < fr.2)) (hv : ∀ u ∈ v.cells.toList, u.oneCell' = true) :
    (Instr.storeAt ty (.pointer (some ⟨c, o, none⟩)) v).run P w = .ok () (setBlk w c (.cells (setCells arr o v.cells.toList) e fr)) := by
  have := run_storeCells (P := P) v.cells.toList 0 (o := o) h (by simpa using hl) (by simpa using hf) hv
  simp only [Instr.storeAt, Instr.sureAddr, storeVar, Sem.run_bind, Sem.run_pure, Result.andThen_ok, run_sizeOf (hti.ok ty hg)]
  rw [if_neg (by simp [hs])]
  simpa using this

/-! ### worlds in which one block has turned -/
theorem below_setBlk {B : Nat} {w0 w : World} (h : Below B w0 w) {c : Nat} (hc : B ≤ c) (o : Obj) : Below B w0 (setBlk w c o) :=
  h.trans ⟨rfl, rfl, rfl, by rw [setBlk_size]; exact Nat.le_refl _, fun k hk => setBlk_ne _ (by omega)⟩

/-- An own block has turned (or has been closed): the world bears the rest. -/
theorem priv_ok (hw : WOk w0 H m w) {c : Nat} (hc : H c = .priv) (hB : w0.heap.size ≤ c) (o : Obj) (hb : HB) (hbm : ∀ id, hb ≠ .mem id)
    (hbf : ∀ f r, hb = .froz f r → ∃ arr e fr, o = .cells arr e fr ∧ (∀ i v, f i = some v → arr[i]? = some v) ∧ ∀ q, r = some q → q.to_ ≤ arr.size ∧ (∀ i v, f i = some v → i < q.from_) ∧ (∀ i, q.from_ ≤ i → i < arr.size → ¬ (fr.1 ≤ i ∧ i < fr.2)))
    (hbp : ∀ ks vs, hb = .fmap ks vs → ∃ es clk, o = .map es clk ∧ es.toList.map (·.key) = ks ∧ es.toList.map (·.val) = vs) (ht : ∀ f (q : Room), hb ≠ .froz f (some q)) (D N' : Nat) (hN : N' ≤ c) :
    WOk w0 (upd H c hb) m (setBlk w c o) ∧ Ext D N' H m w (upd H c hb) m (setBlk w c o) := by
  have hlt : c < w.heap.size := hw.lt (by rw [hc]; simp)
  have hs : ∀ j, j ≠ c → upd H c hb j = H j := fun j h => upd_ne _ _ h
  have hne : ∀ {j : Nat} {x : HB}, H j = x → x ≠ .priv → j ≠ c := by rintro j x h hx rfl; rw [hc] at h; exact hx h.symm
  have hle : HLe H (upd H c hb) := ⟨fun j f r h => ⟨f, r, by rw [hs j (hne h (by simp)), h], fun _ _ h => h⟩, fun j id h => by rw [hs j (hne h (by simp)), h], fun j k v h => by rw [hs j (hne h (by simp)), h]⟩
  have hroom : ∀ {l : RL} {sz n : Nat} {v : Value}, Roomy H l sz n v → Roomy (upd H c hb) l sz n v := by
    rintro l sz n v ⟨b, cap, e, h⟩
    refine ⟨b, cap, e, h.imp id ?_⟩
    rintro ⟨j, o, f, ea, h0, hj⟩
    exact ⟨j, o, f, ea, h0, by rw [hs j (hne hj (by simp)), hj]⟩
  refine ⟨⟨below_setBlk hw.below hB o, ?_, ?_, ?_, ?_, ?_, ?_, hw.next, hw.mvU, fun j id hj => by
    by_cases e : j = c
    · subst e; rw [upd_same] at hj; exact absurd hj (hbm id)
    · rw [hs j e] at hj; rw [setBlk_ne _ e]; exact hw.memT j id hj, fun j f q hj hq arr e1 fr ha => by
    by_cases e : j = c
    · subst e; rw [upd_same] at hj; exact absurd hj (ht f q)
    · rw [hs j e] at hj; rw [setBlk_ne _ e] at ha; exact hw.rowT j f q hj hq arr e1 fr ha⟩, ⟨hle, ?_, ?_, Nat.le_refl _, ?_, ?_, by rw [setBlk_size]; exact Nat.le_refl _⟩⟩
  · intro j hj
    rw [setBlk_size] at hj
    rw [hs j (by omega)]; exact hw.free j hj
  · intro j f r hj
    by_cases e : j = c
    · subst e
      rw [upd_same] at hj
      obtain ⟨arr, ty, fr, h1, h2, h3⟩ := hbf f r hj
      exact ⟨arr, ty, fr, by rw [setBlk_same _ hlt, h1], h2, fun q hq => ⟨hB, h3 q hq⟩⟩
    · rw [hs j e] at hj
      obtain ⟨arr, ty, fr, h1, h2⟩ := hw.froz j f r hj
      exact ⟨arr, ty, fr, by rw [setBlk_ne _ e, h1], h2⟩
  · intro id cs h
    obtain ⟨j, arr, ty, h1, h2, h3, h4⟩ := hw.mem id cs h
    have e := hne h1 (by simp)
    exact ⟨j, arr, ty, by rw [hs j e, h1], by rw [setBlk_ne _ e, h2], h3, h4.mono fun _ _ _ h => h.mono hle (fun _ _ _ _ _ hr => hroom hr) (Nat.le_refl _)⟩
  · intro j j' id h1 h2
    have q : ∀ j, upd H c hb j = .mem id → H j = .mem id := by
      intro j hj
      by_cases e : j = c
      · subst e; rw [upd_same] at hj; exact absurd hj (hbm id)
      · rwa [hs j e] at hj
    exact hw.memU j j' id (q j h1) (q j' h2)
  · intro j id hj
    by_cases e : j = c
    · subst e; rw [upd_same] at hj; exact absurd hj (hbm id)
    · rw [hs j e] at hj; exact hw.memN j id hj
  · intro j ks vs hj
    by_cases e : j = c
    · subst e; rw [upd_same] at hj
      obtain ⟨es, clk, h1, h2⟩ := hbp ks vs hj
      exact ⟨es, clk, by rw [setBlk_same _ hlt, h1], h2⟩
    · rw [hs j e] at hj
      obtain ⟨es, clk, h1, h2⟩ := hw.fmap j ks vs hj
      exact ⟨es, clk, by rw [setBlk_ne _ e, h1], h2⟩
  · intro j hj hlt'
    have e : j ≠ c := by omega
    exact ⟨by rw [hs j e, hj], setBlk_ne _ e⟩
  · intro j f d' k x y hj _
    have e := hne hj (by simp)
    exact ⟨hs j e, setBlk_ne _ e⟩
  · intro id off cs k sz xs h1 h2 _ _
    refine ⟨⟨cs, h1, h2⟩, fun j hj => ?_⟩
    have e := hne hj (by simp)
    simp only [World.cell?]
    rw [setBlk_ne _ e]
  · intro j id hj _
    by_cases e : j = c
    · subst e; rw [upd_same] at hj; exact absurd hj (hbm id)
    · rwa [hs j e] at hj

end Go.Ax
/- Ax: what leaves a frame is closed. -/
set_option linter.unusedVariables false
set_option linter.unusedSimpArgs false
namespace Go.Ax
open Go.RowKit
variable {P : Program} {ti : Nat → TI}
variable {nt N d : Nat} {s : St} {m : AMem} {H : Hp} {lam : Nat → Option Nat} {a : Act} {w w0 : World}

theorem setBlk_id {w : World} {c : Nat} {o : Obj} (h : w.heap[c]? = some o) : setBlk w c o = w := by
  unfold setBlk
  obtain ⟨hc, hx⟩ := Array.getElem?_eq_some_iff.1 h
  have : w.heap.setIfInBounds c o = w.heap := by
    apply Array.ext_getElem?
    intro j
    rw [Array.getElem?_setIfInBounds]
    by_cases e : c = j
    · subst e; simp [hc, hx]
    · simp [e]
  rw [this]

/-- The heap's plan when an own block is closed. -/
theorem close_hle {c : Nat} {hb : HB} (hc : H c = .priv) : HLe H (upd H c hb) := by
  have hs : ∀ j, j ≠ c → upd H c hb j = H j := fun j h => upd_ne _ _ h
  have hne : ∀ {j : Nat} {x : HB}, H j = x → x ≠ .priv → j ≠ c := by rintro j x h hx rfl; rw [hc] at h; exact hx h.symm
  exact ⟨fun j f r h => ⟨f, r, by rw [hs j (hne h (by simp)), h], fun _ _ h => h⟩, fun j id h => by rw [hs j (hne h (by simp)), h], fun j k v h => by rw [hs j (hne h (by simp)), h]⟩

theorem close_room {c : Nat} {hb : HB} (hc : H c = .priv) {l : RL} {sz n : Nat} {v : Value} : Roomy H l sz n v → Roomy (upd H c hb) l sz n v := by
  have hs : ∀ j, j ≠ c → upd H c hb j = H j := fun j h => upd_ne _ _ h
  have hne : ∀ {j : Nat} {x : HB}, H j = x → x ≠ .priv → j ≠ c := by rintro j x h hx rfl; rw [hc] at h; exact hx h.symm
  rintro ⟨b, cap, e, h⟩
  refine ⟨b, cap, e, h.imp id ?_⟩
  rintro ⟨j, o, f, ea, h0, hj⟩
  exact ⟨j, o, f, ea, h0, by rw [hs j (hne hj (by simp)), hj]⟩

theorem VT1.close {c : Nat} {hb : HB} (hc : H c = .priv) {live : Nat → Bool} {x : T} {v : Value} (h : VT1 d H live x v) : VT1 d (upd H c hb) live x v := by
  cases x <;> first | exact h.elim | skip
  case v => exact ⟨h.1, V_mono (close_hle hc) _ _ h.2⟩
  case own k sz xs => exact ⟨V_mono (close_hle hc) _ _ h.1, h.2.1, fun hk hl => close_room hc (h.2.2 hk hl)⟩

/-- What a temporary holds when an own block is closed, or written. -/
theorem VT.close {c : Nat} {hb : HB} (hc : H c = .priv) {w' : World} (hww : ∀ j, j ≠ c → w'.heap[j]? = w.heap[j]?) {x : T} {v : Value} (h : VT d H m w lam s x v) : VT d (upd H c hb) m w' lam s x v := by
  have hs : ∀ j, j ≠ c → upd H c hb j = H j := fun j h => upd_ne _ _ h
  have hne : ∀ {j : Nat} {x : HB}, H j = x → x ≠ .priv → j ≠ c := by rintro j x h hx rfl; rw [hc] at h; exact hx h.symm
  have hle := close_hle (hb := hb) hc
  cases x
  case undef => exact h
  case any => trivial
  case v => exact V_mono hle _ _ h
  case reg => exact h
  case ea =>
    obtain ⟨j, o, f, r, e, hj, hE⟩ := h
    exact ⟨j, o, f, r, e, by rw [hs j (hne hj (by simp)), hj], VE_mono hle (fun _ _ h => h) _ _ _ hE⟩
  case own k sz xs => exact ⟨h.1, V_mono hle _ _ h.2.1, h.2.2.1, fun hk hl => close_room hc (h.2.2.2 hk hl)⟩
  case ld =>
    obtain ⟨h1, h2, h3, h4⟩ := h
    refine ⟨V_mono hle _ _ h1, h2, h3, fun cs sz' xs' q1 q2 => ?_⟩
    obtain ⟨e1, e2, j, h5, h6⟩ := h4 cs sz' xs' q1 q2
    have e := hne h5 (by simp)
    exact ⟨e1, e2, j, by rw [hs j e, h5], by simp only [World.cell?] at h6 ⊢; rw [hww j e]; exact h6⟩
  case agg =>
    obtain ⟨vs, e, ha⟩ := h
    exact ⟨vs, e, ha.mono fun _ _ _ h => ⟨h.1, h.2.close hc⟩⟩
  case mref => exact h
  case omap => exact h
  case sit => exact h

/-- A frame of which one block is closed (its state has no claim on it any more), or written anew. -/
theorem Fr.close (hf : Fr nt N d s m H lam a w) {q c : Nat} {hb : HB} (hq : lam q = some c) (hc : H c = .priv) {w' : World} (hww : ∀ j, j ≠ c → w'.heap[j]? = w.heap[j]?) (hsz : w'.heap.size = w.heap.size) {s' : St} (htm : s'.tm = s.tm) (hseen : s'.seen = s.seen) (hlive : s'.live = s.live) (hdf : s'.df = s.df)
    (hlc : ∀ t cs, s'.lc t = some cs → s.lc t = some cs ∧ 3 * t ≠ q) (hmp : ∀ t cs, s'.mp t = some cs → s.mp t = some cs ∧ 3 * t + 1 ≠ q) (hit : ∀ t cs, s'.it t = some cs → s.it t = some cs ∧ 3 * t + 2 ≠ q) :
    StLe s s' lam lam ∧ Fr nt N d s' m (upd H c hb) lam a w' := by
  have hs : ∀ j, j ≠ c → upd H c hb j = H j := fun j h => upd_ne _ _ h
  have hle := close_hle (hb := hb) hc
  have hst : StLe s s' lam lam := ⟨fun k h => by rw [hseen]; exact h, fun k _ h => by rw [hlive] at h; exact h, fun t _ h => by
      obtain ⟨cs, h⟩ := Option.isSome_iff_exists.1 h
      exact ⟨by rw [(hlc t cs h).1]; rfl, rfl⟩, fun t _ h => by
      obtain ⟨cs, h⟩ := Option.isSome_iff_exists.1 h
      exact ⟨by rw [(hmp t cs h).1]; rfl, rfl⟩, fun t _ h => by
      obtain ⟨cs, h⟩ := Option.isSome_iff_exists.1 h
      exact ⟨by rw [(hit t cs h).1]; rfl, rfl⟩⟩
  have hVQ : ∀ {x : T} {v : Value}, VQ d H s x v → VQ d (upd H c hb) s' x v := fun h => VQ.st (d := d) (H := upd H c hb) hst ⟨h.1, h.2.close hc⟩
  refine ⟨hst, hf.size, fun t => ?_, fun t cs h => ?_, fun t es h => ?_, fun t l p h => ?_, hf.inj, fun i j h => by rw [hsz]; exact hf.lamN i j h, ?_, fun k h => by rw [hlive] at h; rw [hseen]; exact hf.live k h⟩
  · rw [htm]
    exact VT.st (d := d) (H := upd H c hb) hst ((hf.tm t).close hc hww)
  · obtain ⟨h, hn⟩ := hlc t cs h
    obtain ⟨q0, j, arr, ty, q1, q2, q3, q4, q5⟩ := hf.lcQ h
    have e : j ≠ c := fun e => hn (hf.inj _ _ _ q1 (by rw [e]; exact hq))
    exact ⟨by rw [hseen]; exact q0, j, arr, ty, q1, by rw [hs j e, q2], q3, by rw [hww j e, q4], q5.mono fun _ _ _ h => hVQ h⟩
  · obtain ⟨h, hn⟩ := hmp t es h
    obtain ⟨q0, j, ents, clk, q1, q2, q3, q4, q5⟩ := hf.mp t es h
    have e : j ≠ c := fun e => hn (hf.inj _ _ _ q1 (by rw [e]; exact hq))
    exact ⟨by rw [hseen]; exact q0, j, ents, clk, q1, by rw [hs j e, q2], q3, by rw [hww j e, q4], q5.mono fun _ _ _ h => ⟨V_mono hle _ _ h.1, V_mono hle _ _ h.2⟩⟩
  · obtain ⟨h, hn⟩ := hit t (l, p) h
    obtain ⟨q0, j, q1, q2, q3, q4⟩ := hf.it t l p h
    have e : j ≠ c := fun e => hn (hf.inj _ _ _ q1 (by rw [e]; exact hq))
    exact ⟨by rw [hseen]; exact q0, j, q1, by rw [hs j e, q2], q3, by rw [hww j e, q4]⟩
  · rw [hdf]
    exact hf.df.mono fun _ _ _ ⟨f, cap, e, vs, e2, hv⟩ => ⟨f, cap, e, vs, e2, VL_mono hle cap vs hv⟩

def closeS (s : St) (ls ps : List Nat) : St := { s with lc := updL s.lc (closeL ls), mp := updL s.mp (closeP ps) }

theorem closeL_get {α : Type} (f : Nat → Option α) : ∀ (ls : List Nat) (j : Nat), updL f (ls.map fun t => (t, none)) j = if j ∈ ls then none else f j
  | [], j => rfl
  | t :: ls, j => by
    simp only [List.map_cons, updL]
    by_cases e : j = t
    · subst e; simp
    · rw [beq_ne e, cond_false, closeL_get f ls j]
      simp [e]

theorem ents_VL {H H' : Hp} (h : HLe H H') : ∀ {es : List (AV × AV)} {l : List MapEntry}, All2 (fun p (q : MapEntry) => V H p.1 q.key ∧ V H p.2 q.val) es l → VL H' (es.map Prod.fst) (l.map (·.key)) ∧ VL H' (es.map Prod.snd) (l.map (·.val))
  | [], [], _ => ⟨rfl, rfl⟩
  | p :: es, q :: l, ⟨⟨h1, h2⟩, h3⟩ => ⟨⟨_, _, rfl, V_mono h _ _ h1, (ents_VL h h3).1⟩, ⟨_, _, rfl, V_mono h _ _ h2, (ents_VL h h3).2⟩⟩
  | [], _ :: _, hf => hf.elim
  | _ :: _, [], hf => hf.elim

theorem closeS_nil (s : St) : closeS s [] [] = s := rfl

/-- One temporary leaves the frame. -/
theorem esc_ok (hw : WOk w0 H m w) (hf : Fr nt N d s m H lam a w) (hB : w0.heap.size ≤ N) {x : T} {e : Esc} {v : Value} (h : esc s x = some e) (hv : VT d H m w lam s x v) (D : Nat) :
    ∃ H', WOk w0 H' m w ∧ Ext D N H m w H' m w ∧ Fr nt N d (closeS s e.ls e.ps) m H' lam a w ∧ V H' e.x v ∧ ∀ y u, VT d H m w lam s y u → VT d H' m w lam (closeS s e.ls e.ps) y u := by
  unfold esc at h
  split at h
  · rename_i t off len sz ag
    obtain ⟨hsz, h⟩ := bnd_some h
    obtain ⟨cs, hc, h⟩ := Option.bind_eq_some_iff.1 h
    obtain ⟨xs, hx, rfl⟩ := Option.map_eq_some_iff.1 h
    obtain ⟨c, cap, b, q1, rfl, q3, q4⟩ := mref_at hv (by simp [opn, hc])
    obtain ⟨r0, c', arr, ty, r1, r2, r3, r4, r5⟩ := hf.lcQ hc
    obtain rfl : c = c' := by rw [q1] at r1; exact Option.some.inj r1
    obtain ⟨h1, h2⟩ := priv_ok (D := D) (N' := N) hw r2 (by omega) (.cells arr ty (0, 0)) (.froz (fun i => arr[i]?) none) (by simp)
      (fun f r e => by injection e with e1 e2; subst e1 e2; exact ⟨arr, ty, (0, 0), rfl, fun _ _ h => h, by simp⟩) (by simp) (by simp) r3
    rw [setBlk_id r4] at h1 h2
    obtain ⟨hst, hfr⟩ := hf.close (hb := .froz (fun i => arr[i]?) none) q1 r2 (fun _ _ => rfl) rfl (s' := closeS s [t] []) rfl rfl rfl rfl (fun t' cs' h' => by
        simp only [closeS, closeL] at h'
        rw [closeL_get] at h'
        split at h'
        · cases h'
        · rename_i hn; exact ⟨h', by simp at hn; omega⟩) (fun t' cs' h' => ⟨h', by omega⟩) (fun t' cs' h' => ⟨h', by omega⟩)
    refine ⟨_, h1, h2, hfr, ?_, fun y u hy => (hy.close r2 (fun _ _ => rfl)).st hst⟩
    have r6 : All2 (VQ d (upd H c (.froz (fun i => arr[i]?) none)) s) cs arr.toList := r5.mono fun u z _ hq => ⟨hq.1, hq.2.close r2⟩
    obtain ⟨g1, g2⟩ := chunk_ok (f := fun i => arr[i]?) len off hx (r6.drop off) (fun j u hj _ => by rw [List.getElem?_drop] at hj; simpa using hj)
    refine ⟨b, cap, by rw [g1], by rw [g1]; exact q3, ?_⟩
    by_cases h0 : len = 0
    · left; exact List.eq_nil_of_length_eq_zero (by rw [g1, h0])
    · right
      have hsz' : 0 < sz := by simp [Nat.blt] at hsz; omega
      exact ⟨c, off, _, none, q4 (by omega), upd_same _ _ _, hsz', g2⟩
  · rename_i t
    obtain ⟨es, hc, rfl⟩ := Option.map_eq_some_iff.1 h
    obtain ⟨c, q1, rfl⟩ := hv.2 (by rw [hc]; rfl)
    obtain ⟨r0, c', ents, clk, r1, r2, r3, r4, r5⟩ := hf.mp t es hc
    obtain rfl : c = c' := by rw [q1] at r1; exact Option.some.inj r1
    obtain ⟨h1, h2⟩ := priv_ok (D := D) (N' := N) hw r2 (by omega) (.map ents clk) (.fmap (ents.toList.map (·.key)) (ents.toList.map (·.val))) (by simp) (by simp)
      (fun ks vs e => by injection e with e1 e2; exact ⟨ents, clk, rfl, e1, e2⟩) (by simp) r3
    rw [setBlk_id r4] at h1 h2
    obtain ⟨hst, hfr⟩ := hf.close (hb := .fmap (ents.toList.map (·.key)) (ents.toList.map (·.val))) q1 r2 (fun _ _ => rfl) rfl (s' := closeS s [] [t]) rfl rfl rfl rfl (fun t' cs' h' => ⟨h', by omega⟩) (fun t' cs' h' => by
        simp only [closeS, closeP] at h'
        rw [closeL_get] at h'
        split at h'
        · cases h'
        · rename_i hn; exact ⟨h', by simp at hn; omega⟩) (fun t' cs' h' => ⟨h', by omega⟩)
    exact ⟨_, h1, h2, hfr, .inr ⟨c, _, _, rfl, upd_same _ _ _, (ents_VL h2.hle r5).1, (ents_VL h2.hle r5).2⟩, fun y u hy => (hy.close r2 (fun _ _ => rfl)).st hst⟩
  · obtain ⟨y, hy, rfl⟩ := Option.map_eq_some_iff.1 h
    exact ⟨H, hw, Ext.refl _ _ _ _ _, hf, av_ok hy hv, fun _ _ h => h⟩

theorem closeS_app (s : St) (l l' p p' : List Nat) : closeS (closeS s l p) l' p' = closeS s (l ++ l') (p ++ p') := by
  have h {α : Type} (f : Nat → Option α) (l l' : List Nat) : updL (updL f (l.map fun t => (t, none))) (l'.map fun t => (t, none)) = updL f ((l ++ l').map fun t => (t, none)) := by
    funext j
    rw [closeL_get, closeL_get, closeL_get]
    by_cases h1 : j ∈ l <;> by_cases h2 : j ∈ l' <;> simp [h1, h2]
  unfold closeS closeL closeP
  simp only [h]

theorem esc_close {x : T} {e : Esc} {ls ps : List Nat} (h : esc s x = some e) (hl : ∀ t ∈ e.ls, t ∉ ls) (hp : ∀ t ∈ e.ps, t ∉ ps) : esc (closeS s ls ps) x = some e := by
  unfold esc at h ⊢
  split at h
  · rename_i t off len sz ag
    obtain ⟨hsz, h⟩ := bnd_some h
    obtain ⟨cs, hc, h⟩ := Option.bind_eq_some_iff.1 h
    obtain ⟨xs, hx, rfl⟩ := Option.map_eq_some_iff.1 h
    have : t ∉ ls := hl t (by simp)
    have h2 : (closeS s ls ps).lc t = some cs := by simp only [closeS, closeL, closeL_get, if_neg this, hc]
    simp only [h2, Option.bind_some, hx, Option.map_some, bnd, hsz, cond_true]
  · rename_i t
    obtain ⟨es, hc, rfl⟩ := Option.map_eq_some_iff.1 h
    have : t ∉ ps := hp t (by simp)
    have h2 : (closeS s ls ps).mp t = some es := by simp only [closeS, closeP, closeL_get, if_neg this, hc]
    simp only [h2, Option.map_some]
  · exact h

theorem distinct_app : ∀ {l l' : List Nat}, distinct (l ++ l') = true → distinct l' = true ∧ ∀ t ∈ l', t ∉ l
  | [], l', h => ⟨h, fun _ _ => by simp⟩
  | k :: l, l', h => by
    simp only [List.cons_append, distinct, Bool.and_eq_true, Bool.not_eq_true', List.contains_eq_mem, decide_eq_false_iff_not, List.mem_append, not_or] at h
    obtain ⟨h1, h2⟩ := distinct_app h.2
    exact ⟨h1, fun t ht => by
      simp only [List.mem_cons, not_or]
      exact ⟨fun e => h.1.2 (e ▸ ht), h2 t ht⟩⟩

theorem escs_close {ls ps : List Nat} : ∀ {as : List T} {xs : List AV} {l p : List Nat}, escs s as = some (xs, l, p) → (∀ t ∈ l, t ∉ ls) → (∀ t ∈ p, t ∉ ps) → escs (closeS s ls ps) as = some (xs, l, p)
  | [], xs, l, p, h, _, _ => h
  | x :: r, xs, l, p, h, hl, hp => by
    simp only [escs] at h ⊢
    obtain ⟨e, he, h⟩ := Option.bind_eq_some_iff.1 h
    obtain ⟨⟨xs', l', p'⟩, hr, h⟩ := Option.map_eq_some_iff.1 h
    injection h with h1 h2; injection h2 with h2 h3; subst h1 h2 h3
    rw [esc_close he (fun t ht => hl t (List.mem_append_left _ ht)) (fun t ht => hp t (List.mem_append_left _ ht)), escs_close hr (fun t ht => hl t (List.mem_append_right _ ht)) (fun t ht => hp t (List.mem_append_right _ ht))]
    rfl

/-- Several temporaries leave the frame. -/
theorem escs_ok (hB : w0.heap.size ≤ N) (D : Nat) : ∀ {as : List T} {vs : List Value} {xs : List AV} {ls ps : List Nat} {s : St} {H : Hp}, WOk w0 H m w → Fr nt N d s m H lam a w → escs s as = some (xs, ls, ps) → distinct ls = true → distinct ps = true → All2 (VT d H m w lam s) as vs →
    ∃ H', WOk w0 H' m w ∧ Ext D N H m w H' m w ∧ Fr nt N d (closeS s ls ps) m H' lam a w ∧ VL H' xs vs ∧ ∀ y u, VT d H m w lam s y u → VT d H' m w lam (closeS s ls ps) y u
  | [], [], xs, ls, ps, s, H, hw, hf, h, _, _, _ => by
    simp only [escs, Option.some.injEq, Prod.mk.injEq] at h
    obtain ⟨rfl, rfl, rfl⟩ := h
    exact ⟨H, hw, Ext.refl _ _ _ _ _, hf, rfl, fun _ _ h => h⟩
  | [], _ :: _, _, _, _, _, _, _, _, _, _, _, hv => hv.elim
  | _ :: _, [], _, _, _, _, _, _, _, _, _, _, hv => hv.elim
  | x :: r, v :: vs, xs, ls, ps, s, H, hw, hf, h, hd1, hd2, ⟨hv, hvs⟩ => by
    simp only [escs] at h
    obtain ⟨e, he, h⟩ := Option.bind_eq_some_iff.1 h
    obtain ⟨⟨xs', l', p'⟩, hr, h⟩ := Option.map_eq_some_iff.1 h
    injection h with h1 h2; injection h2 with h2 h3; subst h1 h2 h3
    obtain ⟨d1, d2⟩ := distinct_app hd1
    obtain ⟨d3, d4⟩ := distinct_app hd2
    obtain ⟨H1, g1, g2, g3, g4, g5⟩ := esc_ok hw hf hB he hv D
    obtain ⟨H2, k1, k2, k3, k4, k5⟩ := escs_ok hB D g1 g3 (escs_close hr d2 d4) d1 d3 (hvs.mono fun _ _ _ h => g5 _ _ h)
    rw [closeS_app] at k3 k5
    exact ⟨H2, k1, g2.trans k2, k3, ⟨v, vs, rfl, V_mono k2.hle _ _ g4, k4⟩, fun y u h => k5 y u (g5 y u h)⟩

end Go.Ax
/- Ax: own blocks are written; new maps and iterators. -/
set_option linter.unusedVariables false
set_option linter.unusedSimpArgs false
namespace Go.Ax
open Go.RowKit
variable {P : Program} {ti : Nat → TI}
variable {nt N d : Nat} {s : St} {m : AMem} {H : Hp} {lam : Nat → Option Nat} {a : Act} {w w0 : World}
variable {Hi : Hp} {mi : AMem} {wi : World}

theorem upd_self {c : Nat} {x : HB} (h : H c = x) : upd H c x = H := by
  funext j
  by_cases e : j = c
  · subst e; rw [upd_same, h]
  · exact upd_ne _ _ e

/-- A frame of which one own block is written. -/
theorem Fr.write (hf : Fr nt N d s m H lam a w) {q c : Nat} (hq : lam q = some c) (hc : H c = .priv) (hNc : N ≤ c) {w' : World} (hww : ∀ j, j ≠ c → w'.heap[j]? = w.heap[j]?) (hsz : w'.heap.size = w.heap.size) {s' : St} (htm : s'.tm = s.tm) (hseen : s'.seen = s.seen) (hlive : s'.live = s.live) (hdf : s'.df = s.df)
    (hlc : ∀ t cs, s'.lc t = some cs → (s.lc t = some cs ∧ 3 * t ≠ q) ∨ (3 * t = q ∧ (s.lc t).isSome = true ∧ s.seen t = true ∧ ∃ arr ty, w'.heap[c]? = some (.cells arr ty (0, 0)) ∧ All2 (VQ d H s) cs arr.toList))
    (hmp : ∀ t es, s'.mp t = some es → (s.mp t = some es ∧ 3 * t + 1 ≠ q) ∨ (3 * t + 1 = q ∧ (s.mp t).isSome = true ∧ s.seen t = true ∧ ∃ ents clk, w'.heap[c]? = some (.map ents clk) ∧ All2 (fun p (q : MapEntry) => V H p.1 q.key ∧ V H p.2 q.val) es ents.toList))
    (hit : ∀ t p, s'.it t = some p → (s.it t = some p ∧ 3 * t + 2 ≠ q) ∨ (3 * t + 2 = q ∧ (s.it t).isSome = true ∧ s.seen t = true ∧ w'.heap[c]? = some (.stringIter ⟨p.1.toArray⟩ p.2))) :
    StLe s s' lam lam ∧ Fr nt N d s' m H lam a w' := by
  have hst : StLe s s' lam lam := ⟨fun k h => by rw [hseen]; exact h, fun k _ h => by rw [hlive] at h; exact h, fun t _ h => by
      obtain ⟨cs, h⟩ := Option.isSome_iff_exists.1 h
      rcases hlc t cs h with h | h
      · exact ⟨by rw [h.1]; rfl, rfl⟩
      · exact ⟨h.2.1, rfl⟩, fun t _ h => by
      obtain ⟨cs, h⟩ := Option.isSome_iff_exists.1 h
      rcases hmp t cs h with h | h
      · exact ⟨by rw [h.1]; rfl, rfl⟩
      · exact ⟨h.2.1, rfl⟩, fun t _ h => by
      obtain ⟨cs, h⟩ := Option.isSome_iff_exists.1 h
      rcases hit t cs h with h | h
      · exact ⟨by rw [h.1]; rfl, rfl⟩
      · exact ⟨h.2.1, rfl⟩⟩
  have hVT : ∀ {x : T} {v : Value}, VT d H m w lam s x v → VT d H m w' lam s' x v := fun h => by
    have := VT.close (hb := .priv) hc hww h
    rw [upd_self hc] at this
    exact this.st hst
  have hVQ : ∀ {x : T} {v : Value}, VQ d H s x v → VQ d H s' x v := fun h => VQ.st hst h
  refine ⟨hst, hf.size, fun t => ?_, fun t cs h => ?_, fun t es h => ?_, fun t l p h => ?_, hf.inj, fun i j h => by rw [hsz]; exact hf.lamN i j h, ?_, fun k h => by rw [hlive] at h; rw [hseen]; exact hf.live k h⟩
  · rw [htm]; exact hVT (hf.tm t)
  · rcases hlc t cs h with ⟨h, hn⟩ | ⟨e, _, h0, arr, ty, h1, h2⟩
    · obtain ⟨q0, j, arr, ty, q1, q2, q3, q4, q5⟩ := hf.lcQ h
      have e : j ≠ c := fun e => hn (hf.inj _ _ _ q1 (by rw [e]; exact hq))
      exact ⟨by rw [hseen]; exact q0, j, arr, ty, q1, q2, q3, by rw [hww j e, q4], q5.mono fun _ _ _ h => hVQ h⟩
    · exact ⟨by rw [hseen]; exact h0, c, arr, ty, by rw [e, hq], hc, hNc, h1, h2.mono fun _ _ _ h => hVQ h⟩
  · rcases hmp t es h with ⟨h, hn⟩ | ⟨e, _, h0, ents, clk, h1, h2⟩
    · obtain ⟨q0, j, ents, clk, q1, q2, q3, q4, q5⟩ := hf.mp t es h
      have e : j ≠ c := fun e => hn (hf.inj _ _ _ q1 (by rw [e]; exact hq))
      exact ⟨by rw [hseen]; exact q0, j, ents, clk, q1, q2, q3, by rw [hww j e, q4], q5⟩
    · exact ⟨by rw [hseen]; exact h0, c, ents, clk, by rw [e, hq], hc, hNc, h1, h2⟩
  · rcases hit t (l, p) h with ⟨h, hn⟩ | ⟨e, _, h0, h1⟩
    · obtain ⟨q0, j, q1, q2, q3, q4⟩ := hf.it t l p h
      have e : j ≠ c := fun e => hn (hf.inj _ _ _ q1 (by rw [e]; exact hq))
      exact ⟨by rw [hseen]; exact q0, j, q1, q2, q3, by rw [hww j e, q4]⟩
    · exact ⟨by rw [hseen]; exact h0, c, by rw [e, hq], hc, hNc, h1⟩
  · rw [hdf]; exact hf.df

theorem priv_write (hw : WOk w0 H m w) {c : Nat} (hc : H c = .priv) (hB : w0.heap.size ≤ c) (o : Obj) (D N' : Nat) (hN : N' ≤ c) : WOk w0 H m (setBlk w c o) ∧ Ext D N' H m w H m (setBlk w c o) := by
  have := priv_ok (D := D) (N' := N') hw hc hB o .priv (by simp) (by simp) (by simp) (by simp) hN
  rwa [upd_self hc] at this

/-- An operation that writes a variable of the frame. -/
theorem writeLc_inv (hw : WOk w0 H m w) (hf : Fr nt N d s m H lam a w) (x : Ext d N Hi mi wi H m w) (hN : N ≤ w.heap.size) (hB : w0.heap.size ≤ N) {t c : Nat} {cs cs' : List T} (hcs : s.lc t = some cs) (hl : lam (3 * t) = some c) (hc : H c = .priv) (hNc : N ≤ c) {arr : Array Value} {ty : TypeId}
    (h2 : All2 (VQ d H s) cs' arr.toList) {e : Eff} (he : { e with lr := [], ir := [], pr := [], mr := false } = { val := e.val, lw := [(t, some cs')] }) {dst : Option Tmp} (hd : dstOk nt dst = true) {v : Value} (hv : VT d H m w lam s e.val v) :
    Inv nt N d w0 Hi mi wi (s.put dst e) (e.mw.getD m) (a.put dst v) (setBlk w c (.cells arr ty)) := by
  have hlt : c < w.heap.size := hf.lamN _ _ hl
  obtain ⟨g1, g2⟩ := priv_write (D := d) hw hc (by omega) (.cells arr ty) N hNc
  have hseen := (hf.lcQ hcs).1
  obtain ⟨k1, k2⟩ := hf.write (s' := { s with lc := upd s.lc t (some cs') }) hl hc hNc (w' := setBlk w c (.cells arr ty)) (fun j h => setBlk_ne _ h) (setBlk_size _) rfl rfl rfl rfl (fun t' cs0 h => by
      by_cases e : t' = t
      · subst e
        simp only [upd_same, Option.some.injEq] at h; subst h
        exact .inr ⟨rfl, by rw [hcs]; rfl, hseen, arr, ty, setBlk_same _ hlt, h2⟩
      · simp only [upd_ne _ _ e] at h
        exact .inl ⟨h, by omega⟩) (fun t' es h => .inl ⟨h, by omega⟩) (fun t' es h => .inl ⟨h, by omega⟩)
  injection he with e1 e2 e3 e4 e5 e6 e7 e8 e9 e10 e11 e12 e13
  have hput : s.put dst e = { s with lc := upd s.lc t (some cs'), tm := putT s.tm dst e.val } := by
    simp only [St.put, e2, e3, e4, e10, e11, e12, e13, updL, List.contains_nil, Bool.false_or, Bool.not_false, Bool.and_true, List.nil_append]
    rfl
  rw [hput, e9]
  have hv' : VT d H m (setBlk w c (.cells arr ty)) lam { s with lc := upd s.lc t (some cs') } e.val v := by
    have := VT.close (hb := .priv) hc (fun j h => setBlk_ne (.cells arr ty) h) hv
    rw [upd_self hc] at this
    exact this.st k1
  exact ⟨H, lam, g1, k2.put hv' hd, x.trans g2, by rw [setBlk_size]; exact hN⟩

end Go.Ax
/- Ax: memory blocks are written; stores. -/
set_option linter.unusedVariables false
set_option linter.unusedSimpArgs false
namespace Go.Ax
open Go.RowKit
variable {P : Program} {ti : Nat → TI}
variable {nt N d : Nat} {s : St} {m : AMem} {H : Hp} {lam : Nat → Option Nat} {a : Act} {w w0 : World}
variable {Hi : Hp} {mi : AMem} {wi : World}

/-- What a step has to leave to a frame, of which some tokens may die. -/
structure Leaves (d N : Nat) (s s' : St) (H : Hp) (m : AMem) (w : World) (H' : Hp) (m' : AMem) (w' : World) : Prop where
  hle : HLe H H'
  priv : ∀ c, H c = .priv → N ≤ c → H' c = .priv ∧ w'.heap[c]? = w.heap[c]?
  room : ∀ (k sz n : Nat) (v : Value), s.seen k = true → s'.live k = true → Roomy H (.tok d k) sz n v → Roomy H' (.tok d k) sz n v
  next : m.next ≤ m'.next
  mv : ∀ (id off : Nat) (cs : List T) (k sz : Nat) (xs : List AV), m'.blk id = some cs → cs[off]? = some (.own k sz xs) → k ≠ 0 → k < m.next →
    (∃ cs0 : List T, m.blk id = some cs0 ∧ cs0[off]? = some (.own k sz xs)) ∧ ∀ c, H c = .mem id → w'.cell? ⟨c, off, none⟩ = w.cell? ⟨c, off, none⟩
  size : w.heap.size ≤ w'.heap.size
  st : StLe s s' lam lam
  tm : s'.tm = s.tm
  lc : ∀ t cs, s'.lc t = some cs → s.lc t = some cs
  mp : ∀ t cs, s'.mp t = some cs → s.mp t = some cs
  it : ∀ t cs, s'.it t = some cs → s.it t = some cs
  df : s'.df = s.df
  live : ∀ k, s'.live k = true → s'.seen k = true

variable {s' : St} {H' : Hp} {m' : AMem} {w' : World}

theorem Leaves.vt1 (x : Leaves (lam := lam) d N s s' H m w H' m' w') {y : T} {v : Value} (h0 : ∀ k sz xs, y = .own k sz xs → k = 0 ∨ s.seen k = true) (h : VT1 d H s.live y v) : VT1 d H' s'.live y v := by
  cases y <;> first | exact h.elim | skip
  case v => exact ⟨h.1, V_mono x.hle _ _ h.2⟩
  case own k sz xs => exact ⟨V_mono x.hle _ _ h.1, h.2.1, fun hk hl => x.room _ _ _ _ ((h0 _ _ _ rfl).resolve_left hk) hl (h.2.2 hk (x.st.live k ((h0 _ _ _ rfl).resolve_left hk) hl))⟩

theorem Leaves.vq (x : Leaves (lam := lam) d N s s' H m w H' m' w') {y : T} {v : Value} (h : VQ d H s y v) : VQ d H' s' y v :=
  ⟨fun k sz xs e => (h.1 k sz xs e).imp id (x.st.seen k), x.vt1 h.1 h.2⟩

theorem Leaves.vt (x : Leaves (lam := lam) d N s s' H m w H' m' w') {y : T} {v : Value} (h : VT d H m w lam s y v) : VT d H' m' w' lam s' y v := by
  cases y
  case undef => exact h
  case any => trivial
  case v => exact V_mono x.hle _ _ h
  case reg => exact ⟨x.st.seen _ h.1, fun hs => h.2 ((x.st.lc _ h.1 hs).1)⟩
  case ea =>
    obtain ⟨c, o, f, r, e, hc, hE⟩ := h
    obtain ⟨f', r', h1, h2⟩ := x.hle.froz c f r hc
    exact ⟨c, o, f', r', e, h1, VE_mono x.hle h2 _ _ o hE⟩
  case own k sz xs => exact ⟨h.1.imp id (x.st.seen k), V_mono x.hle _ _ h.2.1, h.2.2.1, fun hk hl => x.room _ _ _ _ (h.1.resolve_left hk) hl (h.2.2.2 hk (x.st.live k (h.1.resolve_left hk) hl))⟩
  case ld id off k sz xs =>
    obtain ⟨h1, h2, h3, h4⟩ := h
    refine ⟨V_mono x.hle _ _ h1, h2, Nat.lt_of_lt_of_le h3 x.next, fun cs sz' xs' hb hc => ?_⟩
    obtain ⟨⟨cs0, h5, h6⟩, h7⟩ := x.mv id off cs k sz' xs' hb hc h2 h3
    obtain ⟨e1, e2, c, h8, h9⟩ := h4 cs0 sz' xs' h5 h6
    exact ⟨e1, e2, c, x.hle.mem c id h8, (h7 c h8).trans h9⟩
  case agg cs =>
    obtain ⟨vs, e, h⟩ := h
    exact ⟨vs, e, h.mono fun _ _ _ hab => x.vq hab⟩
  case mref => exact ⟨x.st.seen _ h.1, fun hs => h.2 ((x.st.lc _ h.1 hs).1)⟩
  case omap => exact ⟨x.st.seen _ h.1, fun hs => h.2 ((x.st.mp _ h.1 hs).1)⟩
  case sit => exact ⟨x.st.seen _ h.1, fun hs => h.2 ((x.st.it _ h.1 hs).1)⟩

theorem Fr.leaves (hf : Fr nt N d s m H lam a w) (x : Leaves (lam := lam) d N s s' H m w H' m' w') : Fr nt N d s' m' H' lam a w' where
  size := hf.size
  tm t := by rw [x.tm]; exact x.vt (hf.tm t)
  lc t cs hc := by
    obtain ⟨h0, c, arr, e, h1, h2, h3, h4, h5⟩ := hf.lcQ (x.lc t cs hc)
    obtain ⟨h6, h7⟩ := x.priv c h2 h3
    exact ⟨x.st.seen _ h0, c, arr, e, h1, h6, h3, h7.trans h4, h5.mono fun _ _ _ hab => x.vq hab⟩
  mp t es hc := by
    obtain ⟨h0, c, ents, clk, h1, h2, h3, h4, h5⟩ := hf.mp t es (x.mp t es hc)
    obtain ⟨h6, h7⟩ := x.priv c h2 h3
    exact ⟨x.st.seen _ h0, c, ents, clk, h1, h6, h3, h7.trans h4, h5.mono fun _ _ _ hab => ⟨V_mono x.hle _ _ hab.1, V_mono x.hle _ _ hab.2⟩⟩
  it t l p hc := by
    obtain ⟨h0, c, h1, h2, h3, h4⟩ := hf.it t l p (x.it t (l, p) hc)
    obtain ⟨h6, h7⟩ := x.priv c h2 h3
    exact ⟨x.st.seen _ h0, c, h1, h6, h3, h7.trans h4⟩
  inj := hf.inj
  lamN i c hc := Nat.lt_of_lt_of_le (hf.lamN i c hc) x.size
  df := by rw [x.df]; exact hf.df.mono fun _ _ _ ⟨f, cap, e, vs, e2, hv⟩ => ⟨f, cap, e, vs, e2, VL_mono x.hle cap vs hv⟩
  live := x.live

/-- A step at a higher depth leaves a frame whole. -/
theorem Leaves.ofExt {N' : Nat} (x : Ext (d + 1) N' H m w H' m' w') (hw : ∀ c, H c ≠ .free → c < w.heap.size) (hN : w.heap.size ≤ N') (hl : ∀ k, s.live k = true → s.seen k = true) : Leaves (lam := lam) d N s s H m w H' m' w' where
  hle := x.hle
  priv c h _ := x.priv c h (Nat.lt_of_lt_of_le (hw c (by rw [h]; simp)) hN)
  room k sz n v _ _ h := h.ext x
  next := x.next
  mv := x.mv
  size := x.size
  st := StLe.refl _ _
  tm := rfl
  lc _ _ h := h
  mp _ _ h := h
  it _ _ h := h
  df := rfl
  live := hl

/-- A memory block is written. -/
theorem mem_write (hw : WOk w0 H m w) {id c : Nat} {cs cs' : List T} (hb : m.blk id = some cs) (hc : H c = .mem id) {arr arr' : Array Value} {ty : TypeId} (harr : w.heap[c]? = some (.cells arr ty (0, 0)))
    (hcs : All2 (VM1 H m) cs' arr'.toList) (hold : ∀ (off k sz : Nat) (xs : List AV), cs'[off]? = some (.own k sz xs) → k ≠ 0 → (cs[off]? = some (.own k sz xs) ∧ arr'[off]? = arr[off]?) ∨ (k + 1 = m.next ∧ (∀ (id : Nat) (cs : List T) (off sz : Nat) (xs : List AV), m.blk id = some cs → cs[off]? ≠ some (.own k sz xs)) ∧ ∀ (off' sz : Nat) (xs : List AV), cs'[off']? = some (.own k sz xs) → off' = off))
    {n0 : Nat} (hn0 : n0 ≤ m.next) (hn1 : ∀ (off k sz : Nat) (xs : List AV), cs'[off]? = some (.own k sz xs) → k ≠ 0 → k < n0 → cs[off]? = some (.own k sz xs)) (D N' : Nat) :
    WOk w0 H { m with blk := upd m.blk id (some cs') } (setBlk w c (.cells arr' ty)) ∧ Ext D N' H { m with next := n0 } w H { m with blk := upd m.blk id (some cs') } (setBlk w c (.cells arr' ty)) := by
  obtain ⟨arr0, ty0, q1, hB, q2⟩ := hw.blk hb hc
  have hlt := lt_of_heap harr
  have hne : ∀ {j : Nat} {x : HB}, H j = x → x ≠ .mem id → j ≠ c := by rintro j x h hx rfl; rw [hc] at h; exact hx h.symm
  refine ⟨⟨below_setBlk hw.below hB _, fun j hj => hw.free j (by rw [setBlk_size] at hj; exact hj), ?_, ?_, hw.memU, hw.memN, ?_, hw.next, ?_, fun j id' hj arr1 e1 fr1 ha => by
    by_cases e : j = c
    · subst e
      rw [setBlk_same _ hlt] at ha; injection ha with ha; injection ha with _ h2 _
      rw [← h2]; exact hw.memT j id' hj arr ty _ harr
    · rw [setBlk_ne _ e] at ha; exact hw.memT j id' hj arr1 e1 fr1 ha, fun j f q hj hq arr1 e1 fr1 ha => by
    rw [setBlk_ne _ (hne hj (by simp))] at ha; exact hw.rowT j f q hj hq arr1 e1 fr1 ha⟩, ⟨HLe.refl _, ?_, ?_, hn0, ?_, fun _ _ h _ => h, by rw [setBlk_size]; exact Nat.le_refl _⟩⟩
  · intro j f r hj
    obtain ⟨arr, ty, fr, h1, h2⟩ := hw.froz j f r hj
    exact ⟨arr, ty, fr, by rw [setBlk_ne _ (hne hj (by simp)), h1], h2⟩
  · intro id' cs0 h
    by_cases e : id' = id
    · subst e
      simp only [upd_same, Option.some.injEq] at h; subst h
      exact ⟨c, arr', ty, hc, setBlk_same _ hlt, hB, hcs.mono fun x v _ h => h.mono (m' := { m with blk := upd m.blk id' (some cs') }) (HLe.refl _) (fun _ _ _ _ _ h => h) (Nat.le_refl _)⟩
    · simp only [upd_ne _ _ e] at h
      obtain ⟨j, arr1, ty1, h1, h2, h3, h4⟩ := hw.mem id' cs0 h
      exact ⟨j, arr1, ty1, h1, by rw [setBlk_ne _ (hne h1 (by simpa using e)), h2], h3, h4.mono fun x v _ h => h.mono (m' := { m with blk := upd m.blk id (some cs') }) (HLe.refl _) (fun _ _ _ _ _ h => h) (Nat.le_refl _)⟩
  · intro j ks vs hj
    obtain ⟨es, clk, h1, h2⟩ := hw.fmap j ks vs hj
    exact ⟨es, clk, by rw [setBlk_ne _ (hne hj (by simp)), h1], h2⟩
  · intro id1 off1 cs1 id2 off2 cs2 k sz1 xs1 sz2 xs2 h1 h2 h3 h4 hk
    by_cases e1 : id1 = id
    · subst e1
      simp only [upd_same, Option.some.injEq] at h1; subst h1
      by_cases e2 : id2 = id1
      · subst e2
        simp only [upd_same, Option.some.injEq] at h3; subst h3
        rcases hold _ _ _ _ h2 hk with g1 | g1
        · rcases hold _ _ _ _ h4 hk with g2 | g2
          · exact hw.mvU _ _ _ _ _ _ _ _ _ _ _ hb g1.1 hb g2.1 hk
          · exact ⟨rfl, g2.2.2 _ _ _ h2⟩
        · exact ⟨rfl, (g1.2.2 _ _ _ h4).symm⟩
      · simp only [upd_ne _ _ e2] at h3
        rcases hold _ _ _ _ h2 hk with g1 | g1
        · exact hw.mvU _ _ _ _ _ _ _ _ _ _ _ hb g1.1 h3 h4 hk
        · exact absurd h4 (g1.2.1 _ _ _ _ _ h3)
    · simp only [upd_ne _ _ e1] at h1
      by_cases e2 : id2 = id
      · subst e2
        simp only [upd_same, Option.some.injEq] at h3; subst h3
        rcases hold _ _ _ _ h4 hk with g1 | g1
        · exact hw.mvU _ _ _ _ _ _ _ _ _ _ _ h1 h2 hb g1.1 hk
        · exact absurd h2 (g1.2.1 _ _ _ _ _ h1)
      · simp only [upd_ne _ _ e2] at h3
        exact hw.mvU _ _ _ _ _ _ _ _ _ _ _ h1 h2 h3 h4 hk
  · intro j hj _
    exact ⟨hj, setBlk_ne _ (hne hj (by simp))⟩
  · intro j f d' k x y hj _
    exact ⟨rfl, setBlk_ne _ (hne hj (by simp))⟩
  · intro id' off cs0 k sz xs h1 h2 hk hlt'
    by_cases e : id' = id
    · subst e
      simp only [upd_same, Option.some.injEq] at h1; subst h1
      have g := hn1 _ _ _ _ h2 hk hlt'
      refine ⟨⟨cs, hb, g⟩, fun j hj => ?_⟩
      obtain rfl := hw.memU j c id' hj hc
      rw [cell_block (setBlk_same _ hlt), cell_block harr]
      rcases hold _ _ _ _ h2 hk with g1 | g1
      · exact g1.2
      · exact absurd g (g1.2.1 _ _ _ _ _ hb)
    · simp only [upd_ne _ _ e] at h1
      refine ⟨⟨cs0, h1, h2⟩, fun j hj => ?_⟩
      have := hne hj (by simpa using e)
      simp only [World.cell?]
      rw [setBlk_ne _ this]

theorem Leaves.mem (hw : WOk w0 H m w) (hf : Fr nt N d s m H lam a w) {m1 : AMem} {w1 : World} (x : Ext (d + 1) w.heap.size H m w H m1 w1) : Leaves (lam := lam) d N s s H m w H m1 w1 :=
  Leaves.ofExt x (fun _ h => hw.lt h) (Nat.le_refl _) hf.live

end Go.Ax
