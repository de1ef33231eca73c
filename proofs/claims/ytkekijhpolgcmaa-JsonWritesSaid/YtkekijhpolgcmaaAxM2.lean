/- The machine Ax, part AxM2: its steps and why they are sound. -/
import Derived.Test.YtkekijhpolgcmaaAxM1
import Derived.Below
import Derived.Laws.Entries
import Derived.Calls
import Derived.Orders
import Derived.Lib.Strings
import Derived.Laws.BytesArg
/- Ax: what an abstract value, a frame and a memory say of the model's world. -/
set_option linter.unusedVariables false
set_option linter.unusedSimpArgs false
namespace Go.Ax
open Go.RowKit

/-- Who may append to a block's row: a frame's token (depth d), a memory cell's version. -/
inductive RL where
  | tok (d k : Nat)
  | mv (k : Nat)
  deriving DecidableEq

def RL.el : RL → Nat
  | .tok _ k => elOf k
  | .mv k => elOf k

structure Room where
  l : RL
  from_ : Nat
  to_ : Nat

inductive HB where
  | free
  | froz (f : Nat → Option Value) (room : Option Room)
  | mem (id : Nat)
  | priv
  | fmap (ks vs : List Value)

abbrev Hp := Nat → HB

def All2 {α β : Type} (R : α → β → Prop) : List α → List β → Prop
  | [], [] => True
  | a :: l, b :: r => R a b ∧ All2 R l r
  | _, _ => False

mutual
def V (H : Hp) : AV → Value → Prop
  | .bool b, v => v = .bool b
  | .int k n, v => v = .int k n
  | .str l, v => v = .string ⟨l.toArray⟩
  | .agg cs, v => ∃ vs : List Value, v = .agg vs.toArray ∧ VC H cs vs
  | .tup cs, v => ∃ vs : List Value, v = .tuple vs.toArray ∧ VL H cs vs
  | .sl sz xs, v => ∃ a cap, v = .slice a xs.length cap ∧ xs.length ≤ cap ∧ (xs = [] ∨ ∃ c o f r, a = some ⟨c, o, none⟩ ∧ H c = .froz f r ∧ 0 < sz ∧ VE H f sz xs o)
  | .ptr id off, v => ∃ c, v = .pointer (some ⟨c, off, none⟩) ∧ H c = .mem id
  | .fn f cap, v => ∃ vs : List Value, v = .func (.func f) #[] vs.toArray ∧ VL H cap vs
  | .mp ks vs, v => (v = .map none ∧ ks = [] ∧ vs = []) ∨ ∃ c us ws, v = .map (some c) ∧ H c = .fmap us ws ∧ VL H ks us ∧ VL H vs ws
  | .nilp, v => v = .pointer none
  | .nilf, v => v = .nilFunc
  | .nili, v => v = .nilIface
def VC (H : Hp) : List AV → List Value → Prop
  | [], vs => vs = []
  | c :: cs, vs => ∃ u us, vs = u :: us ∧ u.oneCell' = true ∧ V H c u ∧ VC H cs us
def VL (H : Hp) : List AV → List Value → Prop
  | [], vs => vs = []
  | c :: cs, vs => ∃ u us, vs = u :: us ∧ V H c u ∧ VL H cs us
def VE (H : Hp) (f : Nat → Option Value) (sz : Nat) : List AV → Nat → Prop
  | [], _ => True
  | x :: xs, o => (∃ v, V H x v ∧ v.cells.size = sz ∧ ∀ j u, v.cells[j]? = some u → u.oneCell' = true ∧ f (o + j) = some u) ∧ VE H f sz xs (o + sz)
end

/-- What has been closed stays; who has a name keeps it. -/
structure HLe (H H' : Hp) : Prop where
  froz : ∀ c f r, H c = .froz f r → ∃ f' r', H' c = .froz f' r' ∧ ∀ i v, f i = some v → f' i = some v
  mem : ∀ c id, H c = .mem id → H' c = .mem id
  fmap : ∀ c k v, H c = .fmap k v → H' c = .fmap k v

theorem HLe.refl (H : Hp) : HLe H H := ⟨fun c f r h => ⟨f, r, h, fun _ _ h => h⟩, fun _ _ h => h, fun _ _ _ h => h⟩
theorem HLe.trans {A B C : Hp} (h : HLe A B) (k : HLe B C) : HLe A C :=
  ⟨fun c f r hc => by
    obtain ⟨f', r', h1, h2⟩ := h.froz c f r hc
    obtain ⟨f'', r'', h3, h4⟩ := k.froz c f' r' h1
    exact ⟨f'', r'', h3, fun i v hv => h4 i v (h2 i v hv)⟩, fun c id hc => k.mem c id (h.mem c id hc), fun c x y hc => k.fmap c x y (h.fmap c x y hc)⟩

mutual
theorem V_mono {H H' : Hp} (h : HLe H H') : ∀ (x : AV) (v : Value), V H x v → V H' x v
  | .bool b, v, hv => hv
  | .int k n, v, hv => hv
  | .str l, v, hv => hv
  | .agg cs, v, ⟨vs, e, hc⟩ => ⟨vs, e, VC_mono h cs vs hc⟩
  | .tup cs, v, ⟨vs, e, hc⟩ => ⟨vs, e, VL_mono h cs vs hc⟩
  | .sl sz xs, v, ⟨a, cap, e, hl, hx⟩ => ⟨a, cap, e, hl, hx.imp id fun ⟨c, o, f, r, ea, hc, hs, hE⟩ => by
      obtain ⟨f', r', h1, h2⟩ := h.froz c f r hc
      exact ⟨c, o, f', r', ea, h1, hs, VE_mono h h2 sz xs o hE⟩⟩
  | .ptr id off, v, ⟨c, e, hc⟩ => ⟨c, e, h.mem c id hc⟩
  | .fn f cap, v, ⟨vs, e, hc⟩ => ⟨vs, e, VL_mono h cap vs hc⟩
  | .mp ks vs, v, hv => hv.imp id fun ⟨c, us, ws, e, hc, hk, hw⟩ => ⟨c, us, ws, e, h.fmap c us ws hc, VL_mono h ks us hk, VL_mono h vs ws hw⟩
  | .nilp, v, hv => hv
  | .nilf, v, hv => hv
  | .nili, v, hv => hv
theorem VC_mono {H H' : Hp} (h : HLe H H') : ∀ (cs : List AV) (vs : List Value), VC H cs vs → VC H' cs vs
  | [], vs, hv => hv
  | c :: cs, vs, ⟨u, us, e, h1, hu, hr⟩ => ⟨u, us, e, h1, V_mono h c u hu, VC_mono h cs us hr⟩
theorem VL_mono {H H' : Hp} (h : HLe H H') : ∀ (cs : List AV) (vs : List Value), VL H cs vs → VL H' cs vs
  | [], vs, hv => hv
  | c :: cs, vs, ⟨u, us, e, hu, hr⟩ => ⟨u, us, e, V_mono h c u hu, VL_mono h cs us hr⟩
theorem VE_mono {H H' : Hp} (h : HLe H H') {f f' : Nat → Option Value} (hf : ∀ i v, f i = some v → f' i = some v) (sz : Nat) : ∀ (xs : List AV) (o : Nat), VE H f sz xs o → VE H' f' sz xs o
  | [], _, _ => trivial
  | x :: xs, o, ⟨⟨v, hv, hs, hj⟩, hr⟩ => ⟨⟨v, V_mono h x v hv, hs, fun j u hu => ⟨(hj j u hu).1, hf _ _ (hj j u hu).2⟩⟩, VE_mono h hf sz xs (o + sz) hr⟩
end

theorem All2.mono {α β : Type} {R S : α → β → Prop} : ∀ {l : List α} {r : List β}, (∀ a b, a ∈ l → R a b → S a b) → All2 R l r → All2 S l r
  | [], [], _, _ => trivial
  | a :: l, b :: r, h, ⟨h1, h2⟩ => ⟨h a b List.mem_cons_self h1, All2.mono (fun a b ha => h a b (List.mem_cons_of_mem _ ha)) h2⟩
  | [], _ :: _, _, hf => hf.elim
  | _ :: _, [], _, hf => hf.elim
theorem All2.length {α β : Type} {R : α → β → Prop} : ∀ {l : List α} {r : List β}, All2 R l r → l.length = r.length
  | [], [], _ => rfl
  | a :: l, b :: r, ⟨_, h2⟩ => by simp [All2.length h2]
  | [], _ :: _, hf => hf.elim
  | _ :: _, [], hf => hf.elim
theorem All2.get {α β : Type} {R : α → β → Prop} : ∀ {l : List α} {r : List β}, All2 R l r → ∀ (i : Nat) (a : α), l[i]? = some a → ∃ b, r[i]? = some b ∧ R a b
  | [], [], _, i, a, h => by simp at h
  | a :: l, b :: r, ⟨h1, h2⟩, 0, x, h => by simp at h; subst h; exact ⟨b, by simp, h1⟩
  | a :: l, b :: r, ⟨h1, h2⟩, i + 1, x, h => by simpa using All2.get h2 i x (by simpa using h)
  | [], _ :: _, hf, _, _, _ => hf.elim
  | _ :: _, [], hf, _, _, _ => hf.elim
theorem All2.set {α β : Type} {R : α → β → Prop} : ∀ {l : List α} {r : List β}, All2 R l r → ∀ (i : Nat) (a : α) (b : β), R a b → All2 R (l.set i a) (r.set i b)
  | [], [], _, i, a, b, _ => by simp [All2]
  | x :: l, y :: r, ⟨h1, h2⟩, 0, a, b, h => by simp [All2, h, h2]
  | x :: l, y :: r, ⟨h1, h2⟩, i + 1, a, b, h => by simpa [All2, h1] using All2.set h2 i a b h
  | [], _ :: _, hf, _, _, _, _ => hf.elim
  | _ :: _, [], hf, _, _, _, _ => hf.elim
theorem All2.drop {α β : Type} {R : α → β → Prop} : ∀ {l : List α} {r : List β}, All2 R l r → ∀ n, All2 R (l.drop n) (r.drop n)
  | [], [], _, n => by simp [All2]
  | x :: l, y :: r, h, 0 => by simpa using h
  | x :: l, y :: r, ⟨h1, h2⟩, n + 1 => by simpa using All2.drop h2 n
  | [], _ :: _, hf, _ => hf.elim
  | _ :: _, [], hf, _ => hf.elim
theorem All2.take {α β : Type} {R : α → β → Prop} : ∀ {l : List α} {r : List β}, All2 R l r → ∀ n, All2 R (l.take n) (r.take n)
  | [], [], _, n => by simp [All2]
  | x :: l, y :: r, h, 0 => by simp [All2]
  | x :: l, y :: r, ⟨h1, h2⟩, n + 1 => by simpa [All2, h1] using All2.take h2 n
  | [], _ :: _, hf, _ => hf.elim
  | _ :: _, [], hf, _ => hf.elim
theorem All2.append {α β : Type} {R : α → β → Prop} : ∀ {l : List α} {r : List β} {l' : List α} {r' : List β}, All2 R l r → All2 R l' r' → All2 R (l ++ l') (r ++ r')
  | [], [], _, _, _, h => by simpa using h
  | x :: l, y :: r, _, _, ⟨h1, h2⟩, h => by simpa [All2, h1] using All2.append h2 h
  | [], _ :: _, _, _, hf, _ => hf.elim
  | _ :: _, [], _, _, hf, _ => hf.elim
theorem VC_iff {H : Hp} : ∀ {cs : List AV} {vs : List Value}, VC H cs vs ↔ All2 (fun c u => u.oneCell' = true ∧ V H c u) cs vs
  | [], vs => by cases vs <;> simp [VC, All2]
  | c :: cs, [] => by simp [VC, All2]
  | c :: cs, v :: vs => by
    constructor
    · rintro ⟨u, us, e, h1, h2, h3⟩
      injection e with e1 e2
      subst e1 e2
      exact ⟨⟨h1, h2⟩, VC_iff.1 h3⟩
    · rintro ⟨⟨h1, h2⟩, h3⟩
      exact ⟨v, vs, rfl, h1, h2, VC_iff.2 h3⟩
theorem VL_iff {H : Hp} : ∀ {cs : List AV} {vs : List Value}, VL H cs vs ↔ All2 (V H) cs vs
  | [], vs => by cases vs <;> simp [VL, All2]
  | c :: cs, [] => by simp [VL, All2]
  | c :: cs, v :: vs => by
    constructor
    · rintro ⟨u, us, e, h2, h3⟩
      injection e with e1 e2
      subst e1 e2
      exact ⟨h2, VL_iff.1 h3⟩
    · rintro ⟨h2, h3⟩
      exact ⟨v, vs, rfl, h2, VL_iff.2 h3⟩

/-! ### a frame's temporaries -/
/-- A slice that may be appended to: no room, or the room behind it is the label's. -/
def Roomy (H : Hp) (l : RL) (sz n : Nat) (v : Value) : Prop :=
  ∃ a cap, v = .slice a n cap ∧ ((cap = n ∧ (l.el ≠ 0 → n = 0)) ∨ ∃ c o f, a = some ⟨c, o, none⟩ ∧ 0 < sz ∧ H c = .froz f (some ⟨l, o + n * sz, o + cap * sz⟩))
def Full (n : Nat) (v : Value) : Prop := ∃ a, v = .slice a n n

/-- A cell of a frame's variable. -/
def VT1 (d : Nat) (H : Hp) (live : Nat → Bool) : T → Value → Prop
  | .v x, v => v.oneCell' = true ∧ V H x v
  | .own k sz xs, v => V H (.sl sz xs) v ∧ (k = 0 → Full xs.length v) ∧ (k ≠ 0 → live k = true → Roomy H (.tok d k) sz xs.length v)
  | _, _ => False

def VT (d : Nat) (H : Hp) (m : AMem) (w : World) (lam : Nat → Option Nat) (s : St) : T → Value → Prop
  | .undef, v => v = undef
  | .any, _ => True
  | .v x, v => V H x v
  | .reg t off, v => s.seen t = true ∧ ((s.lc t).isSome = true → ∃ c, lam (3 * t) = some c ∧ v = .pointer (some ⟨c, off, none⟩))
  | .ea sz xs i off, v => ∃ c o f r, v = .pointer (some ⟨c, o + i * sz + off, none⟩) ∧ H c = .froz f r ∧ VE H f sz xs o
  | .own k sz xs, v => (k = 0 ∨ s.seen k = true) ∧ V H (.sl sz xs) v ∧ (k = 0 → Full xs.length v) ∧ (k ≠ 0 → s.live k = true → Roomy H (.tok d k) sz xs.length v)
  | .ld id off k sz xs, v => V H (.sl sz xs) v ∧ k ≠ 0 ∧ k < m.next ∧ ∀ cs sz' xs', m.blk id = some cs → cs[off]? = some (.own k sz' xs') → sz' = sz ∧ xs' = xs ∧ ∃ c, H c = .mem id ∧ w.cell? ⟨c, off, none⟩ = some v
  | .agg cs, v => ∃ vs : List Value, v = .agg vs.toArray ∧ All2 (fun c u => (∀ k sz xs, c = .own k sz xs → k = 0 ∨ s.seen k = true) ∧ VT1 d H s.live c u) cs vs
  | .mref t off len _ _, v => s.seen t = true ∧ ((s.lc t).isSome = true → ∃ c cap a, lam (3 * t) = some c ∧ v = .slice a len cap ∧ len ≤ cap ∧ (0 < len → a = some ⟨c, off, none⟩))
  | .omap t, v => s.seen t = true ∧ ((s.mp t).isSome = true → ∃ c, lam (3 * t + 1) = some c ∧ v = .map (some c))
  | .sit t, v => s.seen t = true ∧ ((s.it t).isSome = true → ∃ c, lam (3 * t + 2) = some c ∧ v = .pointer (some ⟨c, 0, none⟩))

/-- A cell of the memory. -/
def VM1 (H : Hp) (m : AMem) : T → Value → Prop
  | .v x, v => v.oneCell' = true ∧ V H x v
  | .own k sz xs, v => V H (.sl sz xs) v ∧ (k = 0 → Full xs.length v) ∧ (k ≠ 0 → k < m.next ∧ Roomy H (.mv k) sz xs.length v)
  | _, _ => False

/-- The world bears what the abstract memory says; nothing that lay there at first has turned. -/
structure WOk (w0 : World) (H : Hp) (m : AMem) (w : World) : Prop where
  below : Below w0.heap.size w0 w
  free : ∀ c, w.heap.size ≤ c → H c = .free
  froz : ∀ c f r, H c = .froz f r → ∃ arr e fr, w.heap[c]? = some (.cells arr e fr) ∧ (∀ i v, f i = some v → arr[i]? = some v) ∧
    ∀ q, r = some q → w0.heap.size ≤ c ∧ q.to_ ≤ arr.size ∧ (∀ i v, f i = some v → i < q.from_) ∧ (∀ i, q.from_ ≤ i → i < arr.size → ¬ (fr.1 ≤ i ∧ i < fr.2))
  mem : ∀ id cs, m.blk id = some cs → ∃ c arr e, H c = .mem id ∧ w.heap[c]? = some (.cells arr e (0, 0)) ∧ w0.heap.size ≤ c ∧ All2 (VM1 H m) cs arr.toList
  memU : ∀ c c' id, H c = .mem id → H c' = .mem id → c = c'
  memN : ∀ c id, H c = .mem id → id < m.next
  fmap : ∀ c ks vs, H c = .fmap ks vs → ∃ es clk, w.heap[c]? = some (.map es clk) ∧ es.toList.map (·.key) = ks ∧ es.toList.map (·.val) = vs
  next : 0 < m.next
  mvU : ∀ (id off : Nat) (cs : List T) (id' off' : Nat) (cs' : List T) (k sz : Nat) (xs : List AV) (sz' : Nat) (xs' : List AV), m.blk id = some cs → cs[off]? = some (T.own k sz xs) → m.blk id' = some cs' → cs'[off']? = some (T.own k sz' xs') → k ≠ 0 → id = id' ∧ off = off'
  memT : ∀ c id, H c = .mem id → ∀ arr e fr, w.heap[c]? = some (.cells arr e fr) → e = m.ty id
  rowT : ∀ c f (q : Room), H c = .froz f (some q) → q.l.el ≠ 0 → ∀ arr e fr, w.heap[c]? = some (.cells arr e fr) → e = q.l.el

/-- A frame of depth d; its own blocks are numbered N and above. -/
structure Fr (nt N d : Nat) (s : St) (m : AMem) (H : Hp) (lam : Nat → Option Nat) (a : Act) (w : World) : Prop where
  size : a.tmps.size = nt
  tm : ∀ t, VT d H m w lam s (s.tm t) (a.tmps.getD t undef)
  lc : ∀ t cs, s.lc t = some cs → s.seen t = true ∧ ∃ c arr e, lam (3 * t) = some c ∧ H c = .priv ∧ N ≤ c ∧ w.heap[c]? = some (.cells arr e (0, 0)) ∧
    All2 (fun c u => (∀ k sz xs, c = .own k sz xs → k = 0 ∨ s.seen k = true) ∧ VT1 d H s.live c u) cs arr.toList
  mp : ∀ t es, s.mp t = some es → s.seen t = true ∧ ∃ c ents clk, lam (3 * t + 1) = some c ∧ H c = .priv ∧ N ≤ c ∧ w.heap[c]? = some (.map ents clk) ∧
    All2 (fun p (q : MapEntry) => V H p.1 q.key ∧ V H p.2 q.val) es ents.toList
  it : ∀ t l p, s.it t = some (l, p) → s.seen t = true ∧ ∃ c, lam (3 * t + 2) = some c ∧ H c = .priv ∧ N ≤ c ∧ w.heap[c]? = some (.stringIter ⟨l.toArray⟩ p)
  inj : ∀ i j c, lam i = some c → lam j = some c → i = j
  lamN : ∀ i c, lam i = some c → c < w.heap.size
  df : All2 (fun x (q : Deferred) => ∃ f cap, x = .fn f cap ∧ ∃ vs : List Value, q = { target := .fn (.func f) vs.toArray, args := #[] } ∧ VL H cap vs) s.df a.defers
  live : ∀ k, s.live k = true → s.seen k = true

/-- What a run may turn: the own blocks below N stay, and so do the rows that lower frames append to. -/
structure Ext (d N : Nat) (H : Hp) (m : AMem) (w : World) (H' : Hp) (m' : AMem) (w' : World) : Prop where
  hle : HLe H H'
  priv : ∀ c, H c = .priv → c < N → H' c = .priv ∧ w'.heap[c]? = w.heap[c]?
  room : ∀ c f d' k x y, H c = .froz f (some ⟨.tok d' k, x, y⟩) → d' < d → H' c = H c ∧ w'.heap[c]? = w.heap[c]?
  next : m.next ≤ m'.next
  mv : ∀ id off cs k sz xs, m'.blk id = some cs → cs[off]? = some (.own k sz xs) → k ≠ 0 → k < m.next →
    (∃ cs0, m.blk id = some cs0 ∧ cs0[off]? = some (.own k sz xs)) ∧ ∀ c, H c = .mem id → w'.cell? ⟨c, off, none⟩ = w.cell? ⟨c, off, none⟩
  memO : ∀ c id, H' c = .mem id → id < m.next → H c = .mem id
  size : w.heap.size ≤ w'.heap.size

theorem Ext.refl (d N : Nat) (H : Hp) (m : AMem) (w : World) : Ext d N H m w H m w :=
  ⟨HLe.refl H, fun _ h _ => ⟨h, rfl⟩, fun _ _ _ _ _ _ _ _ => ⟨rfl, rfl⟩, Nat.le_refl _, fun id off cs k sz xs h1 h2 _ _ => ⟨⟨cs, h1, h2⟩, fun _ _ => rfl⟩, fun _ _ h _ => h, Nat.le_refl _⟩

theorem Ext.trans {d N : Nat} {H0 H1 H2 : Hp} {m0 m1 m2 : AMem} {w0 w1 w2 : World} (h : Ext d N H0 m0 w0 H1 m1 w1) (k : Ext d N H1 m1 w1 H2 m2 w2) : Ext d N H0 m0 w0 H2 m2 w2 where
  hle := h.hle.trans k.hle
  priv c hc hN := by
    obtain ⟨h1, h2⟩ := h.priv c hc hN
    obtain ⟨h3, h4⟩ := k.priv c h1 hN
    exact ⟨h3, h4.trans h2⟩
  room c f d' q x y hc hd := by
    obtain ⟨h1, h2⟩ := h.room c f d' q x y hc hd
    obtain ⟨h3, h4⟩ := k.room c f d' q x y (h1.trans hc) hd
    exact ⟨h3.trans h1, h4.trans h2⟩
  next := Nat.le_trans h.next k.next
  mv id off cs q sz xs h1 h2 h3 h4 := by
    obtain ⟨⟨cs1, h6, h7⟩, h8⟩ := k.mv id off cs q sz xs h1 h2 h3 (Nat.lt_of_lt_of_le h4 h.next)
    obtain ⟨h9, h10⟩ := h.mv id off cs1 q sz xs h6 h7 h3 h4
    exact ⟨h9, fun c hc => (h8 c (h.hle.mem c id hc)).trans (h10 c hc)⟩
  memO c id hc hi := h.memO c id (k.memO c id hc (Nat.lt_of_lt_of_le hi h.next)) hi
  size := Nat.le_trans h.size k.size

theorem Ext.weaken {d d' N N' : Nat} {H0 H1 : Hp} {m0 m1 : AMem} {w0 w1 : World} (h : Ext d N H0 m0 w0 H1 m1 w1) (hd : d' ≤ d) (hN : N' ≤ N) : Ext d' N' H0 m0 w0 H1 m1 w1 :=
  { h with priv := fun c hc hn => h.priv c hc (Nat.lt_of_lt_of_le hn hN), room := fun c f e k x y hc he => h.room c f e k x y hc (Nat.lt_of_lt_of_le he hd) }

theorem Roomy.ext {d N : Nat} {H H' : Hp} {m m' : AMem} {w w' : World} (x : Ext (d + 1) N H m w H' m' w') {k sz n : Nat} {v : Value} (h : Roomy H (.tok d k) sz n v) : Roomy H' (.tok d k) sz n v := by
  obtain ⟨a, cap, e, h⟩ := h
  refine ⟨a, cap, e, h.imp id ?_⟩
  rintro ⟨c, o, f, ea, hs, hc⟩
  exact ⟨c, o, f, ea, hs, ((x.room c f d k _ _ hc (Nat.lt_succ_self d)).1).trans hc⟩

theorem VT1.ext {d N : Nat} {H H' : Hp} {m m' : AMem} {w w' : World} (x : Ext (d + 1) N H m w H' m' w') {live : Nat → Bool} : ∀ {t : T} {v : Value}, VT1 d H live t v → VT1 d H' live t v
  | .v y, v, ⟨h1, h2⟩ => ⟨h1, V_mono x.hle y v h2⟩
  | .own k sz xs, v, ⟨h1, h2, h3⟩ => ⟨V_mono x.hle _ v h1, h2, fun hk hl => (h3 hk hl).ext x⟩
  | .undef, v, h => h.elim
  | .any, v, h => h.elim
  | .reg _ _, v, h => h.elim
  | .ea _ _ _ _, v, h => h.elim
  | .ld _ _ _ _ _, v, h => h.elim
  | .agg _, v, h => h.elim
  | .mref _ _ _ _ _, v, h => h.elim
  | .omap _, v, h => h.elim
  | .sit _, v, h => h.elim

theorem VT.ext {d N : Nat} {H H' : Hp} {m m' : AMem} {w w' : World} (x : Ext (d + 1) N H m w H' m' w') {lam : Nat → Option Nat} {s : St} : ∀ {t : T} {v : Value}, VT d H m w lam s t v → VT d H' m' w' lam s t v
  | .v y, v, h => V_mono x.hle y v h
  | .own k sz xs, v, ⟨h0, h1, h2, h3⟩ => ⟨h0, V_mono x.hle _ v h1, h2, fun hk hl => (h3 hk hl).ext x⟩
  | .undef, v, h => h
  | .any, v, h => h
  | .reg _ _, v, h => h
  | .ea sz xs i off, v, ⟨c, o, f, r, e, hc, hE⟩ => by
    obtain ⟨f', r', h1, h2⟩ := x.hle.froz c f r hc
    exact ⟨c, o, f', r', e, h1, VE_mono x.hle h2 sz xs o hE⟩
  | .ld id off k sz xs, v, ⟨h1, h2, h3, h4⟩ => by
    refine ⟨V_mono x.hle _ v h1, h2, Nat.lt_of_lt_of_le h3 x.next, fun cs sz' xs' hb hc => ?_⟩
    obtain ⟨⟨cs0, h5, h6⟩, h7⟩ := x.mv id off cs k sz' xs' hb hc h2 h3
    obtain ⟨e1, e2, c, h8, h9⟩ := h4 cs0 sz' xs' h5 h6
    exact ⟨e1, e2, c, x.hle.mem c id h8, (h7 c h8).trans h9⟩
  | .agg cs, v, ⟨vs, e, h⟩ => ⟨vs, e, h.mono fun a b _ hab => ⟨hab.1, VT1.ext x hab.2⟩⟩
  | .mref _ _ _ _ _, v, h => h
  | .omap _, v, h => h
  | .sit _, v, h => h

/-- A frame lives on while a call (of a higher depth), or a step that leaves its blocks alone, goes on. -/
theorem Fr.ext {nt d N N' : Nat} {s : St} {m m' : AMem} {H H' : Hp} {lam : Nat → Option Nat} {a : Act} {w w' : World} (h : Fr nt N d s m H lam a w) (x : Ext (d + 1) N' H m w H' m' w') (hN : w.heap.size ≤ N') : Fr nt N d s m' H' lam a w' where
  size := h.size
  tm t := (h.tm t).ext x
  lc t cs hc := by
    obtain ⟨h0, c, arr, e, h1, h2, h3, h4, h5⟩ := h.lc t cs hc
    obtain ⟨h6, h7⟩ := x.priv c h2 (Nat.lt_of_lt_of_le (h.lamN _ _ h1) hN)
    exact ⟨h0, c, arr, e, h1, h6, h3, h7.trans h4, h5.mono fun _ _ _ hab => ⟨hab.1, hab.2.ext x⟩⟩
  mp t es hc := by
    obtain ⟨h0, c, ents, clk, h1, h2, h3, h4, h5⟩ := h.mp t es hc
    obtain ⟨h6, h7⟩ := x.priv c h2 (Nat.lt_of_lt_of_le (h.lamN _ _ h1) hN)
    exact ⟨h0, c, ents, clk, h1, h6, h3, h7.trans h4, h5.mono fun _ _ _ hab => ⟨V_mono x.hle _ _ hab.1, V_mono x.hle _ _ hab.2⟩⟩
  it t l p hc := by
    obtain ⟨h0, c, h1, h2, h3, h4⟩ := h.it t l p hc
    obtain ⟨h6, h7⟩ := x.priv c h2 (Nat.lt_of_lt_of_le (h.lamN _ _ h1) hN)
    exact ⟨h0, c, h1, h6, h3, h7.trans h4⟩
  inj := h.inj
  lamN i c hc := Nat.lt_of_lt_of_le (h.lamN i c hc) x.size
  df := h.df.mono fun _ _ _ ⟨f, cap, e, vs, e2, hv⟩ => ⟨f, cap, e, vs, e2, VL_mono x.hle cap vs hv⟩
  live := h.live

theorem beq_ne {j k : Nat} (h : j ≠ k) : Nat.beq j k = false := by
  cases hb : Nat.beq j k with
  | false => rfl
  | true => exact absurd (Nat.eq_of_beq_eq_true hb) h
theorem upd_same {α : Type} (f : Nat → α) (k : Nat) (x : α) : upd f k x k = x := by simp [upd]
theorem upd_ne {α : Type} (f : Nat → α) {j k : Nat} (x : α) (h : j ≠ k) : upd f k x j = f j := by simp [upd, beq_ne h]

/-- A new value in a temporary; nothing else turns. -/
theorem Fr.put {nt d N : Nat} {s : St} {m : AMem} {H : Hp} {lam : Nat → Option Nat} {a : Act} {w : World} (h : Fr nt N d s m H lam a w) {dst : Option Tmp} {x : T} {v : Value} (hv : VT d H m w lam s x v) (hd : dstOk nt dst = true) :
    Fr nt N d { s with tm := putT s.tm dst x } m H lam (a.put dst v) w := by
  cases dst with
  | none => exact h
  | some k =>
    have hs : ∀ {t : T} {v : Value}, VT d H m w lam s t v → VT d H m w lam { s with tm := upd s.tm k x } t v := by
      intro t v hv; cases t <;> exact hv
    refine { h with size := by simpa [Act.put] using h.size, tm := fun t => hs ?_ }
    have hk : k < a.tmps.size := by rw [h.size]; simpa [dstOk] using hd
    by_cases e : t = k
    · subst e
      show VT d H m w lam s (upd s.tm t x t) _
      rw [upd_same]
      simpa [Act.put, Array.getD_eq_getD_getElem?, hk] using hv
    · show VT d H m w lam s (upd s.tm k x t) _
      rw [upd_ne _ _ e]
      simp only [Act.put, Array.getD_eq_getD_getElem?, Array.getElem?_setIfInBounds]
      rw [if_neg (fun e' => e e'.symm)]
      simpa [Array.getD_eq_getD_getElem?] using h.tm t

end Go.Ax
/- Ax: operations that only compute: what they answer in the model. -/
set_option linter.unusedVariables false
set_option linter.unusedSimpArgs false
namespace Go.Ax
open Go.RowKit

/-- A zero cell. -/
def Zr : T → Value → Prop
  | .v (.int k n), v => v = .int k n
  | .v (.bool b), v => v = .bool b
  | .v (.str []), v => v = .string ⟨#[]⟩
  | .v .nilp, v => v = .pointer none
  | .v .nilf, v => v = .nilFunc
  | .v .nili, v => v = .nilIface
  | .v (.mp [] []), v => v = .map none
  | .own 0 _ [], v => v = .slice none 0 0
  | _, _ => False

/-- What the machine is told of a type is so. -/
structure TyOk (P : Program) (t : Nat) (i : TI) : Prop where
  und : match i.k with
    | .int k => P.underlying t = some (.int k)
    | .bool => P.underlying t = some .bool
    | .str => P.underlying t = some .string
    | .slice e => P.underlying t = some (.slice e)
    | .struct fs => ∃ F : Array Field, P.underlying t = some (.struct F) ∧ F.toList.map (fun f => (f.offset, f.type)) = fs
    | .array n e => P.underlying t = some (.array n e)
    | .ptr e => P.underlying t = some (.pointer e)
    | .map k e => P.underlying t = some (.map k e)
    | .func => ∃ ps rs v, P.underlying t = some (.func ps rs v)
    | _ => ∃ D, P.underlying t = some D ∧ ∀ F n e, D ≠ .struct F ∧ D ≠ .array n e
  info : ∃ x, P.info? t = some x ∧ x.size = i.sz ∧ x.bytes = i.by_ ∧ (i.zero.length = i.sz → ∃ z, x.zero = some z ∧ All2 Zr i.zero z.cells.toList ∧ (i.isAgg = true → ∃ arr, z = .agg arr) ∧ (i.isAgg = false → z.oneCell' = true))

variable {P : Program} {ti : Nat → TI}

structure TysOk (P : Program) (ti : Nat → TI) : Prop where
  ok : ∀ t, (ti t).ok = true → TyOk P t (ti t)
  sub : ∀ t, ∀ e ∈ subs (ti t).k, (ti e).ok = true

theorem ok_of {t : Nat} {k : TK} (hk : (ti t).k = k) (h : k ≠ .other) : (ti t).ok = true := by
  unfold TI.ok; rw [hk]; cases k <;> simp_all

theorem run_isAgg {t : Nat} (h : TyOk P t (ti t)) (w : World) : (isAgg t).run P w = .ok (ti t).isAgg w := by
  have hu := h.und
  unfold isAgg TI.isAgg
  cases hk : (ti t).k <;> simp only [hk] at hu ⊢
  case struct fs => obtain ⟨F, hF, _⟩ := hu; simp [run_underlying hF]
  case func => obtain ⟨a, b, c, hF⟩ := hu; simp [run_underlying hF]
  case iface => obtain ⟨D, hF, hD⟩ := hu; simp only [Sem.run_bind, run_underlying hF, Result.andThen_ok]; cases D <;> simp_all
  case tuple => obtain ⟨D, hF, hD⟩ := hu; simp only [Sem.run_bind, run_underlying hF, Result.andThen_ok]; cases D <;> simp_all
  case other => obtain ⟨D, hF, hD⟩ := hu; simp only [Sem.run_bind, run_underlying hF, Result.andThen_ok]; cases D <;> simp_all
  all_goals simp [run_underlying hu]

theorem run_typeInfo {t : Nat} {x : TypeInfo} (h : P.info? t = some x) (w : World) : (typeInfo t).run P w = .ok x w := by
  simp [typeInfo, h]

theorem run_sizeOf {t : Nat} (h : TyOk P t (ti t)) (w : World) : (sizeOf t).run P w = .ok (ti t).sz w := by
  obtain ⟨x, hx, hs, _⟩ := h.info
  simp [sizeOf, run_typeInfo hx, hs]

theorem VT1_zero {d : Nat} {H : Hp} {live : Nat → Bool} {t : T} {v : Value} (h : Zr t v) : VT1 d H live t v ∧ (∀ m, VM1 H m t v) ∧ (∀ k sz xs, t = .own k sz xs → k = 0) := by
  match t, h with
  | .v (.int k n), h => subst h; simp [VT1, VM1, V, Value.oneCell']
  | .v (.bool b), h => subst h; simp [VT1, VM1, V, Value.oneCell']
  | .v (.str []), h => subst h; simp [VT1, VM1, V, Value.oneCell']
  | .v .nilp, h => subst h; simp [VT1, VM1, V, Value.oneCell']
  | .v .nilf, h => subst h; simp [VT1, VM1, V, Value.oneCell']
  | .v .nili, h => subst h; simp [VT1, VM1, V, Value.oneCell']
  | .v (.mp [] []), h => subst h; simp [VT1, VM1, V, Value.oneCell']
  | .own 0 sz [], h => subst h; exact ⟨by simp [VT1, V, Full], by simp [VM1, V, Full], fun k sz xs e => by injection e with e1 _ _; exact e1.symm⟩

theorem lit_ok {c : Value} {x : T} (h : lit c = some x) {d : Nat} {H : Hp} {m : AMem} {w : World} {lam : Nat → Option Nat} {s : St} : VT d H m w lam s x c := by
  unfold lit at h
  split at h <;> (try (injection h with h)) <;> (try subst h) <;> simp_all [VT, V, Full]

theorem ev_ok {nt N d : Nat} {s : St} {m : AMem} {H : Hp} {lam : Nat → Option Nat} {a : Act} {w : World} (h : Fr nt N d s m H lam a w) {x : Operand} {y : T} (hx : s.ev x = some y) : VT d H m w lam s y (a.eval x) := by
  cases x with
  | tmp t => simp only [St.ev, Option.some.injEq] at hx; subst hx; exact h.tm t
  | const c => exact lit_ok hx
  | global g => simp [St.ev] at hx
  | func f => simp only [St.ev, Option.some.injEq] at hx; subst hx; exact ⟨[], by simp [Act.eval], rfl⟩

theorem avs_ok {d : Nat} {H : Hp} {live : Nat → Bool} : ∀ {cs : List T} {vs : List Value} {xs : List AV}, T.av.avs cs = some xs → All2 (VT1 d H live) cs vs → VC H xs vs
  | [], [], xs, h, _ => by simp [T.av.avs] at h; subst h; rfl
  | [], _ :: _, _, _, hf => hf.elim
  | _ :: _, [], _, _, hf => hf.elim
  | c :: cs, v :: vs, xs, h, ⟨h1, h2⟩ => by
    cases c <;> simp only [T.av.avs, Option.map_eq_some_iff, reduceCtorEq] at h
    case v x => obtain ⟨ys, hy, rfl⟩ := h; exact ⟨v, vs, rfl, h1.1, h1.2, avs_ok hy h2⟩
    case own k sz ys0 =>
      obtain ⟨ys, hy, rfl⟩ := h
      obtain ⟨hv, _⟩ := h1
      have ho : v.oneCell' = true := by obtain ⟨a, cap, rfl, _⟩ := hv; rfl
      exact ⟨v, vs, rfl, ho, hv, avs_ok hy h2⟩
    case ld => exact h1.elim

theorem av_ok {d : Nat} {H : Hp} {m : AMem} {w : World} {lam : Nat → Option Nat} {s : St} {x : T} {v : Value} {y : AV} (h : x.av = some y) (hv : VT d H m w lam s x v) : V H y v := by
  cases x <;> simp only [T.av, Option.some.injEq, Option.map_eq_some_iff, reduceCtorEq] at h
  case v x => subst h; exact hv
  case own k sz xs => subst h; exact hv.2.1
  case ld id off k sz xs => subst h; exact hv.1
  case agg cs =>
    obtain ⟨ys, hy, rfl⟩ := h
    obtain ⟨vs, e, ha⟩ := hv
    exact ⟨vs, e, avs_ok hy (ha.mono fun _ _ _ h => h.2)⟩

theorem put_val (s : St) (dst : Option Tmp) (x : T) : s.put dst { val := x } = { s with tm := putT s.tm dst x } := by
  simp [St.put, updL]

/-! ### numbers, texts, tests -/
theorem bits_eq (op : BinOp) (k : IntKind) (x y : Int) (z : AV) (h : aBits op k x y = some z) (H : Hp) (w : World) : ∃ r, (Op.intBits op k x y).run P w = .ok r w ∧ V H z r := by
  unfold aBits at h
  split at h <;> (first | (injection h with h; subst h; exact ⟨_, rfl, rfl⟩) | (simp at h))

theorem int_ok {H : Hp} {op : BinOp} {ty : Nat} {k k' : IntKind} {x y : Int} {z : AV} (h : aInt op k k' x y = some z) (w : World) :
    ∃ r, (binOp op ty (.int k x) (.int k' y)).run P w = .ok r w ∧ V H z r := by
  cases op
  case shl =>
    simp only [aInt] at h
    split at h
    · cases h
    · rename_i hy; injection h with h; subst h
      exact ⟨.int k (k.wrap (x * 2 ^ (min y.toNat k.bits))), by simp [binOp, Op.shift, hy], rfl⟩
  case shr =>
    simp only [aInt] at h
    split at h
    · cases h
    · rename_i hy; injection h with h; subst h
      exact ⟨.int k (x.fdiv (2 ^ (min y.toNat k.bits))), by simp [binOp, Op.shift, hy], rfl⟩
  case quo =>
    simp only [aInt] at h
    split at h
    · rename_i hk; subst hk
      split at h
      · cases h
      · rename_i hy; injection h with h; subst h
        exact ⟨.int k (k.wrap (x.tdiv y)), by simp [binOp, Op.intDiv, hy], rfl⟩
    · cases h
  case rem =>
    simp only [aInt] at h
    split at h
    · rename_i hk; subst hk
      split at h
      · cases h
      · rename_i hy; injection h with h; subst h
        exact ⟨.int k (x.tmod y), by simp [binOp, Op.intDiv, hy], rfl⟩
    · cases h
  case and | or | xor | andNot =>
    all_goals
      simp only [aInt] at h
      split at h
      · rename_i hk; subst hk
        obtain ⟨r, hr, hv⟩ := bits_eq (P := P) _ k x y z h H w
        exact ⟨r, by simpa [binOp] using hr, hv⟩
      · cases h
  case add => 
    simp only [aInt] at h
    split at h
    · rename_i hk; subst hk; injection h with h; subst h
      exact ⟨.int k (k.wrap (x + y)), by simp [binOp, Op.intArith], rfl⟩
    · cases h
  case sub => 
    simp only [aInt] at h
    split at h
    · rename_i hk; subst hk; injection h with h; subst h
      exact ⟨.int k (k.wrap (x - y)), by simp [binOp, Op.intArith], rfl⟩
    · cases h
  case mul => 
    simp only [aInt] at h
    split at h
    · rename_i hk; subst hk; injection h with h; subst h
      exact ⟨.int k (k.wrap (x * y)), by simp [binOp, Op.intArith], rfl⟩
    · cases h
  all_goals
    simp only [aInt] at h
    split at h
    · rename_i hk; subst hk; injection h with h; subst h
      refine ⟨_, ?_, rfl⟩
      simp [binOp, Op.intCmp]
    · cases h

theorem bl_toList (x : List UInt8) : (⟨x.toArray⟩ : ByteArray).toList = x := by
  rw [Lib.toList_data]

theorem str_ok {H : Hp} {op : BinOp} {ty : Nat} {x y : List UInt8} {z : AV} (h : aStr op x y = some z) (w : World) :
    ∃ r, (binOp op ty (.string ⟨x.toArray⟩) (.string ⟨y.toArray⟩)).run P w = .ok r w ∧ V H z r := by
  cases op
  case add =>
    simp only [aStr] at h
    split at h
    · rename_i hl; injection h with h; subst h
      refine ⟨.string (⟨x.toArray⟩ ++ ⟨y.toArray⟩), ?_, ?_⟩
      · have : ¬ (((x.length + y.length : Nat) : Int) > IntKind.i64.max) := by rw [IntKind.max_i64]; omega
        simp only [binOp, Op.stringOp, ByteArray.size, List.size_toArray]
        rw [if_neg this, Sem.run_pure]
      · exact congrArg Value.string (by apply ByteArray.ext; simp)
    · cases h
  all_goals
    simp only [aStr, Option.some.injEq, reduceCtorEq] at h
    try subst h
    try exact ⟨_, by simp only [binOp, Op.stringOp, bl_toList]; rfl, rfl⟩

theorem eq1_ok {H : Hp} {k : TK} {ty : Nat} {x y : AV} {b : Bool} {u v : Value} (hty : TyOk P ty (ti ty)) (hk : (ti ty).k = k) (h : aEq1 k x y = some b) (hu : V H x u) (hv : V H y v) (w : World) :
    (Op.equal ty u v).run P w = .ok b w := by
  have hun := hty.und
  rw [hk] at hun
  unfold aEq1 at h
  split at h <;> (try (injection h with h; subst h)) <;> (try cases h)
  · obtain rfl := hu; obtain rfl := hv
    show (Op.equalIn (9999 + 1) ty _ _).run P w = _
    rw [Op.equalIn]
    simp [run_underlying hun]
  · obtain rfl := hu; obtain rfl := hv
    show (Op.equalIn (9999 + 1) ty _ _).run P w = _
    rw [Op.equalIn]
    simp [run_underlying hun]
  · obtain rfl := hu; obtain ⟨c, rfl, _⟩ := hv
    show (Op.equalIn (9999 + 1) ty _ _).run P w = _
    rw [Op.equalIn]
    simp [run_underlying hun]
  · obtain rfl := hv; obtain ⟨c, rfl, _⟩ := hu
    show (Op.equalIn (9999 + 1) ty _ _).run P w = _
    rw [Op.equalIn]
    simp [run_underlying hun]
  · obtain ⟨p, r, q, hun⟩ := hun
    obtain rfl := hu; obtain rfl := hv
    show (Op.equalIn (9999 + 1) ty _ _).run P w = _
    rw [Op.equalIn]
    simp [run_underlying hun]
  · obtain ⟨p, r, q, hun⟩ := hun
    obtain rfl := hu; obtain ⟨c, rfl, _⟩ := hv
    show (Op.equalIn (9999 + 1) ty _ _).run P w = _
    rw [Op.equalIn]
    simp [run_underlying hun]
  · obtain ⟨p, r, q, hun⟩ := hun
    obtain rfl := hv; obtain ⟨c, rfl, _⟩ := hu
    show (Op.equalIn (9999 + 1) ty _ _).run P w = _
    rw [Op.equalIn]
    simp [run_underlying hun]

theorem guard_none (op : BinOp) (ty : Nat) (xo yo : Operand) {u v : Value} (h : ∀ cs, u ≠ .agg cs) (h' : u ≠ .nilIface) : eqGuard op ty xo yo u v = pure () := by
  cases u <;> first | (exact absurd rfl (h _)) | (exact absurd rfl h') | (cases op <;> rfl)

theorem bin_ok (hti : TysOk P ti) {H : Hp} {op : BinOp} {ty : Nat} {x y z : AV} {u v : Value} (h : aBin ti ty op x y = some z) (hna : ∀ cs, x ≠ .agg cs) (hu : V H x u) (hv : V H y v) (xo yo : Operand) (w : World) :
    ∃ r, (do eqGuard op ty xo yo u v; binOp op ty u v : Sem Value).run P w = .ok r w ∧ V H z r := by
  unfold aBin at h
  split at h
  · obtain rfl := hu; obtain rfl := hv
    rw [guard_none _ _ _ _ (by simp) (by simp)]
    simpa using int_ok h w
  · obtain rfl := hu; obtain rfl := hv
    rw [guard_none _ _ _ _ (by simp) (by simp)]
    simpa using str_ok h w
  · rename_i hx1 hx2
    have key : ∀ b, aEq ti ty x y = some b → (Op.equal ty u v).run P w = .ok b w ∧ (∀ cs, u ≠ .agg cs) ∧ u ≠ .nilIface ∧ (∀ k n, u ≠ .int k n) ∧ (∀ s, u ≠ .string s) ∧ (∀ k n, u ≠ .float k n) ∧ (∀ k n m, u ≠ .complex k n m) := by
      intro b hb
      unfold aEq at hb
      split at hb
      · exact absurd rfl (hna _)
      · refine ⟨eq1_ok (hti.ok ty (by unfold TI.ok; revert hb; cases (ti ty).k <;> simp [aEq1])) rfl hb hu hv w, ?_⟩
        unfold aEq1 at hb
        split at hb <;> (try cases hb) <;> first
          | (obtain rfl := hu; simp)
          | (obtain ⟨c, rfl, _⟩ := hu; simp)
    split at h
    · obtain ⟨b, hb, rfl⟩ := Option.map_eq_some_iff.1 h
      obtain ⟨h1, h2, h3, h4, h5, h6, h7⟩ := key b hb
      rw [guard_none _ _ _ _ h2 h3]
      refine ⟨.bool b, ?_, rfl⟩
      have : binOp .eql ty u v = (do pure (.bool (← Op.equal ty u v)) : Sem Value) := by
        unfold binOp
        cases u <;> simp_all
      simp [this, h1]
    · obtain ⟨b, hb, rfl⟩ := Option.map_eq_some_iff.1 h
      obtain ⟨h1, h2, h3, h4, h5, h6, h7⟩ := key b hb
      rw [guard_none _ _ _ _ h2 h3]
      refine ⟨.bool (!b), ?_, rfl⟩
      have : binOp .neq ty u v = (do pure (.bool (!(← Op.equal ty u v))) : Sem Value) := by
        unfold binOp
        cases u <;> simp_all
      simp [this, h1]
    · cases h

theorem un_ok {H : Hp} {op : UnOp} {x z : AV} {u : Value} (h : aUn op x = some z) (hu : V H x u) (w : World) : ∃ r, (Op.unary op u).run P w = .ok r w ∧ V H z r := by
  unfold aUn at h
  split at h
  · obtain rfl := hu
    split at h <;> simp at h; subst h
    exact ⟨_, rfl, rfl⟩
  · obtain rfl := hu
    split at h <;> simp only [Option.some.injEq, reduceCtorEq] at h
    · subst h; exact ⟨_, rfl, rfl⟩
    · subst h; exact ⟨_, rfl, rfl⟩
  · cases h

end Go.Ax
/- Ax: operations that read. -/
set_option linter.unusedVariables false
set_option linter.unusedSimpArgs false
namespace Go.Ax
open Go.RowKit
variable {P : Program} {ti : Nat → TI}

structure Quiet (e : Eff) : Prop where
  lw : e.lw = []
  pw : e.pw = []
  iw : e.iw = []
  mw : e.mw = none
  kill : e.kill = []
  new : e.new = []
  use : e.use = []
  df : e.df = []

theorem Quiet.put {e : Eff} (h : Quiet e) (s : St) (dst : Option Tmp) : s.put dst e = { s with tm := putT s.tm dst e.val } := by
  simp [St.put, h.lw, h.pw, h.iw, h.kill, h.new, h.use, h.df, updL]

theorem cell_block {w : World} {c : Nat} {arr : Array Value} {e : TypeId} {fr : Nat × Nat} (h : w.heap[c]? = some (.cells arr e fr)) (i : Nat) : w.cell? ⟨c, i, none⟩ = arr[i]? := by
  simp [World.cell?, h]

/-- Cells that lie one behind the other. -/
def CellsAt (w : World) (c o : Nat) (vs : List Value) : Prop := ∀ (j : Nat) u, vs[j]? = some u → w.cell? ⟨c, o + j, none⟩ = some u

theorem add_plain (c o n : Nat) : Addr.add ⟨c, o, none⟩ n = ⟨c, o + n, none⟩ := by
  unfold Addr.add; split <;> simp_all

theorem run_load_at {w : World} {a : Addr} {v : Value} (h : w.cell? a = some v) : (load a).run P w = .ok v w := by
  simp [load, Sem.run, h]

theorem run_loadCellsFrom {w : World} {c o : Nat} : ∀ (n i : Nat) (acc : Array Value) (vs : List Value), vs.length = n → CellsAt w c (o + i) vs →
    (loadCellsFrom ⟨c, o, none⟩ i n acc).run P w = .ok (acc ++ vs.toArray) w
  | 0, i, acc, vs, hn, _ => by
    obtain rfl := List.eq_nil_of_length_eq_zero hn
    simp [loadCellsFrom]
  | n + 1, i, acc, v :: vs, hn, h => by
    have h0 : w.cell? (Addr.add ⟨c, o, none⟩ i) = some v := by rw [add_plain]; exact h 0 v rfl
    have hr : CellsAt w c (o + (i + 1)) vs := fun j u hj => by
      have := h (j + 1) u (by simpa using hj)
      rwa [show o + i + (j + 1) = o + (i + 1) + j from by omega] at this
    have ih := run_loadCellsFrom n (i + 1) (acc.push v) vs (by simpa using hn) hr
    simp only [loadCellsFrom, Sem.run_bind, run_load_at h0, Result.andThen_ok, ih]
    simp

theorem run_loadCells {w : World} {c o : Nat} {vs : List Value} (h : CellsAt w c o vs) {n : Nat} (hn : vs.length = n) : (loadCells ⟨c, o, none⟩ n).run P w = .ok vs.toArray w := by
  have := run_loadCellsFrom (P := P) (w := w) (c := c) (o := o) n 0 #[] vs hn (by simpa using h)
  simpa [loadCells] using this

theorem take_drop_get {α : Type} {l : List α} {o n j : Nat} {u : α} (h : ((l.drop o).take n)[j]? = some u) : l[o + j]? = some u := by
  rw [List.getElem?_take] at h
  split at h
  · rwa [List.getElem?_drop] at h
  · cases h

theorem CellsAt.of_block {w : World} {c : Nat} {arr : Array Value} {e : TypeId} {fr : Nat × Nat} (h : w.heap[c]? = some (.cells arr e fr)) (o n : Nat) : CellsAt w c o ((arr.toList.drop o).take n) := by
  intro j u hj
  rw [cell_block h]
  simpa using take_drop_get hj

theorem run_loadVar_agg {w : World} {t c o : Nat} (ht : TyOk P t (ti t)) (ha : (ti t).isAgg = true) {vs : List Value} (h : CellsAt w c o vs) (hn : vs.length = (ti t).sz) : (loadVar t ⟨c, o, none⟩).run P w = .ok (.agg vs.toArray) w := by
  simp only [loadVar, Sem.run_bind, run_isAgg ht, Result.andThen_ok, ha, if_true, run_sizeOf ht, run_loadCells h hn, Sem.run_pure]

theorem run_loadVar_one {w : World} {t c o : Nat} (ht : TyOk P t (ti t)) (ha : (ti t).isAgg = false) {v : Value} (h : w.cell? ⟨c, o, none⟩ = some v) : (loadVar t ⟨c, o, none⟩).run P w = .ok v w := by
  simp only [loadVar, Sem.run_bind, run_isAgg ht, Result.andThen_ok, ha, Bool.false_eq_true, if_false, run_load_at h]

theorem VT1_VT {d : Nat} {H : Hp} {m : AMem} {w : World} {lam : Nat → Option Nat} {s : St} {x : T} {v : Value} (h0 : ∀ k sz xs, x = .own k sz xs → k = 0 ∨ s.seen k = true) (h : VT1 d H s.live x v) : VT d H m w lam s x v := by
  cases x <;> first | exact h.elim | exact h.2 | skip
  case own k sz xs => exact ⟨h0 k sz xs rfl, h⟩

theorem bnd_some {α : Type} {b : Bool} {x : Option α} {y : α} (h : bnd b x = some y) : b = true ∧ x = some y := by
  cases b <;> simp_all [bnd]

/-- A load out of a frame's variable. -/
theorem load_reg {nt N d : Nat} {s : St} {m : AMem} {H : Hp} {lam : Nat → Option Nat} {a : Act} {w : World} (hf : Fr nt N d s m H lam a w) (hti : TysOk P ti) {ty t off : Nat} (hg : (ti ty).ok = true) {cs : List T} {y : T} {p : Value}
    (hp : VT d H m w lam s (.reg t off) p) (hc : s.lc t = some cs) (hy : loadT (ti ty) cs off = some y) : ∃ v, (Instr.loadAt ty p).run P w = .ok v w ∧ VT d H m w lam s y v := by
  obtain ⟨h0, c, arr, e, h1, h2, h3, h4, h5⟩ := hf.lc t cs hc
  obtain ⟨c', h6, rfl⟩ := hp.2 (by rw [hc]; rfl)
  obtain rfl : c = c' := by rw [h1] at h6; exact Option.some.inj h6
  unfold loadT at hy
  cases ha : (ti ty).isAgg with
  | true =>
    simp only [ha] at hy
    obtain ⟨hb, hy⟩ := bnd_some hy
    injection hy with hy; subst hy
    have hl := h5.length
    have hle : off + (ti ty).sz ≤ cs.length := by simpa using hb
    have hn : ((arr.toList.drop off).take (ti ty).sz).length = (ti ty).sz := by simp at hl ⊢; omega
    refine ⟨_, by simp only [Instr.loadAt, Instr.sureAddr, Sem.run_bind, Sem.run_pure, Result.andThen_ok]; exact run_loadVar_agg (hti.ok ty hg) ha (CellsAt.of_block h4 off _) hn, _, rfl, (h5.drop off).take _⟩
  | false =>
    simp only [ha] at hy
    obtain ⟨v, hv, h7, h8⟩ := h5.get off y hy
    refine ⟨v, ?_, VT1_VT h7 h8⟩
    simp only [Instr.loadAt, Instr.sureAddr, Sem.run_bind, Sem.run_pure, Result.andThen_ok]
    exact run_loadVar_one (hti.ok ty hg) ha (by rw [cell_block h4]; simpa using hv)

/-- A memory block of a name. -/
theorem WOk.blk {w0 : World} {H : Hp} {m : AMem} {w : World} (hw : WOk w0 H m w) {id : Nat} {cs : List T} (h : m.blk id = some cs) {c : Nat} (hc : H c = .mem id) : ∃ arr e, w.heap[c]? = some (.cells arr e (0, 0)) ∧ w0.heap.size ≤ c ∧ All2 (VM1 H m) cs arr.toList := by
  obtain ⟨c', arr, e, h1, h2, h3, h4⟩ := hw.mem id cs h
  obtain rfl := hw.memU c c' id hc h1
  exact ⟨arr, e, h2, h3, h4⟩

theorem VM1_down {d : Nat} {H : Hp} {m : AMem} {live : Nat → Bool} {x : T} {v : Value} (h : VM1 H m x v) : (∀ k sz xs, down x = .own k sz xs → k = 0) ∧ VT1 d H live (down x) v := by
  cases x <;> first | exact h.elim | skip
  case v x => exact ⟨fun k sz xs e => by simp [down] at e, h⟩
  case own k sz xs =>
    obtain ⟨h1, h2, h3⟩ := h
    have ho : v.oneCell' = true := by obtain ⟨a, cap, rfl, _⟩ := h1; rfl
    cases k with
    | zero => exact ⟨fun k sz xs e => by simp [down] at e; exact e.1.symm, h1, fun _ => h2 rfl, fun hk => absurd rfl hk⟩
    | succ k => exact ⟨fun k sz xs e => by simp [down] at e, ho, h1⟩

theorem all_down {d : Nat} {s : St} {m : AMem} {H : Hp} : ∀ {cs : List T} {l : List Value}, All2 (VM1 H m) cs l → All2 (fun c u => (∀ k sz xs, c = .own k sz xs → k = 0 ∨ s.seen k = true) ∧ VT1 d H s.live c u) (cs.map down) l
  | [], [], _ => trivial
  | [], _ :: _, h => h.elim
  | _ :: _, [], h => h.elim
  | x :: cs, v :: l, ⟨h1, h2⟩ => by
    obtain ⟨q1, q2⟩ := VM1_down (d := d) (live := s.live) h1
    exact ⟨⟨fun k sz xs e => .inl (q1 k sz xs e), q2⟩, all_down h2⟩

theorem load_mem {nt N d : Nat} {s : St} {m : AMem} {H : Hp} {lam : Nat → Option Nat} {a : Act} {w w0 : World} (hw : WOk w0 H m w) (hti : TysOk P ti) {ty id off : Nat} (hg : (ti ty).ok = true) {cs : List T} {p : Value}
    (hp : V H (.ptr id off) p) (hc : m.blk id = some cs) : 
    (∀ y, (ti ty).isAgg = true → loadT (ti ty) (cs.map down) off = some y → ∃ v, (Instr.loadAt ty p).run P w = .ok v w ∧ VT d H m w lam s y v) ∧
    (∀ y, (ti ty).isAgg = false → cs[off]? = some y → ∃ v, (Instr.loadAt ty p).run P w = .ok v w ∧ VT d H m w lam s (ldT id off y) v) := by
  obtain ⟨c, rfl, hm⟩ := hp
  obtain ⟨arr, e, h4, h3, h5⟩ := hw.blk hc hm
  constructor
  · intro y ha hy
    unfold loadT at hy
    simp only [ha] at hy
    obtain ⟨hb, hy⟩ := bnd_some hy
    injection hy with hy; subst hy
    have hl := h5.length
    have hle : off + (ti ty).sz ≤ cs.length := by simpa using hb
    have hn : ((arr.toList.drop off).take (ti ty).sz).length = (ti ty).sz := by simp at hl ⊢; omega
    refine ⟨_, by simp only [Instr.loadAt, Instr.sureAddr, Sem.run_bind, Sem.run_pure, Result.andThen_ok]; exact run_loadVar_agg (hti.ok ty hg) ha (CellsAt.of_block h4 off _) hn, _, rfl, ?_⟩
    have h6 := all_down (d := d) (s := s) h5
    exact (h6.drop off).take _
  · intro y ha hy
    obtain ⟨v, hv, h8⟩ := h5.get off y hy
    have hcell : w.cell? ⟨c, off, none⟩ = some v := by rw [cell_block h4]; simpa using hv
    refine ⟨v, ?_, ?_⟩
    · simp only [Instr.loadAt, Instr.sureAddr, Sem.run_bind, Sem.run_pure, Result.andThen_ok]
      exact run_loadVar_one (hti.ok ty hg) ha hcell
    · cases y <;> first | exact h8.elim | skip
      case v x => exact h8.2
      case own k sz xs =>
        obtain ⟨q1, q2, q3⟩ := h8
        cases k with
        | zero => exact ⟨.inl rfl, q1, fun _ => q2 rfl, fun hk => absurd rfl hk⟩
        | succ k =>
          refine ⟨q1, by simp, (q3 (by simp)).1, fun cs' sz' xs' hb' hc' => ?_⟩
          rw [hc] at hb'; injection hb' with hb'; subst hb'
          rw [hy] at hc'; injection hc' with hc'; injection hc' with _ e2 e3
          exact ⟨e2.symm, e3.symm, c, hm, hcell⟩

theorem VE_get {H : Hp} {f : Nat → Option Value} {sz : Nat} : ∀ {xs : List AV} {o : Nat}, VE H f sz xs o → ∀ (i : Nat) x, xs[i]? = some x → ∃ v, V H x v ∧ v.cells.size = sz ∧ ∀ j u, v.cells[j]? = some u → u.oneCell' = true ∧ f (o + i * sz + j) = some u
  | [], o, _, i, x, h => by simp at h
  | y :: xs, o, ⟨h1, h2⟩, 0, x, h => by simp at h; subst h; simpa using h1
  | y :: xs, o, ⟨h1, h2⟩, i + 1, x, h => by
    obtain ⟨v, q1, q2, q3⟩ := VE_get h2 i x (by simpa using h)
    refine ⟨v, q1, q2, fun j u hj => ?_⟩
    have := q3 j u hj
    rwa [show o + sz + i * sz + j = o + (i + 1) * sz + j from by rw [Nat.succ_mul]; omega] at this

/-- An element's cells and its value's. -/
theorem cells_of {H : Hp} {x : AV} {v : Value} (h : V H x v) (h1 : ∀ (j : Nat) (u : Value), v.cells[j]? = some u → u.oneCell' = true) : VC H x.cells v.cells.toList := by
  cases x <;> simp only [AV.cells]
  case agg cs => obtain ⟨vs, rfl, hc⟩ := h; simpa [Value.cells] using hc
  case bool | int | str | nilp | nilf | nili =>
    all_goals
      obtain rfl := h
      exact ⟨_, [], rfl, rfl, rfl, rfl⟩
  case sl sz xs => obtain ⟨a, cap, rfl, h⟩ := h; exact ⟨_, [], rfl, rfl, ⟨a, cap, rfl, h⟩, rfl⟩
  case ptr => obtain ⟨c, rfl, h⟩ := h; exact ⟨_, [], rfl, rfl, ⟨c, rfl, h⟩, rfl⟩
  case fn => obtain ⟨c, rfl, h⟩ := h; exact ⟨_, [], rfl, rfl, ⟨c, rfl, h⟩, rfl⟩
  case mp =>
    rcases h with ⟨rfl, h⟩ | ⟨c, us, ws, rfl, h⟩
    · exact ⟨_, [], rfl, rfl, .inl ⟨rfl, h⟩, rfl⟩
    · exact ⟨_, [], rfl, rfl, .inr ⟨c, us, ws, rfl, h⟩, rfl⟩
  case tup vs =>
    obtain ⟨us, rfl, h⟩ := h
    have := h1 0 (.tuple us.toArray) (by simp [Value.cells])
    simp [Value.oneCell'] at this

theorem load_ea {d : Nat} {s : St} {m : AMem} {H : Hp} {lam : Nat → Option Nat} {w w0 : World} (hw : WOk w0 H m w) (hti : TysOk P ti) {ty sz i off : Nat} (hg : (ti ty).ok = true) {xs : List AV} {x : AV} {p : Value}
    (hp : VT d H m w lam s (.ea sz xs i off) p) (hx : xs[i]? = some x) :
    ((ti ty).isAgg = true → off + (ti ty).sz ≤ x.cells.length → ∃ v, (Instr.loadAt ty p).run P w = .ok v w ∧ V H (.agg ((x.cells.drop off).take (ti ty).sz)) v) ∧
    (∀ y, (ti ty).isAgg = false → x.cells[off]? = some y → ∃ v, (Instr.loadAt ty p).run P w = .ok v w ∧ V H y v) := by
  obtain ⟨c, o, f, r, rfl, hc, hE⟩ := hp
  obtain ⟨u, q1, q2, q3⟩ := VE_get hE i x hx
  obtain ⟨arr, e, fr, h1, h2, _⟩ := hw.froz c f r hc
  have hC := cells_of q1 (fun j u hj => (q3 j u hj).1)
  have hcell : ∀ j y, u.cells.toList[j]? = some y → w.cell? ⟨c, o + i * sz + j, none⟩ = some y := by
    intro j y hj
    rw [cell_block h1]
    exact h2 _ _ (q3 j y (by simpa using hj)).2
  have hA := VC_iff.1 hC
  constructor
  · intro ha hl
    have hlen := hA.length
    refine ⟨.agg ((u.cells.toList.drop off).take (ti ty).sz).toArray, ?_, _, rfl, VC_iff.2 ((hA.drop off).take _)⟩
    simp only [Instr.loadAt, Instr.sureAddr, Sem.run_bind, Sem.run_pure, Result.andThen_ok]
    refine run_loadVar_agg (hti.ok ty hg) ha (fun j y hj => ?_) (by simp at hlen ⊢; omega)
    rw [show o + i * sz + off + j = o + i * sz + (off + j) from by omega]
    exact hcell _ _ (take_drop_get hj)
  · intro y ha hy
    obtain ⟨v, hv, h8⟩ := hA.get off y hy
    refine ⟨v, ?_, h8.2⟩
    simp only [Instr.loadAt, Instr.sureAddr, Sem.run_bind, Sem.run_pure, Result.andThen_ok]
    exact run_loadVar_one (hti.ok ty hg) ha (hcell off v hv)

end Go.Ax
/- Ax: addresses, indexes, slices, lengths. -/
set_option linter.unusedVariables false
set_option linter.unusedSimpArgs false
namespace Go.Ax
open Go.RowKit
variable {P : Program} {ti : Nat → TI}
variable {nt N d : Nat} {s : St} {m : AMem} {H : Hp} {lam : Nat → Option Nat} {a : Act} {w w0 : World}

theorem und_struct {t : Nat} (hti : TysOk P ti) {fs : List (Nat × Nat)} (hk : (ti t).k = .struct fs) : ∃ F : Array Field, P.underlying t = some (.struct F) ∧ F.toList.map (fun f => (f.offset, f.type)) = fs := by
  have := (hti.ok t (ok_of hk (by simp))).und; rw [hk] at this; exact this
theorem und_slice {t e : Nat} (hti : TysOk P ti) (hk : (ti t).k = .slice e) : P.underlying t = some (.slice e) := by
  have := (hti.ok t (ok_of hk (by simp))).und; rw [hk] at this; exact this
theorem und_array {t n e : Nat} (hti : TysOk P ti) (hk : (ti t).k = .array n e) : P.underlying t = some (.array n e) := by
  have := (hti.ok t (ok_of hk (by simp))).und; rw [hk] at this; exact this
theorem und_str {t : Nat} (hti : TysOk P ti) (hk : (ti t).k = .str) : P.underlying t = some .string := by
  have := (hti.ok t (ok_of hk (by simp))).und; rw [hk] at this; exact this
theorem und_int {t : Nat} {k : IntKind} (hti : TysOk P ti) (hk : (ti t).k = .int k) : P.underlying t = some (.int k) := by
  have := (hti.ok t (ok_of hk (by simp))).und; rw [hk] at this; exact this
theorem und_map {t k e : Nat} (hti : TysOk P ti) (hk : (ti t).k = .map k e) : P.underlying t = some (.map k e) := by
  have := (hti.ok t (ok_of hk (by simp))).und; rw [hk] at this; exact this

theorem reg_at {t off : Nat} {p : Value} (hp : VT d H m w lam s (.reg t off) p) (ho : opn s (.reg t off) = true) : ∃ c, lam (3 * t) = some c ∧ p = .pointer (some ⟨c, off, none⟩) := hp.2 ho
theorem mref_at {t off len sz : Nat} {ag : Bool} {p : Value} (hp : VT d H m w lam s (.mref t off len sz ag) p) (ho : opn s (.mref t off len sz ag) = true) : ∃ c cap a, lam (3 * t) = some c ∧ p = .slice a len cap ∧ len ≤ cap ∧ (0 < len → a = some ⟨c, off, none⟩) := hp.2 ho

theorem field_ok (E : Env) (hti : TysOk P E.ti) {ty fi : Nat} {x y : T} {p : Value} (h : aField E ty fi x = some y) (ho : opn s x = true) (hp : VT d H m w lam s x p) :
    ∃ v, (Instr.fieldAt ty p fi).run P w = .ok v w ∧ VT d H m w lam s y v := by
  unfold aField at h
  split at h
  · rename_i fs hk
    obtain ⟨F, hF, hfs⟩ := und_struct hti hk
    obtain ⟨⟨o, ft⟩, hfi, h⟩ := Option.bind_eq_some_iff.1 h
    obtain ⟨hsz, h⟩ := bnd_some h
    obtain ⟨fd, hfd, e1⟩ : ∃ fd : Field, F[fi]? = some fd ∧ (fd.offset, fd.type) = (o, ft) := by
      rw [← hfs, List.getElem?_map] at hfi
      obtain ⟨fd, h1, h2⟩ := Option.map_eq_some_iff.1 hfi
      exact ⟨fd, by simpa using h1, h2⟩
    injection e1 with e1 e2
    have hfo : (E.ti fd.type).ok = true := hti.sub ty _ (by rw [hk, ← hfs]; exact List.mem_map.2 ⟨(fd.offset, fd.type), List.mem_map.2 ⟨fd, by simpa using Array.mem_of_getElem? hfd, rfl⟩, rfl⟩)
    have hs0 : ¬ (E.ti ft).sz = 0 := by
      have : Nat.blt 0 (E.ti ft).sz = true := hsz
      simp [Nat.blt] at this; omega
    have hrun : ∀ c off, p = .pointer (some ⟨c, off, none⟩) → (Instr.fieldAt ty p fi).run P w = .ok (.pointer (some ⟨c, off + o, none⟩)) w := by
      rintro c off rfl
      subst e1 e2
      simp only [Instr.fieldAt, Sem.run_bind, run_underlying hF, Result.andThen_ok, hfd, Instr.sureAddr, Sem.run_pure, fieldPlace, run_sizeOf (hti.ok fd.type hfo)]
      rw [if_neg hs0, Sem.run_pure]
      simp [add_plain]
    split at h <;> simp only [Option.some.injEq, reduceCtorEq] at h <;> subst h
    · obtain ⟨c, hl, e⟩ := reg_at hp ho
      exact ⟨_, hrun _ _ e, hp.1, fun _ => ⟨c, hl, rfl⟩⟩
    · obtain ⟨c, o', f, r, e, hc, hE⟩ := hp
      exact ⟨_, hrun _ _ e, c, o', f, r, by rw [Nat.add_assoc (o' + _)], hc, hE⟩
    · obtain ⟨c, e, hc⟩ := hp
      exact ⟨_, hrun _ _ e, c, rfl, hc⟩
  · cases h

/-- What can be read as a slice by value. -/
theorem slice_ok {x : T} {sz : Nat} {xs : List AV} {v : Value} (h : x.slice = some (sz, xs)) (hv : VT d H m w lam s x v) : V H (.sl sz xs) v := by
  unfold T.slice at h
  split at h <;> simp only [Option.some.injEq, Prod.mk.injEq, reduceCtorEq] at h
  · obtain ⟨rfl, rfl⟩ := h; exact hv
  · obtain ⟨rfl, rfl⟩ := h; exact hv.2.1
  · obtain ⟨rfl, rfl⟩ := h; exact hv.1

theorem intOf_ok {x : T} {n : Int} {v : Value} (h : intOf x = some n) (hv : VT d H m w lam s x v) : ∃ k, v = .int k n := by
  unfold intOf at h
  split at h <;> simp only [Option.some.injEq, reduceCtorEq] at h
  subst h; exact ⟨_, hv⟩

theorem indexAddr_ok (E : Env) (hti : TysOk P E.ti) {ty : Nat} {i : Int} {x y : T} {p : Value} {k : IntKind} (h : aIndexAddr E ty x i = some y) (ho : opn s x = true) (hp : VT d H m w lam s x p) :
    ∃ v, (Instr.indexAt ty p (.int k i)).run P w = .ok v w ∧ VT d H m w lam s y v := by
  unfold aIndexAddr at h
  split at h
  · rename_i e hk
    have hu := und_slice hti hk
    have hrun : ∀ c o len cap, p = .slice (some ⟨c, o, none⟩) len cap → 0 ≤ i → i < len → (Instr.indexAt ty p (.int k i)).run P w = .ok (.pointer (some ⟨c, o + i.toNat * (E.ti e).sz, none⟩)) w := by
      rintro c o len cap rfl h0 h1
      simp only [Instr.indexAt, asIntOf, Sem.run_bind, Sem.run_pure, Result.andThen_ok, run_underlying hu]
      rw [if_pos ⟨h0, h1⟩]
      simp [run_sizeOf (hti.ok e (hti.sub _ _ (by rw [hk]; exact List.mem_cons_self))), add_plain]
    split at h
    · rename_i t off len sz ag
      split at h
      · rename_i hi
        obtain ⟨hsz, h⟩ := bnd_some h
        injection h with h; subst h
        have hsz := Nat.eq_of_beq_eq_true hsz
        obtain ⟨c, cap, b, hl, e1, _, hb⟩ := mref_at hp ho
        rw [hb (by omega)] at e1
        exact ⟨_, hrun _ _ _ _ e1 hi.1 hi.2, hp.1, fun _ => ⟨c, hl, by rw [hsz]⟩⟩
      · cases h
    · obtain ⟨⟨sz, xs⟩, hs, h⟩ := Option.bind_eq_some_iff.1 h
      dsimp only at h
      split at h
      · rename_i hi
        obtain ⟨hsz, h⟩ := bnd_some h
        injection h with h; subst h
        have hsz := Nat.eq_of_beq_eq_true hsz
        obtain ⟨a, cap, e1, hl, hx⟩ := slice_ok hs hp
        rcases hx with rfl | ⟨c, o, f, r, rfl, hc, _, hE⟩
        · simp at hi; omega
        · exact ⟨_, hrun _ _ _ _ e1 hi.1 hi.2, c, o, f, r, by rw [hsz]; rfl, hc, hE⟩
      · cases h
  · rename_i n e hk
    have hu := und_array hti hk
    split at h
    · rename_i hi
      have hrun : ∀ c o, p = .pointer (some ⟨c, o, none⟩) → (Instr.indexAt ty p (.int k i)).run P w = .ok (.pointer (some ⟨c, o + i.toNat * (E.ti e).sz, none⟩)) w := by
        rintro c o rfl
        simp only [Instr.indexAt, asIntOf, Sem.run_bind, Sem.run_pure, Result.andThen_ok, run_underlying hu, Instr.sureAddr]
        simp [hi.1, hi.2, run_sizeOf (hti.ok e (hti.sub _ _ (by rw [hk]; exact List.mem_cons_self))), add_plain]
      split at h <;> simp only [Option.some.injEq, reduceCtorEq] at h <;> subst h
      · obtain ⟨c, hl, e1⟩ := reg_at hp ho
        exact ⟨_, hrun _ _ e1, hp.1, fun _ => ⟨c, hl, rfl⟩⟩
      · obtain ⟨c, e1, hc⟩ := hp
        exact ⟨_, hrun _ _ e1, c, rfl, hc⟩
    · cases h
  · cases h

theorem index_ok (E : Env) (hti : TysOk P E.ti) {ty : Nat} {i : Int} {x y : T} {p : Value} {k : IntKind} (h : aIndex E ty x i = some y) (hp : VT d H m w lam s x p) :
    ∃ v, (Instr.index ty p (.int k i)).run P w = .ok v w ∧ VT d H m w lam s y v := by
  unfold aIndex at h
  split at h
  · rename_i hk
    have hu := und_str hti hk
    split at h
    · rename_i l
      obtain rfl := hp
      split at h
      · rename_i h0
        obtain ⟨b, hb, rfl⟩ := Option.map_eq_some_iff.1 h
        refine ⟨.int .u8 b.toNat, ?_, rfl⟩
        have : (⟨l.toArray⟩ : ByteArray)[i.toNat]? = some b := by
          simp only [getElem?_def] at hb ⊢
          split at hb
          · rename_i hlt
            injection hb with hb
            rw [dif_pos (by simpa [ByteArray.size] using hlt)]
            subst hb; rfl
          · cases hb
        simp [Instr.index, asIntOf, run_underlying hu, h0, this]
      · cases h
    · cases h
  · cases h

theorem len_ok (E : Env) (hti : TysOk P E.ti) {ty : Nat} {x y : T} {p : Value} {c : Array TypeId} (hc : c[0]? = some ty) (rt : TypeId) (h : aLen E ty x = some y) (ho : opn s x = true) (hp : VT d H m w lam s x p) :
    ∃ v, (Builtin.len_ c rt #[p]).run P w = .ok v w ∧ VT d H m w lam s y v := by
  unfold aLen at h
  split at h
  · rename_i hk
    have hu := und_str hti hk
    split at h <;> simp only [Option.some.injEq, reduceCtorEq] at h
    subst h; obtain rfl := hp
    refine ⟨.int .i64 _, ?_, rfl⟩
    simp only [Builtin.len_, hc, run_underlying hu, Sem.run_bind, Result.andThen_ok, List.getElem?_toArray, List.getElem?_cons_zero, Sem.run_pure]
    rfl
  · rename_i e hk
    have hu := und_slice hti hk
    split at h
    · injection h with h; subst h
      obtain ⟨b, cap, c', _, rfl, _⟩ := mref_at hp ho
      exact ⟨.int .i64 _, by simp [Builtin.len_, hc, run_underlying hu, goInt], rfl⟩
    · obtain ⟨⟨sz, xs⟩, hs, rfl⟩ := Option.map_eq_some_iff.1 h
      obtain ⟨b, cap, rfl, _⟩ := slice_ok hs hp
      exact ⟨.int .i64 xs.length, by simp [Builtin.len_, hc, run_underlying hu, goInt], rfl⟩
  · cases h

theorem min_ok {mn : Bool} {xs : List T} {y : T} {vs : List Value} (h : aMin mn xs = some y) (hv : All2 (VT d H m w lam s) xs vs) (c : Array TypeId) (rt : TypeId) :
    ∃ v, (match mn with | true => Builtin.min_ c rt vs.toArray | false => Builtin.max_ c rt vs.toArray).run P w = .ok v w ∧ VT d H m w lam s y v := by
  unfold aMin at h
  split at h
  · rename_i k x k' z
    split at h
    · rename_i hk; subst hk; injection h with h; subst h
      match vs, hv with
      | [u, v], ⟨h1, h2, _⟩ =>
        obtain rfl := h1; obtain rfl := h2
        cases mn with
        | true => exact ⟨_, by simp [Builtin.min_, Builtin.min2], rfl⟩
        | false => exact ⟨_, by simp [Builtin.max_, Builtin.max2], rfl⟩
    · cases h
  · cases h

theorem VE_drop {H : Hp} {f : Nat → Option Value} {sz : Nat} : ∀ {xs : List AV} {o : Nat}, VE H f sz xs o → ∀ n, VE H f sz (xs.drop n) (o + n * sz)
  | [], o, h, n => by simp [VE]
  | x :: xs, o, h, 0 => by simpa using h
  | x :: xs, o, ⟨_, h⟩, n + 1 => by
    have := VE_drop h n
    rwa [show o + sz + n * sz = o + (n + 1) * sz from by rw [Nat.succ_mul]; omega] at this
theorem VE_take {H : Hp} {f : Nat → Option Value} {sz : Nat} : ∀ {xs : List AV} {o : Nat}, VE H f sz xs o → ∀ n, VE H f sz (xs.take n) o
  | [], o, h, n => by simp [VE]
  | x :: xs, o, h, 0 => by simp [VE]
  | x :: xs, o, ⟨h1, h⟩, n + 1 => ⟨h1, VE_take h n⟩

/-- A bound that is given, or not. -/
def BV : Option Value → Option Int → Prop
  | none, none => True
  | some v, some n => ∃ k, v = .int k n
  | _, _ => False

theorem run_bound {v : Value} {k : IntKind} {n : Int} (hv : v = .int k n) {y : Nat} (h0 : 0 ≤ n) (h1 : n ≤ y) (c : BoundsCode) : (Instr.sliceBound v y c).run P w = .ok n.toNat w := by
  subst hv
  simp [Instr.sliceBound, asIntOf, h0, h1]

theorem run_bounds {isS : Bool} {len cap : Nat} {lo hi mx : Option Value} {bl bh bm : Option Int} (hl : BV lo bl) (hh : BV hi bh) (hm : BV mx bm) (h0 : 0 ≤ bl.getD 0) (h1 : bl.getD 0 ≤ bh.getD len) (h2 : bh.getD len ≤ bm.getD cap) (h3 : bm.getD cap ≤ cap) (h4 : bm.isSome = true → bh.isSome = true) :
    (Instr.sliceBounds isS len cap lo hi mx).run P w = .ok ((bl.getD 0).toNat, (bh.getD len).toNat, (bm.getD cap).toNat) w := by
  cases mx <;> cases bm <;> simp only [BV] at hm <;> cases hi <;> cases bh <;> simp only [BV] at hh <;> cases lo <;> cases bl <;> simp only [BV] at hl
  all_goals
    simp only [Option.getD_some, Option.getD_none, Option.isSome_some, Option.isSome_none, reduceCtorEq, imp_false, not_true_eq_false, forall_const] at h0 h1 h2 h3 h4 ⊢
  all_goals
    try obtain ⟨km, rfl⟩ := hm
    try obtain ⟨kh, rfl⟩ := hh
    try obtain ⟨kl, rfl⟩ := hl
    simp only [Instr.sliceBounds, Sem.run_bind, Sem.run_pure, Result.andThen_ok]
    repeat (rw [run_bound rfl (by omega) (by omega), Result.andThen_ok])
    try simp

theorem run_slice_slice (hti : TysOk P ti) {ty e : Nat} (hk : (ti ty).k = .slice e) {a : Option Addr} {len cap l h mm : Nat} {lo hi mx : Option Value} (hr : (Instr.sliceBounds true len cap lo hi mx).run P w = .ok (l, h, mm) w) :
    (Instr.sliceAt ty (.slice a len cap) lo hi mx).run P w = .ok (.slice (if mm = l then a else a.map (·.add (l * (ti e).sz))) (h - l) (mm - l)) w := by
  simp only [Instr.sliceAt, Instr.slice, Sem.run_bind, run_underlying (und_slice hti hk), Result.andThen_ok, hr, run_sizeOf (hti.ok e (hti.sub _ _ (by rw [hk]; exact List.mem_cons_self))), Sem.run_pure]
theorem run_slice_array (hti : TysOk P ti) {ty n e : Nat} (hk : (ti ty).k = .array n e) {a : Addr} {l h mm : Nat} {lo hi mx : Option Value} (hr : (Instr.sliceBounds false n n lo hi mx).run P w = .ok (l, h, mm) w) :
    (Instr.sliceAt ty (.pointer (some a)) lo hi mx).run P w = .ok (.slice (some (if mm = l then a else a.add (l * (ti e).sz))) (h - l) (mm - l)) w := by
  simp only [Instr.sliceAt, Instr.sureAddr, Sem.run_bind, Sem.run_pure, run_underlying (und_array hti hk), Result.andThen_ok, hr, run_sizeOf (hti.ok e (hti.sub _ _ (by rw [hk]; exact List.mem_cons_self)))]

/-- A slice expression. -/
theorem slice_op_ok (E : Env) (hti : TysOk P E.ti) {ty : Nat} {x y : T} {p : Value} {lo hi mx : Option Value} {bl bh bm : Option Int} (hl : BV lo bl) (hh : BV hi bh) (hm : BV mx bm)
    (h : aSlice E ty x bl bh bm = some y) (ho : opn s x = true) (hp : VT d H m w lam s x p) :
    ∃ v, (Instr.sliceAt ty p lo hi mx).run P w = .ok v w ∧ VT d H m w lam s y v := by
  unfold aSlice at h
  split at h
  · rename_i hk
    have hu := und_str hti hk
    split at h
    · rename_i l
      obtain rfl := hp
      dsimp only at h
      split at h
      · rename_i hb
        split at h
        · injection h with h; subst h
          cases mx with
          | some v => exact hm.elim
          | none =>
            have hr := run_bounds (P := P) (w := w) (isS := false) (len := l.length) (cap := l.length) (mx := none) (bm := none) hl hh trivial hb.1 hb.2.1 (by simpa using hb.2.2) (by simp) (by simp)
            refine ⟨.string ((⟨l.toArray⟩ : ByteArray).extract (bl.getD 0).toNat (bh.getD l.length).toNat), ?_, ?_⟩
            · simp only [Instr.sliceAt, Instr.slice, Sem.run_bind, run_underlying hu, Result.andThen_ok, Option.isSome_none, Bool.false_eq_true, if_false, Sem.run_pure]
              rw [show (⟨l.toArray⟩ : ByteArray).size = l.length from by simp [ByteArray.size], hr]
              rfl
            · show Value.string _ = _
              congr 1
              apply ByteArray.ext
              apply Array.ext'
              rw [Lib.extract_data]
        · cases h
      · cases h
    · cases h
  · rename_i e hk
    have hu := und_slice hti hk
    split at h
    · rename_i t off len sz ag
      dsimp only at h
      split at h
      · rename_i hb
        split at h
        · obtain ⟨hsz, h⟩ := bnd_some h
          injection h with h; subst h
          have hsz := Nat.eq_of_beq_eq_true hsz
          obtain ⟨c, cap, q, hl', e1, hcap, hq⟩ := mref_at hp ho
          cases mx with
          | some v => exact hm.elim
          | none =>
            have hr := run_bounds (P := P) (w := w) (isS := true) (len := len) (cap := cap) (mx := none) (bm := none) hl hh trivial hb.1 hb.2.1 (by simp only [Option.getD_none]; omega) (by simp) (by simp)
            subst e1
            refine ⟨_, run_slice_slice hti hk hr, hp.1, fun _ => ⟨c, _, _, hl', rfl, by simp only [Option.getD_none, Int.toNat_natCast]; omega, fun h0 => ?_⟩⟩
            rw [hq (by omega), if_neg (by simp only [Option.getD_none, Int.toNat_natCast]; omega)]
            simp [add_plain, hsz]
        · cases h
      · cases h
    · obtain ⟨⟨sz, xs⟩, hs, h⟩ := Option.bind_eq_some_iff.1 h
      dsimp only at h
      split at h
      · rename_i hb
        obtain ⟨hsz, h⟩ := bnd_some h
        obtain ⟨a0, cap, e1, hcap, hx⟩ := slice_ok hs hp
        subst e1
        have hlen : ((xs.drop (bl.getD 0).toNat).take ((bh.getD xs.length).toNat - (bl.getD 0).toNat)).length = (bh.getD xs.length).toNat - (bl.getD 0).toNat := by
          simp only [List.length_take, List.length_drop]; omega
        have hV : ∀ mm : Nat, (bh.getD xs.length).toNat ≤ mm → V H (.sl sz ((xs.drop (bl.getD 0).toNat).take ((bh.getD xs.length).toNat - (bl.getD 0).toNat))) (.slice (if mm = (bl.getD 0).toNat then a0 else a0.map (·.add ((bl.getD 0).toNat * (E.ti e).sz))) ((bh.getD xs.length).toNat - (bl.getD 0).toNat) (mm - (bl.getD 0).toNat)) := by
          intro mm hmm
          refine ⟨_, _, by rw [hlen], by omega, ?_⟩
          by_cases h0 : (bh.getD xs.length).toNat - (bl.getD 0).toNat = 0
          · left
            apply List.eq_nil_of_length_eq_zero; rw [hlen, h0]
          · right
            rcases hx with rfl | ⟨c, o, f, r, rfl, hc, hs0, hE⟩
            · simp only [List.length_nil] at h0 hb hcap; omega
            · have hszE : sz = (E.ti e).sz := by
                rcases Bool.or_eq_true _ _ |>.mp hsz with hq | hq
                · exact Nat.eq_of_beq_eq_true hq
                · have := Nat.eq_of_beq_eq_true hq; omega
              rw [if_neg (by omega)]
              exact ⟨c, o + (bl.getD 0).toNat * sz, f, r, by simp [add_plain, hszE], hc, hs0, VE_take (VE_drop hE _) _⟩
        split at h
        · injection h with h; subst h
          cases mx with
          | some v => exact hm.elim
          | none =>
            have hr := run_bounds (P := P) (w := w) (isS := true) (len := xs.length) (cap := cap) (mx := none) (bm := none) hl hh trivial hb.1 hb.2.1 (by simp only [Option.getD_none]; omega) (by simp) (by simp)
            exact ⟨_, run_slice_slice hti hk hr, hV _ (by simp only [Option.getD_none, Int.toNat_natCast]; omega)⟩
        · rename_i q
          split at h
          · rename_i hq
            injection h with h; subst h
            have hr := run_bounds (P := P) (w := w) (isS := true) (len := xs.length) (cap := cap) hl hh hm hb.1 hb.2.1 (by simp only [Option.getD_some]; omega) (by simp only [Option.getD_some]; omega) (fun _ => hq.2)
            refine ⟨_, run_slice_slice hti hk hr, .inl rfl, hV _ (by simp only [Option.getD_some]; omega), fun _ => ?_, fun hk => absurd rfl hk⟩
            rw [hlen]
            exact ⟨_, by simp only [Option.getD_some, hq.1]; rfl⟩
          · cases h
      · cases h
  · rename_i n e hk
    have hu := und_array hti hk
    split at h
    · rename_i t off
      dsimp only at h
      split at h
      · rename_i hb
        split at h
        · injection h with h; subst h
          obtain ⟨c, hl', rfl⟩ := reg_at hp ho
          cases mx with
          | some v => exact hm.elim
          | none =>
            have hr := run_bounds (P := P) (w := w) (isS := false) (len := n) (cap := n) (mx := none) (bm := none) hl hh trivial hb.1 hb.2.1 (by simp only [Option.getD_none]; omega) (by simp) (by simp)
            refine ⟨_, run_slice_array hti hk hr, hp.1, fun _ => ⟨c, _, _, hl', rfl, by simp only [Option.getD_none, Int.toNat_natCast]; omega, fun h0 => ?_⟩⟩
            rw [if_neg (by simp only [Option.getD_none, Int.toNat_natCast]; omega)]
            simp [add_plain]
        · cases h
      · cases h
    · cases h
  · cases h

end Go.Ax
/- Ax: structs that are built, parts, conversions. -/
set_option linter.unusedVariables false
set_option linter.unusedSimpArgs false
namespace Go.Ax
open Go.RowKit
variable {P : Program} {ti : Nat → TI}
variable {nt N d : Nat} {s : St} {m : AMem} {H : Hp} {lam : Nat → Option Nat} {a : Act} {w w0 : World}

/-- A cell of a frame's variable, its label known. -/
def VQ (d : Nat) (H : Hp) (s : St) (c : T) (u : Value) : Prop := (∀ k sz xs, c = .own k sz xs → k = 0 ∨ s.seen k = true) ∧ VT1 d H s.live c u

theorem VQ_v {x : AV} {u : Value} (h1 : u.oneCell' = true) (h2 : V H x u) : VQ d H s (.v x) u := ⟨fun _ _ _ e => by simp at e, h1, h2⟩

theorem VQ_one {c : T} {u : Value} (h : VQ d H s c u) : u.oneCell' = true := by
  obtain ⟨_, h⟩ := h
  cases c <;> first | exact h.elim | exact h.1 | skip
  case own k sz xs => obtain ⟨⟨a, cap, rfl, _⟩, _⟩ := h; rfl

theorem V_one {x : AV} {v : Value} (h : V H x v) (h1 : ∀ cs, x ≠ .agg cs) (h2 : ∀ vs, x ≠ .tup vs) : v.oneCell' = true := by
  cases x
  case agg => exact absurd rfl (h1 _)
  case tup => exact absurd rfl (h2 _)
  case bool | int | str | nilp | nilf | nili => all_goals (obtain rfl := h; rfl)
  case sl => obtain ⟨a, cap, rfl, _⟩ := h; rfl
  case ptr => obtain ⟨c, rfl, _⟩ := h; rfl
  case fn => obtain ⟨c, rfl, _⟩ := h; rfl
  case mp => rcases h with ⟨rfl, _⟩ | ⟨c, us, ws, rfl, _⟩ <;> rfl

theorem cell_ok {x y : T} {v : Value} (h : x.cell = some y) (hv : VT d H m w lam s x v) : VQ d H s y v := by
  unfold T.cell at h
  split at h <;> simp only [Option.some.injEq, reduceCtorEq] at h <;> subst h
  · rename_i x h1 h2
    exact VQ_v (V_one hv (fun cs e => h1 cs (by rw [e])) (fun cs e => h2 cs (by rw [e]))) hv
  · exact ⟨fun k sz xs e => by injection e with e1 _ _; subst e1; exact hv.1, hv.2⟩
  · obtain ⟨h1, _⟩ := hv
    exact VQ_v (by obtain ⟨a, cap, rfl, _⟩ := h1; rfl) h1

theorem oneCell_cells {v : Value} (h : v.oneCell' = true) : v.cells = #[v] := by
  cases v <;> first | rfl | (simp [Value.oneCell'] at h)

theorem VC_VQ : ∀ {cs : List AV} {us : List Value}, VC H cs us → All2 (VQ d H s) (cs.map .v) us
  | [], us, h => by obtain rfl := h; trivial
  | c :: cs, us, ⟨u, us', e, h1, h2, h3⟩ => by subst e; exact ⟨VQ_v h1 h2, VC_VQ h3⟩

theorem cells_ok {x : T} {ys : List T} {v : Value} (h : x.cells = some ys) (hv : VT d H m w lam s x v) : All2 (VQ d H s) ys v.cells.toList := by
  unfold T.cells at h
  split at h
  · injection h with h; subst h
    obtain ⟨vs, rfl, hc⟩ := hv
    simpa [Value.cells] using VC_VQ hc
  · injection h with h; subst h
    obtain ⟨vs, rfl, hc⟩ := hv
    exact hc
  · obtain ⟨y, hy, rfl⟩ := Option.map_eq_some_iff.1 h
    have := cell_ok hy hv
    rw [oneCell_cells (VQ_one this)]
    exact ⟨this, trivial⟩

theorem setAt_ok {α β : Type} {R : α → β → Prop} : ∀ {ys : List α} {vs : List β} {A : List α} {B : Array β} (off n : Nat), All2 R A B.toList → All2 R ys vs →
    All2 R (setAt A (off + n) ys) (((vs.zipIdx n).foldl (fun cs (p : β × Nat) => cs.setIfInBounds (off + p.2) p.1) B).toList)
  | [], [], A, B, off, n, h, _ => by simpa [setAt] using h
  | [], _ :: _, _, _, _, _, _, h => h.elim
  | _ :: _, [], _, _, _, _, _, h => h.elim
  | y :: ys, v :: vs, A, B, off, n, h, ⟨h1, h2⟩ => by
    rw [List.zipIdx_cons, List.foldl_cons]
    have := setAt_ok (A := A.set (off + n) y) (B := B.setIfInBounds (off + n) v) off (n + 1) (by rw [Array.toList_setIfInBounds]; exact h.set _ _ _ h1) h2
    simpa [setAt, Nat.add_assoc] using this

theorem setAt_length {α : Type} : ∀ (ys : List α) (A : List α) (off : Nat), (setAt A off ys).length = A.length
  | [], _, _ => rfl
  | y :: ys, A, off => by simp [setAt, setAt_length ys]

theorem fill_ok {pa pc : Nat → Option (Nat × Nat)} (hp : ∀ i q, pa i = some q → pc i = some q) : ∀ {ps : List (Nat × T)} {qs : List (Nat × Value)} {A out : List T} {B : Array Value}, All2 (fun p q => p.1 = q.1 ∧ VT d H m w lam s p.2 q.2) ps qs →
    All2 (VQ d H s) A B.toList → aFill pa A ps = some out → ∃ arr, Instr.fill pc B qs = some arr ∧ All2 (VQ d H s) out arr.toList
  | [], [], A, out, B, _, hA, h => by
    simp only [aFill, Option.some.injEq] at h; subst h
    exact ⟨B, rfl, hA⟩
  | [], _ :: _, _, _, _, h, _, _ => h.elim
  | _ :: _, [], _, _, _, h, _, _ => h.elim
  | (i, x) :: ps, (j, v) :: qs, A, out, B, ⟨⟨e, hv⟩, hr⟩, hA, h => by
    simp only at e; subst e
    simp only [aFill] at h
    obtain ⟨⟨off, n⟩, hi, h⟩ := Option.bind_eq_some_iff.1 h
    obtain ⟨ys, hy, h⟩ := Option.bind_eq_some_iff.1 h
    obtain ⟨hb, h⟩ := bnd_some h
    rw [Bool.and_eq_true] at hb
    have hb1 := Nat.eq_of_beq_eq_true hb.1
    have hb2 : off + n ≤ A.length := by simpa using hb.2
    have hc := cells_ok hy hv
    have hcl := hc.length
    have hAl := hA.length
    have hset := setAt_ok off 0 hA hc
    simp only [Nat.add_zero] at hset
    obtain ⟨arr, h1, h2⟩ := fill_ok hp hr hset h
    refine ⟨arr, ?_, h2⟩
    simp only [Instr.fill, hp i _ hi]
    have hsz : v.cells.size = n := by simpa [hb1] using hcl.symm
    have hBsz : B.size = A.length := by simpa using hAl.symm
    rw [if_neg (by simp [hsz, hBsz]; omega)]
    rw [← h1]
    congr 1
    rw [← Array.foldl_toList]
    simp [Array.toList_zipIdx]

theorem run_zero {t : Nat} (h : TyOk P t (ti t)) (hl : (ti t).zero.length = (ti t).sz) (w : World) : ∃ z, (zeroValue t).run P w = .ok z w ∧ All2 Zr (ti t).zero z.cells.toList ∧ z.cells.size = (ti t).sz ∧ ((ti t).isAgg = true → ∃ arr, z = .agg arr) ∧ ((ti t).isAgg = false → z.oneCell' = true) := by
  obtain ⟨x, h1, h2, h3, h4⟩ := h.info
  obtain ⟨z, h5, h6, h7, h8⟩ := h4 hl
  exact ⟨z, by simp [zeroValue, run_typeInfo h1, h5], h6, by have := h6.length; simp at this; omega, h7, h8⟩

theorem zero_VQ : ∀ {zs : List T} {us : List Value}, All2 Zr zs us → All2 (VQ d H s) zs us
  | [], [], _ => trivial
  | [], _ :: _, h => h.elim
  | _ :: _, [], h => h.elim
  | z :: zs, u :: us, ⟨h1, h2⟩ => by
    obtain ⟨q1, _, q3⟩ := VT1_zero (d := d) (H := H) (live := s.live) h1
    exact ⟨⟨fun k sz xs e => .inl (q3 k sz xs e), q1⟩, zero_VQ h2⟩

theorem run_places (hti : TysOk P ti) (w : World) : ∀ (l : List Field), (∀ f ∈ l, (ti f.type).ok = true) → (l.mapM (fun f => do pure (f.offset, ← sizeOf f.type) : Field → Sem (Nat × Nat))).run P w = .ok (l.map fun f => (f.offset, (ti f.type).sz)) w
  | [], _ => by simp
  | f :: l, hl => by
    rw [List.mapM_cons]
    simp only [Sem.run_bind, run_sizeOf (hti.ok f.type (hl f List.mem_cons_self)), Result.andThen_ok, Sem.run_pure, run_places hti w l (fun g hg => hl g (List.mem_cons_of_mem _ hg)), List.map_cons]

theorem build_ok (E : Env) (hti : TysOk P E.ti) {ty : Nat} {ps : List (Nat × T)} {qs : Array (Nat × Value)} {y : T} (hps : All2 (fun p q => p.1 = q.1 ∧ VT d H m w lam s p.2 q.2) ps qs.toList) (h : aBuild E ty ps = some y) :
    ∃ v, (Instr.build ty qs).run P w = .ok v w ∧ VT d H m w lam s y v := by
  unfold aBuild at h
  split at h
  · rename_i fs hk
    obtain ⟨F, hF, hfs⟩ := und_struct hti hk
    obtain ⟨hl, h⟩ := bnd_some h
    obtain ⟨out, ho, rfl⟩ := Option.map_eq_some_iff.1 h
    obtain ⟨z, hz, hz2, hz3, _⟩ := run_zero (hti.ok ty (ok_of hk (by simp))) (Nat.eq_of_beq_eq_true hl) w
    obtain ⟨arr, h1, h2⟩ := fill_ok (pc := fun i => ((F.toList.map fun f => (f.offset, (E.ti f.type).sz)).toArray)[i]?) (fun i q hq => by
      obtain ⟨⟨o, ft⟩, h3, h4⟩ := Option.map_eq_some_iff.1 hq
      rw [← hfs, List.getElem?_map] at h3
      obtain ⟨fd, h5, h6⟩ := Option.map_eq_some_iff.1 h3
      injection h6 with e1 e2; subst e1 e2
      rw [← h4]
      simp [List.getElem?_map, h5]) hps (zero_VQ hz2) ho
    refine ⟨.agg arr, ?_, arr.toList, by simp, h2⟩
    simp only [Instr.build, Sem.run_bind, hz, Result.andThen_ok, run_underlying hF, Array.mapM_eq_mapM_toList, Sem.run_map, run_places hti w _ (fun f hf => hti.sub ty _ (by rw [hk, ← hfs]; exact List.mem_map.2 ⟨(f.offset, f.type), List.mem_map.2 ⟨f, hf, rfl⟩, rfl⟩)), h1, Sem.run_pure]
  · rename_i n e hk
    obtain ⟨hl, h⟩ := bnd_some h
    obtain ⟨out, ho, rfl⟩ := Option.map_eq_some_iff.1 h
    obtain ⟨z, hz, hz2, hz3, _⟩ := run_zero (hti.ok ty (ok_of hk (by simp))) (Nat.eq_of_beq_eq_true hl) w
    obtain ⟨arr, h1, h2⟩ := fill_ok (pc := fun i => some (i * (E.ti e).sz, (E.ti e).sz)) (fun i q hq => (bnd_some hq).2) hps (zero_VQ hz2) ho
    refine ⟨.agg arr, ?_, arr.toList, by simp, h2⟩
    simp only [Instr.build, Sem.run_bind, hz, Result.andThen_ok, run_underlying (und_array hti hk), run_sizeOf (hti.ok e (hti.sub _ _ (by rw [hk]; exact List.mem_cons_self))), h1, Sem.run_pure]
  · cases h

theorem extract_ok {vs : List AV} {i : Nat} {y : AV} {v : Value} (h : vs[i]? = some y) (hv : V H (.tup vs) v) : ∃ u, (Instr.extract v i).run P w = .ok u w ∧ V H y u := by
  obtain ⟨us, rfl, hl⟩ := hv
  obtain ⟨u, h1, h2⟩ := (VL_iff.1 hl).get i y h
  exact ⟨u, by simp [Instr.extract, h1], h2⟩

end Go.Ax
/- Ax: conversions; what stands in a frame's variable as a slice's content. -/
set_option linter.unusedVariables false
set_option linter.unusedSimpArgs false
namespace Go.Ax
open Go.RowKit
variable {P : Program} {ti : Nat → TI}
variable {nt N d : Nat} {s : St} {m : AMem} {H : Hp} {lam : Nat → Option Nat} {a : Act} {w w0 : World}

theorem All2_VQ_VT1 {cs : List T} {us : List Value} (h : All2 (VQ d H s) cs us) : All2 (VT1 d H s.live) cs us := h.mono fun _ _ _ h => h.2

theorem av1_ok {c : T} {x : AV} {u : Value} (h : c.av = some x) (hv : VQ d H s c u) : V H x u := by
  obtain ⟨_, hv⟩ := hv
  cases c <;> first | exact hv.elim | skip
  case v y => simp only [T.av, Option.some.injEq] at h; subst h; exact hv.2
  case own k sz xs => simp only [T.av, Option.some.injEq] at h; subst h; exact hv.1

theorem chunk_ok {sz : Nat} {ag : Bool} {f : Nat → Option Value} : ∀ (n : Nat) {cs : List T} {us : List Value} {xs : List AV} (o : Nat), chunk sz ag n cs = some xs → All2 (VQ d H s) cs us → (∀ j u, us[j]? = some u → j < n * sz → f (o + j) = some u) →
    xs.length = n ∧ VE H f sz xs o
  | 0, cs, us, xs, o, h, _, _ => by simp only [chunk, Option.some.injEq] at h; subst h; exact ⟨rfl, trivial⟩
  | n + 1, cs, us, xs, o, h, hA, hf => by
    simp only [chunk] at h
    obtain ⟨x, hx, h⟩ := Option.bind_eq_some_iff.1 h
    obtain ⟨ys, hy, rfl⟩ := Option.map_eq_some_iff.1 h
    obtain ⟨h1, h2⟩ := chunk_ok n (o + sz) hy (hA.drop sz) (fun j u hj hlt => by
      rw [List.getElem?_drop] at hj
      have := hf (sz + j) u hj (by rw [Nat.succ_mul]; omega)
      rwa [show o + (sz + j) = o + sz + j from by omega] at this)
    refine ⟨by simp [h1], ?_, h2⟩
    have hlt : ∀ j, j < sz → j < (n + 1) * sz := fun j hj => by rw [Nat.succ_mul]; omega
    cases ag with
    | true =>
      simp only at hx
      obtain ⟨hb, hx⟩ := bnd_some hx
      obtain ⟨zs, hz, rfl⟩ := Option.map_eq_some_iff.1 hx
      have hC := avs_ok hz (All2_VQ_VT1 (hA.take sz))
      have hl := hA.length
      have hle : sz ≤ cs.length := by simpa using hb
      refine ⟨.agg (us.take sz).toArray, ⟨us.take sz, rfl, hC⟩, by simp [Value.cells]; omega, fun j u hj => ?_⟩
      have hj' : (us.take sz)[j]? = some u := by simpa [Value.cells] using hj
      have h3 := (VC_iff.1 hC).length
      obtain ⟨hjl, hju⟩ : j < sz ∧ us[j]? = some u := by
        rw [List.getElem?_take] at hj'
        split at hj'
        · exact ⟨by assumption, hj'⟩
        · cases hj'
      refine ⟨?_, hf j u hju (hlt j hjl)⟩
      have hAj := (hA.take sz)
      have : ∃ c, (cs.take sz)[j]? = some c := by
        have : j < (cs.take sz).length := by simp; omega
        exact ⟨_, List.getElem?_eq_getElem this⟩
      obtain ⟨c, hc⟩ := this
      obtain ⟨u', hu', hq⟩ := hAj.get j c hc
      rw [hj'] at hu'; injection hu' with hu'; subst hu'
      exact VQ_one hq
    | false =>
      simp only at hx
      obtain ⟨hb, hx⟩ := bnd_some hx
      have hsz := Nat.eq_of_beq_eq_true hb
      subst hsz
      match cs, us, hA, hx with
      | c :: cs, u :: us, ⟨hq, _⟩, hx =>
        have hV : V H x u := av1_ok hx hq
        have h1 := VQ_one hq
        refine ⟨u, hV, by rw [oneCell_cells h1]; rfl, fun j v hj => ?_⟩
        rw [oneCell_cells h1] at hj
        cases j with
        | zero => simp at hj; subst hj; exact ⟨h1, hf 0 u (by simp) (by simp)⟩
        | succ j => simp at hj

theorem bytesOf_nums : ∀ {xs : List AV} {l : List UInt8}, bytesOf xs = some l → ∃ zs : List Int, xs = zs.map (fun n => AV.int .u8 n) ∧ l = zs.map fun n => UInt8.ofNat n.toNat
  | [], l, h => by simp only [bytesOf, Option.some.injEq] at h; subst h; exact ⟨[], rfl, rfl⟩
  | x :: xs, l, h => by
    unfold bytesOf at h
    split at h
    · rename_i e; cases e
    · rename_i n r e
      injection e with e1 e2; subst e1 e2
      obtain ⟨l', h1, rfl⟩ := Option.map_eq_some_iff.1 h
      obtain ⟨zs, rfl, rfl⟩ := bytesOf_nums h1
      exact ⟨n :: zs, rfl, rfl⟩
    · cases h

theorem bytes_cells {f : Nat → Option Value} {sz o : Nat} {zs : List Int} (hE : VE H f sz (zs.map (fun n => AV.int .u8 n)) o) (i : Nat) (hi : i < zs.length) : f (o + i) = some (.int .u8 (zs.getD i 0)) := by
  obtain ⟨v, h1, h2, h3⟩ := VE_get hE i (.int .u8 (zs.getD i 0)) (by simp [List.getElem?_eq_getElem hi, List.getD_eq_getElem?_getD])
  obtain rfl := h1
  have hs : sz = 1 := by simpa [Value.cells] using h2.symm
  subst hs
  have := (h3 0 (.int .u8 (zs.getD i 0)) (by simp [Value.cells])).2
  simpa using this

theorem run_bytes {src dst e g o : Nat} (hs : P.underlying src = some (.slice e)) (he : P.underlying e = some (.int .u8)) (hd : P.underlying dst = some .string) {zs : List Int} {cap : Nat} (hc : ∀ i, i < zs.length → w.cell? ⟨g, o + i, none⟩ = some (.int .u8 (zs.getD i 0))) :
    (convert src dst (.slice (some ⟨g, o, none⟩) zs.length cap)).run P w = .ok (.string ⟨(zs.map fun n => UInt8.ofNat n.toNat).toArray⟩) w :=
  run_convert_bytes_arg w src e hs he g o zs.length cap zs rfl hc dst hd

theorem run_bytes0 {src dst e : Nat} (hs : P.underlying src = some (.slice e)) (he : P.underlying e = some (.int .u8)) (hd : P.underlying dst = some .string) (b : Option Addr) {cap : Nat} :
    (convert src dst (.slice b 0 cap)).run P w = .ok (.string ⟨#[]⟩) w := by
  cases b with
  | none => exact run_convert_bytes_nil w src e hs he 0 cap dst hd
  | some b =>
    simp [convert, run_underlying hs, run_underlying he, run_underlying hd, Conv.bytesToString, loadCells, loadCellsFrom]
    rfl

/-- The conversions that make no memory. -/
theorem convert_ok (E : Env) (hti : TysOk P E.ti) (hf : Fr nt N d s m H lam a w) (hw : WOk w0 H m w) {src dst : Nat} {x : T} {e : Eff} {v : Value} (h : aConvert E s src dst x = some e) (hv : VT d H m w lam s x v) (hns : ∀ q, ¬ ((E.ti src).k = .str ∧ (E.ti dst).k = .slice q)) :
    Quiet e ∧ ∃ u, (convert src dst v).run P w = .ok u w ∧ VT d H m w lam s e.val u := by
  unfold aConvert at h
  split at h
  · rename_i k1 k2 hk1 hk2
    split at h
    · simp only [oneV, Option.map_some, Option.some.injEq] at h; subst h
      obtain rfl := hv
      exact ⟨⟨rfl, rfl, rfl, rfl, rfl, rfl, rfl, rfl⟩, _, by simp [convert, run_underlying (und_int hti hk1), run_underlying (und_int hti hk2), Conv.intToInt], rfl⟩
    · cases h
  · rename_i hk1 hk2
    split at h
    · simp only [oneV, Option.map_some, Option.some.injEq] at h; subst h
      obtain rfl := hv
      exact ⟨⟨rfl, rfl, rfl, rfl, rfl, rfl, rfl, rfl⟩, _, by simp [convert, run_underlying (und_str hti hk1), run_underlying (und_str hti hk2)], rfl⟩
    · cases h
  · rename_i hk1 hk2
    split at h
    · split at h
      · rename_i n hn
        simp only [oneV, Option.map_some, Option.some.injEq] at h; subst h
        obtain rfl := hv
        refine ⟨⟨rfl, rfl, rfl, rfl, rfl, rfl, rfl, rfl⟩, .string ⟨#[UInt8.ofNat n.toNat]⟩, ?_, rfl⟩
        have hval : Utf8.valid n = true := by simp [Utf8.valid]; omega
        have henc : Utf8.encode n = ⟨#[UInt8.ofNat n.toNat]⟩ := by
          unfold Utf8.encode
          simp only [hval, if_true]
          rw [if_pos (by omega)]
        simp [convert, run_underlying (und_int hti hk1), run_underlying (und_str hti hk2), Conv.intToString, henc]
      · cases h
    · cases h
  · rename_i q hk1 hk2
    exact absurd ⟨hk1, hk2⟩ (hns q)
  · rename_i e0 hk1 hk2
    split at h
    · rename_i hk3
      have hs := und_slice hti hk1
      have he := und_int hti hk3
      have hd := und_str hti hk2
      split at h
      · rename_i t off len sz ag
        obtain ⟨cs, hc, h⟩ := Option.bind_eq_some_iff.1 h
        obtain ⟨xs, hx, h⟩ := Option.bind_eq_some_iff.1 h
        obtain ⟨l, hl, rfl⟩ := Option.map_eq_some_iff.1 h
        obtain ⟨zs, rfl, rfl⟩ := bytesOf_nums hl
        refine ⟨⟨rfl, rfl, rfl, rfl, rfl, rfl, rfl, rfl⟩, _, ?_, rfl⟩
        obtain ⟨c, cap, b, q1, rfl, q3, q4⟩ := mref_at hv (by simp [opn, hc])
        obtain ⟨_, c', arr, ty, r1, r2, r3, r4, r5⟩ := hf.lc t cs hc
        obtain rfl : c = c' := by rw [q1] at r1; exact Option.some.inj r1
        obtain ⟨g1, g2⟩ := chunk_ok (f := fun i => arr[i]?) len off hx (All2.drop r5 off) (fun j u hj _ => by rw [List.getElem?_drop] at hj; simpa using hj)
        simp only [List.length_map] at g1
        subst g1
        by_cases h0 : zs.length = 0
        · obtain rfl := List.eq_nil_of_length_eq_zero h0
          exact run_bytes0 hs he hd b
        · rw [q4 (by omega)]
          exact run_bytes hs he hd (fun i hi => by rw [cell_block r4]; exact bytes_cells g2 i hi)
      · obtain ⟨⟨sz, xs⟩, hx, h⟩ := Option.bind_eq_some_iff.1 h
        simp only [oneV, Option.map_eq_some_iff] at h
        obtain ⟨y, ⟨l, hl, rfl⟩, rfl⟩ := h
        obtain ⟨zs, rfl, rfl⟩ := bytesOf_nums hl
        refine ⟨⟨rfl, rfl, rfl, rfl, rfl, rfl, rfl, rfl⟩, _, ?_, rfl⟩
        obtain ⟨b, cap, rfl, _, hE⟩ := slice_ok hx hv
        rcases hE with hn | ⟨c, o, f, r, rfl, hc, _, hE⟩
        · have : zs = [] := by simpa using hn
          subst this
          exact run_bytes0 hs he hd b
        · obtain ⟨arr, e1, fr, r1, r2, _⟩ := hw.froz c f r hc
          rw [List.length_map]
          exact run_bytes hs he hd (fun i hi => by rw [cell_block r1]; exact r2 _ _ (bytes_cells hE i hi))
    · cases h
  · cases h

end Go.Ax
