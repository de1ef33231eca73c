/- JSON values and their text, plainly. -/
import Derived.Test.YtkekijhpolgcmaaAxM9
set_option linter.unusedVariables false
namespace Go.Proofs.Ytkekijhpolgcmaa.X
open Go Go.Ax

inductive J where
  | mk (k n : Int) (t : List UInt8) (ns : List (List UInt8)) (ks : List J)

mutual
def enc : J → AV
  | .mk k n t ns ks => .agg [.int .i64 k, .int .i64 n, .str t, .sl 1 (ns.map .str), .sl 5 (encs ks)]
def encs : List J → List AV
  | [] => []
  | k :: r => enc k :: encs r
end
theorem encs_eq : ∀ ks : List J, encs ks = ks.map enc
  | [] => rfl
  | k :: r => by simp only [encs, List.map_cons, encs_eq r]
theorem encs_len (ks : List J) : (encs ks).length = ks.length := by rw [encs_eq, List.length_map]

def hexs : List UInt8 := [48, 49, 50, 51, 52, 53, 54, 55, 56, 57, 97, 98, 99, 100, 101, 102]
def hexd (n : Nat) : UInt8 := hexs.getD n 0
theorem hex_get {n : Nat} (h : n < 16) : hexs[n]? = some (hexd n) := by
  have : n < hexs.length := h
  simp [hexd, List.getD, List.getElem?_eq_getElem this]
theorem hex_lt : ∀ n : Fin 16, (hexd n.val).toNat < 128 := by decide +kernel
theorem hexd_small (n : Nat) : (hexd n).toNat < 128 := by
  by_cases h : n < 16
  · exact hex_lt ⟨n, h⟩
  · have : hexs[n]? = none := List.getElem?_eq_none (by simp [hexs]; omega)
    simp [hexd, List.getD, this]
/-- A byte as it stands in a text. -/
def qb (c : UInt8) : List UInt8 := if c.toNat < 32 then [92, 117, 48, 48, hexd (c.toNat / 16), hexd (c.toNat % 16)] else if c = 34 ∨ c = 92 then [92, c] else [c]
def quote (s : List UInt8) : List UInt8 := 34 :: (s.flatMap qb ++ [34])
theorem qb_len (c : UInt8) : (qb c).length ≤ 6 := by
  unfold qb
  repeat (any_goals split)
  all_goals simp
theorem flat_len : ∀ s : List UInt8, (s.flatMap qb).length ≤ 6 * s.length
  | [] => by simp
  | c :: s => by have := qb_len c; have := flat_len s; simp only [List.flatMap_cons, List.length_append, List.length_cons]; omega
theorem quote_len (s : List UInt8) : (quote s).length ≤ 6 * s.length + 2 := by have := flat_len s; simp only [quote, List.length_cons, List.length_append, List.length_nil]; omega
theorem take_succ {α : Type} {l : List α} {i : Nat} {c : α} (h : l[i]? = some c) : l.take (i + 1) = l.take i ++ [c] := by
  rw [List.take_add_one, h]; rfl
theorem flat_snoc {s : List UInt8} {i : Nat} {c : UInt8} (h : s[i]? = some c) : (s.take (i + 1)).flatMap qb = (s.take i).flatMap qb ++ qb c := by
  rw [take_succ h, List.flatMap_append]; simp

/-- The digits of a number that is not negative. -/
def dec (n : Nat) : List UInt8 := if h : n < 10 then [UInt8.ofNat (48 + n)] else dec (n / 10) ++ [UInt8.ofNat (48 + n % 10)]
  termination_by n
  decreasing_by omega
theorem dec_lt {n : Nat} (h : n < 10) : dec n = [UInt8.ofNat (48 + n)] := by rw [dec]; simp [h]
theorem dec_ge {n : Nat} (h : ¬ n < 10) : dec n = dec (n / 10) ++ [UInt8.ofNat (48 + n % 10)] := by rw [dec]; simp [h]
def decI (n : Int) : List UInt8 := if n < 0 then 45 :: dec (-n).toNat else dec n.toNat
theorem dec_len : ∀ (q n : Nat), n < 10 ^ (q + 1) → (dec n).length ≤ q + 1
  | 0, n, h => by rw [dec_lt (by omega)]; simp
  | q + 1, n, h => by
    by_cases h1 : n < 10
    · rw [dec_lt h1]; simp
    · rw [dec_ge h1]
      have := dec_len q (n / 10) (by rw [Nat.div_lt_iff_lt_mul (by omega)]; rw [Nat.pow_succ] at h; omega)
      simp only [List.length_append, List.length_cons, List.length_nil]; omega
theorem ofNat_byte (c : UInt8) : UInt8.ofNat ((c.toNat : Int).toNat) = c := by simp
end Go.Proofs.Ytkekijhpolgcmaa.X
