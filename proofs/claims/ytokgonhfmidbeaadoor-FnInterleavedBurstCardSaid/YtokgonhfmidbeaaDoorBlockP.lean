/-
  The block code, plainly: seven bits for four, one inverted bit a word is found.
-/
import Derived.Test.YtokgonhfmidbeaaDoorBits
namespace Go.Proofs.YtokgonhfmidbeaaDoor
open Go.RowKit

/-- the word of four bits -/
def cw (a b c d : Int) : List Int := [(a + b + d) % 2, (a + c + d) % 2, a, (b + c + d) % 2, b, c, d]
/-- the word of group g of a list -/
def cwAt (xs : List Int) (g : Nat) : List Int := cw (xs.getD (4 * g) 0) (xs.getD (4 * g + 1) 0) (xs.getD (4 * g + 2) 0) (xs.getD (4 * g + 3) 0)
theorem cwAt_length (xs : List Int) (g : Nat) : (cwAt xs g).length = 7 := rfl
def encTo (xs : List Int) : Nat → List Int
  | 0 => []
  | g + 1 => encTo xs g ++ cwAt xs g
theorem encTo_length (xs : List Int) : ∀ g, (encTo xs g).length = 7 * g
  | 0 => rfl
  | g + 1 => by rw [encTo, List.length_append, encTo_length xs g, cwAt_length]; omega
def blOk (xs : List Int) : Bool := bitsOk xs && decide (xs.length % 4 = 0) && decide (xs.length ≤ 512)
theorem blOk_iff {xs : List Int} : blOk xs = true ↔ bitsOk xs = true ∧ xs.length % 4 = 0 ∧ xs.length ≤ 512 := by simp [blOk, and_assoc]
def encB (xs : List Int) : List Int := if blOk xs = true then encTo xs (xs.length / 4) else []
theorem encB_yes {xs : List Int} (h : blOk xs = true) : encB xs = encTo xs (xs.length / 4) := by simp [encB, h]
theorem encB_no {xs : List Int} (h : blOk xs = false) : encB xs = [] := by simp [encB, h]
theorem getD_left {p q : List Int} {i : Nat} (h : i < p.length) : (p ++ q).getD i 0 = p.getD i 0 := by
  simp [List.getD_eq_getElem?_getD, List.getElem?_append_left h]
theorem getD_right {p q : List Int} {i : Nat} (h : p.length ≤ i) : (p ++ q).getD i 0 = q.getD (i - p.length) 0 := by
  simp [List.getD_eq_getElem?_getD, List.getElem?_append_right h]
theorem encTo_getD (xs : List Int) : ∀ (G g i : Nat), g < G → i < 7 → (encTo xs G).getD (7 * g + i) 0 = (cwAt xs g).getD i 0
  | 0, g, _, h, _ => absurd h (by omega)
  | G + 1, g, i, h, hi => by
    rw [encTo]
    by_cases e : g = G
    · subst e
      rw [getD_right (by rw [encTo_length]; omega), encTo_length]
      congr 1
      omega
    · rw [getD_left (by rw [encTo_length]; omega)]
      exact encTo_getD xs G g i (by omega) hi
theorem cw_bit {a b c d : Int} (ha : a = 0 ∨ a = 1) (hb : b = 0 ∨ b = 1) (hc : c = 0 ∨ c = 1) (hd : d = 0 ∨ d = 1) : ∀ x ∈ cw a b c d, x = 0 ∨ x = 1 := by
  rcases ha with rfl | rfl <;> rcases hb with rfl | rfl <;> rcases hc with rfl | rfl <;> rcases hd with rfl | rfl <;> decide
/-- the exclusive or of the numbers of the first k places whose bit is 1, as a number below 8 -/
def synTo (ws : List Int) : Nat → Nat
  | 0 => 0
  | k + 1 => if ws.getD k 0 = 1 then synTo ws k ^^^ (k + 1) else synTo ws k
/-- a word with place p inverted -/
def inv1 (ws : List Int) (p : Nat) : List Int := ws.set p (1 - ws.getD p 0)
theorem syn_inv {a b c d : Int} (ha : a = 0 ∨ a = 1) (hb : b = 0 ∨ b = 1) (hc : c = 0 ∨ c = 1) (hd : d = 0 ∨ d = 1) {p : Nat} (hp : p < 7) : synTo (inv1 (cw a b c d) p) 7 = p + 1 := by
  have hp' : p = 0 ∨ p = 1 ∨ p = 2 ∨ p = 3 ∨ p = 4 ∨ p = 5 ∨ p = 6 := by omega
  rcases ha with rfl | rfl <;> rcases hb with rfl | rfl <;> rcases hc with rfl | rfl <;> rcases hd with rfl | rfl <;> rcases hp' with rfl | rfl | rfl | rfl | rfl | rfl | rfl <;> rfl

end Go.Proofs.YtokgonhfmidbeaaDoor
