/-
  FilterSequence, of the program and of the reference: both return the same list of sums of products.
-/
import Derived.Test.YtokgonhfmidbeaaSeq
import Derived.StillTailTactics
namespace Go.Proofs.Ytokgonhfmidbeaa
open Go.RowKit

/-! ### sums, and the convolution -/
def sm : Nat → (Nat → Int) → Int
  | 0, _ => 0
  | n + 1, f => sm n f + f n
theorem sm_congr {n : Nat} {f g : Nat → Int} (h : ∀ i, i < n → f i = g i) : sm n f = sm n g := by
  induction n with
  | zero => rfl
  | succ n ih => simp only [sm]; rw [ih fun i hi => h i (by omega), h n (by omega)]
theorem sm_bound {n : Nat} {f : Nat → Int} {c : Int} (h : ∀ i, i < n → -c ≤ f i ∧ f i ≤ c) : -(n * c) ≤ sm n f ∧ sm n f ≤ n * c := by
  induction n with
  | zero => simp [sm]
  | succ n ih =>
    have h1 := ih fun i hi => h i (by omega)
    have h2 := h n (by omega)
    simp only [sm]
    have e : ((n + 1 : Nat) : Int) * c = n * c + c := by rw [Int.natCast_add, Int.add_mul]; simp
    rw [e]
    omega
theorem mul_bound {x y : Int} (hx : -1000 ≤ x ∧ x ≤ 1000) (hy : -1000 ≤ y ∧ y ≤ 1000) : -1000000 ≤ x * y ∧ x * y ≤ 1000000 := by
  have h := Int.natAbs_mul x y
  have h1 : x.natAbs ≤ 1000 := by omega
  have h2 : y.natAbs ≤ 1000 := by omega
  have h3 := Nat.mul_le_mul h1 h2
  omega

def convT (a b : List Int) (k i : Nat) : Int := if i ≤ k then a.getD i 0 * b.getD (k - i) 0 else 0
def convF (a b : List Int) (k : Nat) : Int := sm a.length (convT a b k)
def conv (a b : List Int) : List Int := rg (a.length + b.length - 1) (convF a b)
def filtOk (a b : List Int) : Bool := seqOk a && seqOk b && !decide (a.length = 0) && !decide (b.length = 0)
def filt (a b : List Int) : List Int := if filtOk a b = true then conv a b else []
/-- number k when the rows before i are done, and of row i the places before j -/
def cf (a b : List Int) (i j k : Nat) : Int := sm i (convT a b k) + if i ≤ k ∧ k - i < j then a.getD i 0 * b.getD (k - i) 0 else 0
theorem cf_start (a b : List Int) (i : Nat) : cf a b i 0 = fun k => sm i (convT a b k) := by
  funext k
  simp [cf]
theorem cf_end (a b : List Int) (i : Nat) : cf a b i b.length = fun k => sm (i + 1) (convT a b k) := by
  funext k
  simp only [cf, sm, convT]
  congr 1
  by_cases h1 : i ≤ k
  · by_cases h2 : k - i < b.length
    · rw [if_pos ⟨h1, h2⟩, if_pos h1]
    · rw [if_neg (by omega), if_pos h1]
      simp [List.getD, List.getElem?_eq_none (by omega : b.length ≤ k - i)]
  · rw [if_neg (by omega), if_neg h1]
theorem cf_step (a b : List Int) (n i j : Nat) {x y : Int} (hx : a.getD i 0 = x) (hy : b.getD j 0 = y) :
    (rg n (cf a b i j)).set (i + j) (cf a b i j (i + j) + x * y) = rg n (cf a b i (j + 1)) := by
  rw [rg_set]
  apply rg_congr
  intro k _
  by_cases h : k = i + j
  · subst h
    rw [if_pos rfl]
    simp only [cf]
    rw [if_neg (by omega), if_pos ⟨by omega, by omega⟩, show i + j - i = j by omega, hx, hy]
    omega
  · rw [if_neg h]
    simp only [cf]
    congr 1
    by_cases h1 : i ≤ k ∧ k - i < j
    · rw [if_pos h1, if_pos ⟨h1.1, by omega⟩]
    · rw [if_neg h1, if_neg (by omega)]
theorem convT_bound {a b : List Int} (ha : seqOk a = true) (hb : seqOk b = true) (k i : Nat) : -1000000 ≤ convT a b k i ∧ convT a b k i ≤ 1000000 := by
  unfold convT
  split
  · exact mul_bound (seqOk_at ha i) (seqOk_at hb _)
  · omega
theorem cf_bound {a b : List Int} (ha : seqOk a = true) (hb : seqOk b = true) {i : Nat} (hi : i ≤ 64) (j k : Nat) : -65000000 ≤ cf a b i j k ∧ cf a b i j k ≤ 65000000 := by
  have h1 := sm_bound (n := i) (f := convT a b k) (c := 1000000) fun i _ => convT_bound ha hb k i
  have h2 := mul_bound (seqOk_at ha i) (seqOk_at hb (k - i))
  unfold cf
  split <;> omega
theorem cf_all (a b : List Int) (n : Nat) : rg n (cf a b a.length 0) = rg n (convF a b) := by rw [cf_start]; rfl
theorem filt_no {a b : List Int} (h : filtOk a b = false) : filt a b = [] := by simp [filt, h]
theorem filt_yes {a b : List Int} (h : filtOk a b = true) : filt a b = conv a b := by simp [filt, h]

end Go.Proofs.Ytokgonhfmidbeaa
