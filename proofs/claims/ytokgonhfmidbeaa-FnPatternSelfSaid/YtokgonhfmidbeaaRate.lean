/-
  RaiseRate and LowerRate, of the program and of the reference: zeros between the numbers; every n-th number.
-/
import Derived.Test.YtokgonhfmidbeaaSeq
namespace Go.Proofs.Ytokgonhfmidbeaa
open Go.RowKit

def raiseOk (xs : List Int) (n : Int) : Bool := seqOk xs && inB n 1 8 && decide ((xs.length : Int) * n ≤ 64)
def raised (xs : List Int) (n : Nat) : List Int := rg (xs.length * n) fun j => if j % n = 0 then xs.getD (j / n) 0 else 0
def raise (xs : List Int) (n : Int) : List Int := if raiseOk xs n = true then raised xs n.toNat else []
theorem raise_yes {xs : List Int} {n : Int} (h : raiseOk xs n = true) : raise xs n = raised xs n.toNat := by simp [raise, h]
theorem raise_no {xs : List Int} {n : Int} (h : raiseOk xs n = false) : raise xs n = [] := by simp [raise, h]
theorem raise_step {N n k : Nat} {x : Int} {xs : List Int} (hn : 1 ≤ n) (hx : xs.getD k 0 = x) :
    (rg N fun j => if j % n = 0 ∧ j / n < k then xs.getD (j / n) 0 else 0).set (k * n) x = rg N fun j => if j % n = 0 ∧ j / n < k + 1 then xs.getD (j / n) 0 else 0 := by
  rw [rg_set]
  apply rg_congr
  intro j _
  by_cases h : j = k * n
  · subst h
    rw [if_pos rfl, Nat.mul_mod_left, Nat.mul_div_cancel _ (by omega), if_pos ⟨rfl, by omega⟩, hx]
  · rw [if_neg h]
    by_cases h1 : j % n = 0 ∧ j / n < k
    · rw [if_pos h1, if_pos ⟨h1.1, by omega⟩]
    · rw [if_neg h1, if_neg]
      rintro ⟨h2, h3⟩
      have h4 : j / n = k := by
        have : ¬ j / n < k := fun h5 => h1 ⟨h2, h5⟩
        omega
      have := Nat.div_add_mod j n
      rw [h4, h2, Nat.mul_comm] at this
      omega
theorem raise_all (xs : List Int) (n : Nat) : (rg (xs.length * n) fun j => if j % n = 0 ∧ j / n < xs.length then xs.getD (j / n) 0 else 0) = raised xs n := by
  apply rg_congr
  intro j _
  by_cases h1 : j % n = 0
  · by_cases h2 : j / n < xs.length
    · rw [if_pos ⟨h1, h2⟩, if_pos h1]
    · rw [if_neg (fun h => h2 h.2), if_pos h1]
      simp [List.getD, List.getElem?_eq_none (by omega : xs.length ≤ j / n)]
  · rw [if_neg (fun h => h1 h.1), if_neg h1]

def lowerN (len n p : Nat) : Nat := (len + n - 1 - p) / n
def lowered (xs : List Int) (n p : Nat) : List Int := rg (lowerN xs.length n p) fun j => xs.getD (p + j * n) 0
def lowerOk (xs : List Int) (n p : Int) : Bool := seqOk xs && inB n 1 8 && inB p 0 (n - 1)
def lower (xs : List Int) (n p : Int) : List Int := if lowerOk xs n p = true then lowered xs n.toNat p.toNat else []
theorem lower_yes {xs : List Int} {n p : Int} (h : lowerOk xs n p = true) : lower xs n p = lowered xs n.toNat p.toNat := by simp [lower, h]
theorem lower_no {xs : List Int} {n p : Int} (h : lowerOk xs n p = false) : lower xs n p = [] := by simp [lower, h]
theorem lower_lt {len n p j : Nat} (hn : 1 ≤ n) : j < lowerN len n p ↔ p + j * n < len := by
  unfold lowerN
  rw [Nat.lt_div_iff_mul_lt (by omega)]
  constructor <;> intro h <;> omega


theorem raise_next {n k d : Nat} {xs : List Int} (h : k % n = 0 → xs.getD d 0 = xs.getD (k / n) 0) :
    (rg k fun j => if j % n = 0 then xs.getD (j / n) 0 else 0) ++ [if k % n = 0 then xs.getD d 0 else 0] = rg (k + 1) fun j => if j % n = 0 then xs.getD (j / n) 0 else 0 := by
  rw [← rg_snoc]
  congr 2
  by_cases h1 : k % n = 0
  · rw [if_pos h1, if_pos h1, h h1]
  · rw [if_neg h1, if_neg h1]

/-! ### LowerRate -/
end Go.Proofs.Ytokgonhfmidbeaa
