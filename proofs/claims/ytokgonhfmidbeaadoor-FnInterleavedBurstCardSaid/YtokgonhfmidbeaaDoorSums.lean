/-
  Plain facts on sums of finitely many integers. Nothing here speaks of the program.
-/
namespace Go.Proofs.YtokgonhfmidbeaaDoor
/-! ### sums -/
def sumN (f : Nat → Int) : Nat → Int
  | 0 => 0
  | n + 1 => sumN f n + f n
theorem sumN_congr {f g : Nat → Int} {n : Nat} (h : ∀ i, i < n → f i = g i) : sumN f n = sumN g n := by
  induction n with
  | zero => rfl
  | succ n ih => simp only [sumN]; rw [ih fun i hi => h i (by omega), h n (by omega)]
theorem sumN_add (f g : Nat → Int) (n : Nat) : sumN (fun i => f i + g i) n = sumN f n + sumN g n := by
  induction n with
  | zero => rfl
  | succ n ih => simp only [sumN, ih]; omega
theorem sumN_mul (c : Int) (f : Nat → Int) (n : Nat) : sumN (fun i => c * f i) n = c * sumN f n := by
  induction n with
  | zero => simp [sumN]
  | succ n ih => simp only [sumN, ih]; rw [Int.mul_add]
theorem sumN_mulr (c : Int) (f : Nat → Int) (n : Nat) : sumN (fun i => f i * c) n = sumN f n * c := by
  rw [Int.mul_comm, ← sumN_mul]
  exact sumN_congr fun i _ => Int.mul_comm _ _
theorem sumN_swap (f : Nat → Nat → Int) (n m : Nat) : sumN (fun i => sumN (fun j => f i j) m) n = sumN (fun j => sumN (fun i => f i j) n) m := by
  induction n with
  | zero => induction m with
    | zero => rfl
    | succ m ih => simp only [sumN] at ih ⊢; rw [← ih]; rfl
  | succ n ih => simp only [sumN]; rw [ih, sumN_add]
theorem sumN_zero (n : Nat) : sumN (fun _ => 0) n = 0 := by
  induction n with
  | zero => rfl
  | succ n ih => simp [sumN, ih]
/-- only one place counts -/
theorem sumN_one (f : Nat → Int) (n k : Nat) (hk : k < n) (h : ∀ i, i < n → i ≠ k → f i = 0) : sumN f n = f k := by
  induction n with
  | zero => omega
  | succ n ih =>
    simp only [sumN]
    by_cases hkn : k = n
    · subst hkn
      rw [sumN_congr (g := fun _ => 0) (fun i hi => h i (by omega) (by omega)), sumN_zero]; omega
    · rw [ih (by omega) (fun i hi hne => h i (by omega) hne), h n (by omega) (by omega)]; omega
/-- evens and odds -/
theorem sumN_split (f : Nat → Int) (n : Nat) : sumN f (2 * n) = sumN (fun i => f (2 * i)) n + sumN (fun i => f (2 * i + 1)) n := by
  induction n with
  | zero => rfl
  | succ n ih =>
    show sumN f (2 * n + 2) = _
    simp only [sumN, ih]; omega
theorem sumN_front (f : Nat → Int) (n : Nat) : sumN f (n + 1) = f 0 + sumN (fun i => f (i + 1)) n := by
  induction n with
  | zero => simp [sumN]
  | succ n ih => rw [sumN, ih]; simp only [sumN]; omega


/-- a sum over a table, row by row -/
theorem sumN_table (f : Nat → Int) (r c : Nat) : sumN f (r * c) = sumN (fun i => sumN (fun j => f (i * c + j)) c) r := by
  have tail : ∀ a b, sumN f (a + b) = sumN f a + sumN (fun j => f (a + j)) b := by
    intro a b
    induction b with
    | zero => simp [sumN]
    | succ b ih => rw [← Nat.add_assoc]; simp only [sumN, ih]; omega
  induction r with
  | zero => simp [sumN]
  | succ r ih => rw [Nat.add_mul, Nat.one_mul, tail, ih]; rfl
end Go.Proofs.YtokgonhfmidbeaaDoor
