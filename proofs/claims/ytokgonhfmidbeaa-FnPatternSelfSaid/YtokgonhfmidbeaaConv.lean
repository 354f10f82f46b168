/-
  Plain facts on the convolution of lists: it commutes, it is associative, the sum of a convolution is the product of the sums.
-/
import Derived.Test.YtokgonhfmidbeaaSeqLaw
namespace Go.Proofs.Ytokgonhfmidbeaa
open Go.RowKit

theorem sm_zero (n : Nat) : sm n (fun _ => 0) = 0 := by
  induction n with
  | zero => rfl
  | succ n ih => simp only [sm, ih]; rfl
theorem sm_add (n : Nat) (f g : Nat → Int) : sm n (fun i => f i + g i) = sm n f + sm n g := by
  induction n with
  | zero => rfl
  | succ n ih => simp only [sm, ih]; omega
theorem sm_mul (n : Nat) (c : Int) (f : Nat → Int) : sm n (fun i => c * f i) = c * sm n f := by
  induction n with
  | zero => simp [sm]
  | succ n ih => simp only [sm, ih, Int.mul_add]
theorem sm_mul_right (n : Nat) (c : Int) (f : Nat → Int) : sm n (fun i => f i * c) = sm n f * c := by
  induction n with
  | zero => simp [sm]
  | succ n ih => simp only [sm, ih, Int.add_mul]
theorem sm_front (n : Nat) (f : Nat → Int) : sm (n + 1) f = f 0 + sm n (fun i => f (i + 1)) := by
  induction n with
  | zero => simp [sm]
  | succ n ih => rw [sm, ih]; simp only [sm]; omega
theorem sm_rev (n : Nat) (f : Nat → Int) : sm (n + 1) f = sm (n + 1) (fun i => f (n - i)) := by
  induction n with
  | zero => rfl
  | succ n ih =>
    rw [sm_front (n + 1) (fun i => f (n + 1 - i))]
    simp only [Nat.sub_zero, Nat.add_sub_add_right]
    rw [← ih]
    simp only [sm]
    omega
theorem sm_split (n m : Nat) (f : Nat → Int) : sm (n + m) f = sm n f + sm m (fun i => f (n + i)) := by
  induction m with
  | zero => simp [sm]
  | succ m ih => rw [← Nat.add_assoc]; simp only [sm]; rw [ih]; omega
theorem sm_swap (n m : Nat) (f : Nat → Nat → Int) : sm n (fun i => sm m (fun j => f i j)) = sm m (fun j => sm n (fun i => f i j)) := by
  induction n with
  | zero => simp only [sm]; rw [sm_zero]
  | succ n ih => simp only [sm]; rw [ih, ← sm_add]
theorem sm_more {n m : Nat} {f : Nat → Int} (h : n ≤ m) (h0 : ∀ i, n ≤ i → i < m → f i = 0) : sm m f = sm n f := by
  obtain ⟨d, rfl⟩ : ∃ d, m = n + d := ⟨m - n, by omega⟩
  rw [sm_split, sm_congr (g := fun _ => 0) fun i hi => h0 (n + i) (by omega) (by omega), sm_zero]
  omega
/-- a triangle, by rows and by columns -/
theorem sm_tri (k : Nat) (f : Nat → Nat → Int) : sm k (fun j => sm (j + 1) (fun i => f i (j - i))) = sm k (fun i => sm (k - i) (fun d => f i d)) := by
  induction k with
  | zero => rfl
  | succ k ih =>
    have e : sm k (fun i => sm (k + 1 - i) (fun d => f i d)) = sm k (fun i => sm (k - i) (fun d => f i d) + f i (k - i)) := by
      apply sm_congr
      intro i hi
      rw [show k + 1 - i = (k - i) + 1 by omega]
      rfl
    show sm k _ + sm (k + 1) (fun i => f i (k - i)) = sm k (fun i => sm (k + 1 - i) (fun d => f i d)) + sm (k + 1 - k) (fun d => f k d)
    rw [ih, e, sm_add, show k + 1 - k = 1 by omega]
    simp only [sm, Nat.sub_self]
    omega

/-- the convolution of two functions on indices -/
def cv (A B : Nat → Int) (k : Nat) : Int := sm (k + 1) (fun i => A i * B (k - i))
theorem cv_comm (A B : Nat → Int) (k : Nat) : cv A B k = cv B A k := by
  unfold cv
  rw [sm_rev]
  apply sm_congr
  intro i hi
  rw [show k - (k - i) = i by omega, Int.mul_comm]
theorem cv_assoc (A B C : Nat → Int) (k : Nat) : cv (cv A B) C k = cv A (cv B C) k := by
  have h1 : cv (cv A B) C k = sm (k + 1) (fun j => sm (j + 1) (fun i => (fun i d => A i * (B d * C (k - i - d))) i (j - i))) := by
    unfold cv
    apply sm_congr
    intro j hj
    rw [← sm_mul_right]
    apply sm_congr
    intro i hi
    show A i * B (j - i) * C (k - j) = A i * (B (j - i) * C (k - i - (j - i)))
    rw [show k - i - (j - i) = k - j by omega, Int.mul_assoc]
  refine h1.trans ((sm_tri (k + 1) (fun i d => A i * (B d * C (k - i - d)))).trans ?_)
  unfold cv
  apply sm_congr
  intro i hi
  rw [show k + 1 - i = k - i + 1 by omega, ← sm_mul]

theorem getD_out {xs : List Int} {i : Nat} (h : xs.length ≤ i) : xs.getD i 0 = 0 := by simp [List.getD, List.getElem?_eq_none h]
theorem convF_cv (a b : List Int) (k : Nat) : convF a b k = cv (fun i => a.getD i 0) (fun i => b.getD i 0) k := by
  unfold convF cv
  by_cases h : k + 1 ≤ a.length
  · rw [sm_more h fun i h1 h2 => by unfold convT; rw [if_neg (by omega)]]
    apply sm_congr
    intro i hi
    unfold convT
    rw [if_pos (by omega)]
  · rw [sm_more (n := a.length) (m := k + 1) (by omega) fun i h1 h2 => by simp only [getD_out h1]; simp]
    apply sm_congr
    intro i hi
    unfold convT
    rw [if_pos (by omega)]
theorem conv_getD {a b : List Int} (k : Nat) : (conv a b).getD k 0 = cv (fun i => a.getD i 0) (fun i => b.getD i 0) k := by
  by_cases h : k < a.length + b.length - 1
  · unfold conv
    rw [rg_getD h, convF_cv]
  · rw [getD_out (by unfold conv; rw [rg_length]; omega)]
    unfold cv
    rw [sm_congr (g := fun _ => 0), sm_zero]
    intro i hi
    by_cases h1 : a.length ≤ i
    · simp only [getD_out h1]; simp
    · simp only [getD_out (show b.length ≤ k - i by omega)]; simp
theorem conv_length (a b : List Int) : (conv a b).length = a.length + b.length - 1 := rg_length _ _
theorem conv_comm (a b : List Int) : conv a b = conv b a := by
  apply list_ext_getD
  · rw [conv_length, conv_length, Nat.add_comm]
  · intro i _
    rw [conv_getD, conv_getD, cv_comm]
theorem conv_assoc {a b c : List Int} (hb : b.length ≠ 0) (hc : c.length ≠ 0) : conv (conv a b) c = conv a (conv b c) := by
  apply list_ext_getD
  · simp only [conv_length]; omega
  · intro i _
    rw [conv_getD, conv_getD]
    have e1 : (fun i => (conv a b).getD i 0) = cv (fun i => a.getD i 0) (fun i => b.getD i 0) := funext fun i => conv_getD i
    have e2 : (fun i => (conv b c).getD i 0) = cv (fun i => b.getD i 0) (fun i => c.getD i 0) := funext fun i => conv_getD i
    rw [e1, e2, cv_assoc]

def tot (xs : List Int) : Int := sm xs.length fun i => xs.getD i 0
theorem conv_tot {a b : List Int} : tot (conv a b) = tot a * tot b := by
  have h1 : tot (conv a b) = sm (a.length + b.length - 1) (fun k => sm a.length (fun i => convT a b k i)) := by
    unfold tot
    rw [conv_length]
    apply sm_congr
    intro k hk
    unfold conv
    rw [rg_getD hk]
    rfl
  rw [h1, sm_swap]
  unfold tot
  rw [← sm_mul_right]
  apply sm_congr
  intro i hi
  rw [← sm_mul]
  obtain ⟨m, hm⟩ : ∃ m, a.length + b.length - 1 = i + m := ⟨a.length + b.length - 1 - i, by omega⟩
  rw [hm, sm_split, sm_congr (n := i) (g := fun _ => 0) (fun k hk => by unfold convT; rw [if_neg (by omega)]), sm_zero, Int.zero_add]
  rw [sm_congr (n := m) (g := fun j => a.getD i 0 * b.getD j 0) (fun j _ => by unfold convT; rw [if_pos (by omega), show i + j - i = j by omega])]
  rw [sm_more (n := b.length) (m := m) (by omega) fun j h1 h2 => by rw [getD_out h1]; simp]

theorem conv_one (a : List Int) : conv a [1] = a := by
  apply list_ext_getD
  · rw [conv_length]; simp
  · intro k _
    rw [conv_comm, conv_getD]
    unfold cv
    rw [sm_front, sm_congr (n := k) (g := fun _ => 0), sm_zero]
    · simp
    · intro i _
      show ([1] : List Int).getD (i + 1) 0 * _ = 0
      simp

theorem filtOk_comm (a b : List Int) : filtOk a b = filtOk b a := by
  unfold filtOk
  cases seqOk a <;> cases seqOk b <;> by_cases h1 : a.length = 0 <;> by_cases h2 : b.length = 0 <;> simp [h1, h2]
theorem filt_comm (a b : List Int) : filt a b = filt b a := by
  unfold filt
  rw [filtOk_comm, conv_comm]
theorem filtOk_iff {a b : List Int} : filtOk a b = true ↔ ((seqOk a = true ∧ seqOk b = true) ∧ a.length ≠ 0) ∧ b.length ≠ 0 := by simp [filtOk]
theorem filtOk_len {a b : List Int} (h : filtOk a b = true) : (filt a b).length = a.length + b.length - 1 := by rw [filt_yes h, conv_length]
theorem filt_ne {a b : List Int} (h : filtOk a b = true) : (filt a b).length ≠ 0 := by
  have := filtOk_iff.1 h
  rw [filtOk_len h]; omega
theorem filt_nil {a b : List Int} (h : filtOk a b = false) : (filt a b).length = 0 := by rw [filt_no h]; rfl
theorem filt_groups {a b c : List Int} (h1 : filtOk a b = true) (h2 : filtOk b c = true) (h3 : seqOk (filt a b) = true) (h4 : seqOk (filt b c) = true) : filt (filt a b) c = filt a (filt b c) := by
  have k1 := filtOk_iff.1 h1
  have k2 := filtOk_iff.1 h2
  rw [filt_yes (filtOk_iff.2 ⟨⟨⟨h3, k2.1.1.2⟩, filt_ne h1⟩, k2.2⟩), filt_yes (filtOk_iff.2 ⟨⟨⟨k1.1.1.1, h4⟩, k1.1.2⟩, filt_ne h2⟩), filt_yes h1, filt_yes h2]
  exact conv_assoc k1.2 k2.2

def totTo (xs : List Int) (k : Nat) : Int := sm k fun i => xs.getD i 0
theorem totTo_all {xs : List Int} {n : Nat} (h : xs.length = n) : totTo xs n = tot xs := by rw [← h]; rfl
theorem totTo_succ {xs : List Int} {k : Nat} {x : Int} (h : xs.getD k 0 = x) : totTo xs (k + 1) = totTo xs k + x := by rw [← h]; rfl
theorem totTo_bound {xs : List Int} {c : Int} (h : ∀ i, -c ≤ xs.getD i 0 ∧ xs.getD i 0 ≤ c) (k : Nat) : -(k * c) ≤ totTo xs k ∧ totTo xs k ≤ k * c := sm_bound fun i _ => h i
theorem convcell_bound {xs ys : List Int} (hx : seqOk xs = true) (hy : seqOk ys = true) (i : Nat) : -65000000 ≤ (filt xs ys).getD i 0 ∧ (filt xs ys).getD i 0 ≤ 65000000 := by
  unfold filt
  split
  · by_cases h : i < xs.length + ys.length - 1
    · unfold conv
      rw [rg_getD h]
      have hn := seqOk_len hx
      have := sm_bound (n := xs.length) (f := convT xs ys i) (c := 1000000) fun j _ => convT_bound hx hy i j
      unfold convF
      omega
    · rw [getD_out (by rw [conv_length]; omega)]
      omega
  · simp

end Go.Proofs.Ytokgonhfmidbeaa
