/-
  Plain facts on sums modulo 257: the butterflies compute the transform; a shift multiplies; the transform turns a cyclic product into a product. Nothing here speaks of the program.
-/
import Derived.Test.YtmjghkpijphfbaaSums
namespace Go.Proofs.Ytmjghkpijphfbaa
/-! ### numbers modulo 257 -/
def Cg (a b : Int) : Prop := a % 257 = b % 257
theorem Cg.refl (a : Int) : Cg a a := rfl
theorem Cg.symm {a b : Int} (h : Cg a b) : Cg b a := Eq.symm h
theorem Cg.trans {a b c : Int} (h : Cg a b) (k : Cg b c) : Cg a c := Eq.trans h k
theorem Cg.mod (a : Int) : Cg (a % 257) a := by unfold Cg; omega
theorem Cg.add {a b c d : Int} (h : Cg a b) (k : Cg c d) : Cg (a + c) (b + d) := by unfold Cg at *; omega
theorem Cg.sub {a b c d : Int} (h : Cg a b) (k : Cg c d) : Cg (a - c) (b - d) := by unfold Cg at *; omega
theorem Cg.mul {a b c d : Int} (h : Cg a b) (k : Cg c d) : Cg (a * c) (b * d) := by
  unfold Cg at *; rw [Int.mul_emod, h, k, ← Int.mul_emod]
theorem Cg.pow {a b : Int} (h : Cg a b) (n : Nat) : Cg (a ^ n) (b ^ n) := by
  induction n with
  | zero => simp [Cg]
  | succ n ih => rw [Int.pow_succ, Int.pow_succ]; exact ih.mul h
theorem Cg.sum {f g : Nat → Int} {n : Nat} (h : ∀ i, i < n → Cg (f i) (g i)) : Cg (sumN f n) (sumN g n) := by
  induction n with
  | zero => exact rfl
  | succ n ih => exact (ih fun i hi => h i (by omega)).add (h n (by omega))

/-- the powers of a number, modulo 257 -/
def pw (a : Int) : Nat → Int
  | 0 => 1
  | n + 1 => pw a n * a % 257
theorem pw_cg (a : Int) (n : Nat) : Cg (pw a n) (a ^ n) := by
  induction n with
  | zero => simp [Cg, pw]
  | succ n ih => rw [Int.pow_succ]; exact (Cg.mod _).trans (ih.mul (Cg.refl _))
theorem pw_in (a : Int) (n : Nat) : 0 ≤ pw a n ∧ pw a n ≤ 256 := by
  cases n with
  | zero => simp [pw]
  | succ n => simp only [pw]; omega
theorem mod_of {a b : Int} (h : Cg a b) (h0 : 0 ≤ a) (h1 : a ≤ 256) : a = b % 257 := by unfold Cg at h; omega

/-! ### the transform -/
/-- number k of the transform with the root r of n numbers x -/
def ft (x : Nat → Int) (r : Int) (n k : Nat) : Int := sumN (fun j => x j * r ^ (j * k)) n % 257

/-- one round of the butterflies: E and O are the transforms of the evens and of the odds with the square of the root -/
theorem butterfly {x : Nat → Int} {r : Int} {n k : Nat} (s : Int) (hs : Cg s (r * r)) :
    Cg (ft (fun i => x (2 * i)) s n k + ft (fun i => x (2 * i + 1)) s n k * pw r k % 257) (sumN (fun j => x j * r ^ (j * k)) (2 * n)) := by
  rw [sumN_split]
  have e1 : Cg (ft (fun i => x (2 * i)) s n k) (sumN (fun i => x (2 * i) * r ^ (2 * i * k)) n) := by
    refine (Cg.mod _).trans (Cg.sum fun i _ => (Cg.refl _).mul ?_)
    refine (hs.pow _).trans ?_
    rw [show 2 * i * k = i * k + i * k by rw [Nat.mul_assoc]; omega, Int.pow_add, Int.mul_pow]
    exact rfl
  have e2 : Cg (ft (fun i => x (2 * i + 1)) s n k * pw r k % 257) (sumN (fun i => x (2 * i + 1) * r ^ ((2 * i + 1) * k)) n) := by
    refine (Cg.mod _).trans ?_
    have : Cg (ft (fun i => x (2 * i + 1)) s n k) (sumN (fun i => x (2 * i + 1) * r ^ (2 * i * k)) n) := by
      refine (Cg.mod _).trans (Cg.sum fun i _ => (Cg.refl _).mul ?_)
      refine (hs.pow _).trans ?_
      rw [show 2 * i * k = i * k + i * k by rw [Nat.mul_assoc]; omega, Int.pow_add, Int.mul_pow]
      exact rfl
    refine (this.mul (pw_cg r k)).trans ?_
    rw [← sumN_mulr]
    refine Cg.sum fun i _ => ?_
    rw [Int.mul_assoc, ← Int.pow_add, show 2 * i * k + k = (2 * i + 1) * k by rw [Nat.add_mul]; omega]
    exact rfl
  exact e1.add e2

/-- what the butterflies compute, 2^d numbers -/
def bf : Nat → (Nat → Int) → Int → Nat → Int
  | 0, x, _, _ => x 0
  | d + 1, x, r, k => if k < 2 ^ d then (bf d (fun i => x (2 * i)) (r * r % 257) k + bf d (fun i => x (2 * i + 1)) (r * r % 257) k * pw r k % 257) % 257
      else (bf d (fun i => x (2 * i)) (r * r % 257) (k - 2 ^ d) - bf d (fun i => x (2 * i + 1)) (r * r % 257) (k - 2 ^ d) * pw r (k - 2 ^ d) % 257 + 257) % 257
theorem one_pow' (n : Nat) : (1 : Int) ^ n = 1 := Int.one_pow
theorem ft_next {x : Nat → Int} {s : Int} {n k : Nat} (h : Cg (s ^ n) 1) : ft x s n (k + n) = ft x s n k := by
  refine Cg.sum fun j _ => (Cg.refl _).mul ?_
  rw [Nat.mul_add, Int.pow_add, show s ^ (j * n) = (s ^ n) ^ j by rw [Nat.mul_comm, Int.pow_mul]]
  have := (Cg.refl (s ^ (j * k))).mul (h.pow j)
  rwa [one_pow', Int.mul_one] at this
theorem bf_ft (d : Nat) : ∀ (x : Nat → Int) (r : Int), (∀ i, i < 2 ^ d → 0 ≤ x i ∧ x i ≤ 256) → (1 ≤ d → Cg (r ^ 2 ^ (d - 1)) (-1)) → ∀ k, k < 2 ^ d → bf d x r k = ft x r (2 ^ d) k := by
  induction d with
  | zero =>
    intro x r hx _ k hk
    obtain rfl : k = 0 := by simpa using hk
    have := hx 0 (by simp)
    simp [bf, ft, sumN]; omega
  | succ d ih =>
    intro x r hx hr k hk
    have hr' := hr (by omega)
    simp only [Nat.add_sub_cancel] at hr'
    have hs : Cg (r * r % 257) (r * r) := Cg.mod _
    have hsp : ∀ m, Cg ((r * r % 257) ^ m) (r ^ (2 * m)) := fun m => by
      refine (hs.pow m).trans ?_
      rw [Int.mul_pow, ← Int.pow_add, show m + m = 2 * m by omega]; exact rfl
    have hs1 : Cg ((r * r % 257) ^ 2 ^ d) 1 := by
      refine (hsp _).trans ?_
      rw [show 2 * 2 ^ d = 2 ^ d + 2 ^ d by omega, Int.pow_add]
      exact hr'.mul hr'
    have hs2 : 1 ≤ d → Cg ((r * r % 257) ^ 2 ^ (d - 1)) (-1) := fun hd => by
      refine (hsp _).trans ?_
      have : 2 * 2 ^ (d - 1) = 2 ^ d := by
        obtain ⟨e, rfl⟩ : ∃ e, d = e + 1 := ⟨d - 1, by omega⟩
        simp only [Nat.add_sub_cancel, Nat.pow_succ]; omega
      rw [this]; exact hr'
    have h2 : 2 ^ (d + 1) = 2 * 2 ^ d := by rw [Nat.pow_succ]; omega
    have E := ih (fun i => x (2 * i)) (r * r % 257) (fun i hi => hx _ (by omega)) hs2
    have O := ih (fun i => x (2 * i + 1)) (r * r % 257) (fun i hi => hx _ (by omega)) hs2
    by_cases hlt : k < 2 ^ d
    · rw [bf, if_pos hlt, E k hlt, O k hlt, ft, h2]
      exact butterfly (r * r % 257) hs
    · have hk' : k - 2 ^ d < 2 ^ d := by omega
      rw [bf, if_neg hlt, E _ hk', O _ hk']
      obtain ⟨m, rfl⟩ : ∃ m, k = m + 2 ^ d := ⟨k - 2 ^ d, by omega⟩
      rw [Nat.add_sub_cancel] at *
      rw [h2]
      have B := butterfly (x := x) (r := r) (n := 2 ^ d) (k := m + 2 ^ d) (r * r % 257) hs
      rw [ft_next hs1, ft_next hs1] at B
      refine Cg.trans ?_ B
      have hp : Cg (pw r (m + 2 ^ d)) (-(pw r m)) := by
        refine (pw_cg _ _).trans ?_
        rw [Int.pow_add]
        have := (pw_cg r m).symm.mul hr'
        rwa [show pw r m * -1 = -(pw r m) by omega] at this
      generalize ft (fun i => x (2 * i)) (r * r % 257) (2 ^ d) m = A
      generalize ft (fun i => x (2 * i + 1)) (r * r % 257) (2 ^ d) m = F
      have h3 := (Cg.refl F).mul hp
      rw [Int.mul_neg] at h3
      unfold Cg at *
      omega

/-! ### the reference's way -/
def ss (x : Nat → Int) (W : Int) : Nat → Int
  | 0 => 0
  | j + 1 => (ss x W j + x j * pw W j) % 257
theorem ss_cg (x : Nat → Int) (W : Int) (n : Nat) : Cg (ss x W n) (sumN (fun j => x j * pw W j) n) := by
  induction n with
  | zero => exact rfl
  | succ n ih => exact (Cg.mod _).trans (ih.add (Cg.refl _))
theorem ss_in (x : Nat → Int) (W : Int) (n : Nat) : 0 ≤ ss x W n ∧ ss x W n ≤ 256 := by
  cases n with
  | zero => simp [ss]
  | succ n => simp only [ss]; omega
theorem ss_ft (x : Nat → Int) (r : Int) (n k : Nat) : ss x (pw r k) n = ft x r n k := by
  refine mod_of ?_ (ss_in _ _ _).1 (ss_in _ _ _).2
  refine (ss_cg _ _ _).trans (Cg.sum fun j _ => (Cg.refl _).mul ?_)
  refine (pw_cg _ _).trans (((pw_cg r k).pow j).trans ?_)
  rw [← Int.pow_mul, Nat.mul_comm]; exact rfl
theorem ft_in (x : Nat → Int) (r : Int) (n k : Nat) : 0 ≤ ft x r n k ∧ ft x r n k ≤ 256 := by unfold ft; omega
theorem ft_congr {x y : Nat → Int} {r : Int} {n k : Nat} (h : ∀ i, i < n → x i = y i) : ft x r n k = ft y r n k := by
  unfold ft; rw [sumN_congr fun i hi => by rw [h i hi]]

/-! ### shifting a list by one place multiplies -/
theorem ft_shift (x : Nat → Int) (k : Nat) : ft (fun j => if j = 0 then x 15 else x (j - 1)) 2 16 k = ft x 2 16 k * pw 2 k % 257 := by
  show Cg _ _
  refine Cg.trans ?_ ((Cg.mod _).symm.mul (pw_cg 2 k).symm)
  rw [sumN_front]
  rw [sumN_congr (g := fun j => (x j * 2 ^ (j * k)) * 2 ^ k) (fun j _ => by
    show (if j + 1 = 0 then x 15 else x (j + 1 - 1)) * _ = _
    rw [if_neg (by omega), Nat.add_sub_cancel, Nat.add_mul, Nat.one_mul, Int.pow_add, Int.mul_assoc])]
  rw [sumN_mulr]
  show Cg _ ((sumN _ 15 + x 15 * 2 ^ (15 * k)) * 2 ^ k)
  rw [Int.add_mul, Int.add_comm]
  refine (Cg.refl _).add ?_
  show Cg (x 15 * 2 ^ (0 * k)) _
  rw [Nat.zero_mul, Int.pow_zero, Int.mul_assoc, ← Int.pow_add, show 15 * k + k = 16 * k by omega, Int.pow_mul]
  refine (Cg.refl _).mul ?_
  have : Cg ((2 : Int) ^ 16) 1 := by show (2 : Int) ^ 16 % 257 = 1 % 257; decide
  have := (this.pow k).symm
  rwa [one_pow'] at this

/-! ### the transform of a cyclic product -/
def sumM (f : Nat → Nat) : Nat → Nat
  | 0 => 0
  | n + 1 => sumM f n + f n
theorem sumM_cast (f : Nat → Nat) (n : Nat) : ((sumM f n : Nat) : Int) = sumN (fun i => (f i : Int)) n := by
  induction n with
  | zero => rfl
  | succ n ih => simp only [sumM, sumN, ← ih]; omega
theorem kernel16 : ∀ m < 16, ∀ l < 16, ∀ k < 16, (sumM (fun j => 2 ^ (m * j) * 2 ^ (l * j) * 129 ^ (j * k)) 16 * 241) % 257 = if l = (k + 16 - m) % 16 then 1 else 0 := by decide +kernel
theorem kernelZ {m l k : Nat} (hm : m < 16) (hl : l < 16) (hk : k < 16) : Cg (sumN (fun j => (2 : Int) ^ (m * j) * 2 ^ (l * j) * 129 ^ (j * k)) 16 * 241) (if l = (k + 16 - m) % 16 then 1 else 0) := by
  have h := kernel16 m hm l hl k hk
  have e : sumN (fun j => (2 : Int) ^ (m * j) * 2 ^ (l * j) * 129 ^ (j * k)) 16 = ((sumM (fun j => 2 ^ (m * j) * 2 ^ (l * j) * 129 ^ (j * k)) 16 : Nat) : Int) := by
    rw [sumM_cast]
    exact sumN_congr fun j _ => by simp
  rw [e]
  unfold Cg
  split at h <;> split <;> first | contradiction | omega
def cyc (a b : Nat → Int) (k n : Nat) : Int := sumN (fun j => a j * b ((k + 16 - j) % 16)) n
theorem conv {a b z : Nat → Int} (hz : ∀ j, j < 16 → z j = ft a 2 16 j * ft b 2 16 j % 257) {k : Nat} (hk : k < 16) : ft z 129 16 k * 241 % 257 = cyc a b k 16 % 257 := by
  show Cg _ _
  refine ((Cg.mod _).mul (Cg.refl _)).trans ?_
  have h1 : Cg (sumN (fun j => z j * 129 ^ (j * k)) 16) (sumN (fun j => sumN (fun m => sumN (fun l => a m * b l * ((2 : Int) ^ (m * j) * 2 ^ (l * j) * 129 ^ (j * k))) 16) 16) 16) := by
    refine Cg.sum fun j hj => ?_
    rw [hz j hj]
    refine ((Cg.mod _).mul (Cg.refl _)).trans ?_
    refine (((Cg.mod _).mul (Cg.mod _)).mul (Cg.refl _)).trans ?_
    rw [← sumN_mulr, ← sumN_mulr]
    refine Cg.sum fun m hm => ?_
    rw [← sumN_mul, ← sumN_mulr]
    refine Cg.sum fun l hl => ?_
    rw [show a m * 2 ^ (m * j) * (b l * 2 ^ (l * j)) * 129 ^ (j * k) = a m * b l * (2 ^ (m * j) * 2 ^ (l * j) * 129 ^ (j * k)) by
      generalize (2 : Int) ^ (m * j) = A; generalize (2 : Int) ^ (l * j) = B; generalize (129 : Int) ^ (j * k) = D; grind]
    exact Cg.refl _
  refine (h1.mul (Cg.refl _)).trans ?_
  rw [sumN_swap, ← sumN_mulr]
  refine Cg.sum fun m hm => ?_
  rw [sumN_swap, ← sumN_mulr]
  have h2 : Cg (sumN (fun l => sumN (fun j => a m * b l * ((2 : Int) ^ (m * j) * 2 ^ (l * j) * 129 ^ (j * k))) 16 * 241) 16) (sumN (fun l => a m * b l * if l = (k + 16 - m) % 16 then 1 else 0) 16) := by
    refine Cg.sum fun l hl => ?_
    rw [sumN_mul, Int.mul_assoc]
    exact (Cg.refl _).mul (kernelZ hm hl hk)
  refine h2.trans ?_
  rw [sumN_one _ 16 ((k + 16 - m) % 16) (by omega) (fun i _ hne => by rw [if_neg hne, Int.mul_zero])]
  rw [if_pos rfl, Int.mul_one]
  exact Cg.refl _

theorem bf_congr (d : Nat) : ∀ (x y : Nat → Int) (r : Int), (∀ i, i < 2 ^ d → x i = y i) → ∀ k, bf d x r k = bf d y r k := by
  induction d with
  | zero => intro x y r h k; exact h 0 (by simp)
  | succ d ih =>
    intro x y r h k
    have h2 : 2 ^ (d + 1) = 2 * 2 ^ d := by rw [Nat.pow_succ]; omega
    have e1 := ih (fun i => x (2 * i)) (fun i => y (2 * i)) (r * r % 257) (fun i hi => h _ (by omega))
    have e2 := ih (fun i => x (2 * i + 1)) (fun i => y (2 * i + 1)) (r * r % 257) (fun i hi => h _ (by omega))
    simp only [bf, e1, e2]
theorem bf_in (d : Nat) (x : Nat → Int) (r : Int) (k : Nat) (h : 0 ≤ x 0 ∧ x 0 ≤ 256) : 0 ≤ bf d x r k ∧ bf d x r k ≤ 256 := by
  cases d with
  | zero => exact h
  | succ d => simp only [bf]; split <;> omega

end Go.Proofs.Ytmjghkpijphfbaa
