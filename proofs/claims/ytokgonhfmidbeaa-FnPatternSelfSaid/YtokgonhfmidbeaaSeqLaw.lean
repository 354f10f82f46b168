/-
  Plain facts on valid sequences and on the convolution, for the laws.
-/
import Derived.Test.YtokgonhfmidbeaaFiltT
import Derived.Test.YtokgonhfmidbeaaDrawSeq
namespace Go.Proofs.Ytokgonhfmidbeaa
open Go.RowKit

theorem RdA.take {C : Nat} {w : World} {A : Option Addr} {n c : Nat} {xs : List Int} (h : RdA C w A n c xs) {k : Nat} (hk : k ≤ n) : RdA C w A k c (xs.take k) := by
  refine ⟨by rw [List.length_take, h.len]; omega, by have := h.le; omega, h.cap, by have := h.sm; omega, fun hn => ?_⟩
  obtain ⟨b, off, ha, hb, hc⟩ := h.cells (by omega)
  refine ⟨b, off, ha, hb, fun i hi => ?_⟩
  rw [hc i (by omega)]
  congr 2
  simp [List.getD, hi]
theorem seqOk_take {xs : List Int} (h : seqOk xs = true) (k : Nat) : seqOk (xs.take k) = true := by
  obtain ⟨h1, h2⟩ := seqOk_iff.1 h
  exact seqOk_iff.2 ⟨fun x hx => h1 x (List.mem_of_mem_take hx), by rw [List.length_take]; omega⟩
theorem neg_eq (xs : List Int) : (rg xs.length fun i => - xs.getD i 0) = xs.map fun x => -x := by
  apply List.ext_getElem?
  intro i
  by_cases hi : i < xs.length
  · rw [rg_get? hi]; simp [List.getD, hi]
  · rw [List.getElem?_eq_none (by rw [rg_length]; omega), List.getElem?_eq_none (by simp; omega)]
theorem seqOk_neg (xs : List Int) : seqOk (rg xs.length fun i => - xs.getD i 0) = seqOk xs := by
  rw [neg_eq, Bool.eq_iff_iff, seqOk_iff, seqOk_iff]
  simp only [List.length_map, List.mem_map]
  constructor
  · rintro ⟨h1, h2⟩
    exact ⟨fun x hx => by have := h1 (-x) ⟨x, hx, rfl⟩; omega, h2⟩
  · rintro ⟨h1, h2⟩
    refine ⟨?_, h2⟩
    rintro _ ⟨x, hx, rfl⟩
    have := h1 x hx
    omega

theorem sm_one {n : Nat} {f : Nat → Int} {j : Nat} (hj : j < n) (h : ∀ i, i < n → i ≠ j → f i = 0) : sm n f = f j := by
  induction n with
  | zero => omega
  | succ n ih =>
    simp only [sm]
    by_cases hjn : j = n
    · subst hjn
      have : sm j f = 0 := by
        have := sm_congr (n := j) (f := f) (g := fun _ => 0) fun i hi => h i (by omega) (by omega)
        rw [this]
        clear this h ih hj
        induction j with
        | zero => rfl
        | succ j ih => simp only [sm, ih]; rfl
      omega
    · rw [ih (by omega) fun i hi hne => h i (by omega) hne, h n (by omega) (by omega)]
      omega
theorem conv_delay {xs : List Int} (h : filtOk xs [0, 1] = true) : conv xs [0, 1] = 0 :: xs := by
  have hn : xs.length ≠ 0 := by intro h0; simp [filtOk, h0] at h
  unfold conv
  have hl : xs.length + ([0, 1] : List Int).length - 1 = (0 :: xs).length := by simp
  rw [hl, ← rg_self (0 :: xs), rg_length]
  apply rg_congr
  intro k hk
  simp only [List.length_cons] at hk
  unfold convF
  match k with
  | 0 =>
    rw [sm_congr (g := fun _ => 0)]
    · simp only [List.getD_cons_zero]
      clear h hn hl hk
      induction xs.length with
      | zero => rfl
      | succ n ih => simp only [sm, ih]; rfl
    · intro i _
      unfold convT
      by_cases h0 : i ≤ 0
      · obtain rfl : i = 0 := by omega
        simp
      · rw [if_neg h0]
  | k + 1 =>
    rw [sm_one (j := k) (by omega)]
    · simp [convT]
    · intro i hi hne
      unfold convT
      by_cases h0 : i ≤ k + 1
      · rw [if_pos h0]
        by_cases h1 : i = k + 1
        · subst h1; simp
        · have : [0, (1 : Int)].getD (k + 1 - i) 0 = 0 := by
            have h2 : 2 ≤ k + 1 - i := by omega
            simp [List.getD, List.getElem?_eq_none (show [0, (1 : Int)].length ≤ k + 1 - i by simp; omega)]
          rw [this]; simp
      · rw [if_neg h0]

end Go.Proofs.Ytokgonhfmidbeaa
