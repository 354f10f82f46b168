/-
  Plain facts on correlations, rates and the best place of a pattern, for the laws.
-/
import Derived.Test.YtokgonhfmidbeaaConv
import Derived.Test.YtokgonhfmidbeaaDrawFilt
namespace Go.Proofs.Ytokgonhfmidbeaa
open Go.RowKit

theorem corr_zero1 {xs ys : List Int} {i : Int} (h : seqOk xs = false) : corr xs ys i = 0 := corr_no (by simp [corrOk, h])
theorem corr_zero2 {xs ys : List Int} {i : Int} (h : seqOk ys = false) : corr xs ys i = 0 := corr_no (by simp [corrOk, h])
theorem corr_zero3 {xs ys : List Int} {i : Int} (h : i < 0) : corr xs ys i = 0 := corr_no (by rw [corrOk, inB_lo (by omega)]; simp)
theorem corr_zero4 {xs ys : List Int} {i : Int} (h : (xs.length : Int) - ys.length < i) : corr xs ys i = 0 := corr_no (by rw [corrOk, inB_hi (by omega)]; simp)
theorem corr_zero5 {xs ys : List Int} {i : Int} (h : ys.length = 0) : corr xs ys i = 0 := by
  unfold corr
  split
  · unfold dotF; rw [h]; rfl
  · rfl
theorem turned_eq (ys : List Int) : (rg ys.length fun i => ys.getD (ys.length - 1 - i) 0) = ys.reverse := by
  apply List.ext_getElem?
  intro i
  by_cases hi : i < ys.length
  · rw [rg_get? hi, List.getElem?_reverse hi]
    simp [List.getD, List.getElem?_eq_getElem (show ys.length - 1 - i < ys.length by omega)]
  · rw [List.getElem?_eq_none (by rw [rg_length]; omega), List.getElem?_eq_none (by simp; omega)]
theorem seqOk_reverse {ys : List Int} (h : seqOk ys = true) : seqOk ys.reverse = true := by
  obtain ⟨h1, h2⟩ := seqOk_iff.1 h
  exact seqOk_iff.2 ⟨fun x hx => h1 x (List.mem_reverse.1 hx), by simpa using h2⟩
/-- a correlation is a number of the convolution with the reversed pattern -/
theorem corr_filt {xs ys : List Int} {a : Nat} (s1 : seqOk xs = true) (s2 : seqOk ys = true) (hm : ys.length ≠ 0) (ha : a + ys.length ≤ xs.length) :
    filtOk xs ys.reverse = true ∧ (filt xs ys.reverse).getD (a + ys.length - 1) 0 = corr xs ys a := by
  have hok : filtOk xs ys.reverse = true := filtOk_iff.2 ⟨⟨⟨s1, seqOk_reverse s2⟩, by omega⟩, by simpa using hm⟩
  refine ⟨hok, ?_⟩
  rw [filt_yes hok, conv_getD, corr_dot s1 s2 rfl rfl ha]
  unfold cv dotF
  rw [show a + ys.length - 1 + 1 = a + ys.length by omega, sm_split, sm_congr (n := a) (g := fun _ => 0), sm_zero, Int.zero_add]
  · apply sm_congr
    intro k hk
    congr 1
    show ys.reverse.getD (a + ys.length - 1 - (a + k)) 0 = _
    rw [show a + ys.length - 1 - (a + k) = ys.length - 1 - k by omega]
    simp only [List.getD]
    rw [List.getElem?_reverse (by omega), show ys.length - 1 - (ys.length - 1 - k) = k by omega]
  · intro i hi
    show xs.getD i 0 * ys.reverse.getD (a + ys.length - 1 - i) 0 = 0
    rw [getD_out (xs := ys.reverse) (by simp; omega)]
    simp

/-! ### the best place -/
theorem fpTo_best (xs ys : List Int) (K : Nat) : ∀ k, k < K → 0 ≤ fpTo xs ys K ∧ dotF xs ys k ≤ dotF xs ys (fpTo xs ys K).toNat ∧ ((k : Int) < fpTo xs ys K → dotF xs ys k < dotF xs ys (fpTo xs ys K).toNat) := by
  induction K with
  | zero => intro k hk; omega
  | succ K ih =>
    intro k hk
    have hin := fpTo_in xs ys K
    simp only [fpTo]
    split
    · rename_i hc
      refine ⟨by omega, ?_, ?_⟩
      · rw [Int.toNat_natCast]
        by_cases hkK : k = K
        · subst hkK; exact Int.le_refl _
        · have := ih k (by omega)
          rcases hc with hc | hc <;> omega
      · intro hlt
        rw [Int.toNat_natCast]
        have := ih k (by omega)
        rcases hc with hc | hc <;> omega
    · rename_i hc
      by_cases hkK : k = K
      · subst hkK
        refine ⟨by omega, by omega, fun h => by omega⟩
      · exact ih k (by omega)

/-! ### rates -/
theorem seqOk_raised {xs : List Int} {n : Nat} (h : seqOk xs = true) (hl : xs.length * n ≤ 64) : seqOk (raised xs n) = true := by
  refine seqOk_iff.2 ⟨fun x hx => ?_, by unfold raised; rw [rg_length]; exact hl⟩
  unfold raised rg at hx
  obtain ⟨j, _, rfl⟩ := List.mem_map.1 hx
  split
  · exact seqOk_at h _
  · omega
theorem lowerN_raised {L n p : Nat} (hn : 1 ≤ n) (hp : p < n) : lowerN (L * n) n p = L := by
  unfold lowerN
  rw [show L * n + n - 1 - p = (n - 1 - p) + L * n by omega, Nat.add_mul_div_right _ _ (by omega), Nat.div_eq_of_lt (by omega), Nat.zero_add]
theorem lower_raised {xs : List Int} {n p : Nat} (s : seqOk xs = true) (hn : 1 ≤ n) (hn8 : n ≤ 8) (hl : xs.length * n ≤ 64) (hp : p < n) :
    lower (raised xs n) n p = if p = 0 then xs else List.replicate xs.length 0 := by
  have hok : lowerOk (raised xs n) n p = true := by
    rw [lowerOk, seqOk_raised s hl, inB_yes (by omega) (by omega), inB_yes (by omega) (by omega)]; rfl
  rw [lower_yes hok]
  unfold lowered
  have hlen : (raised xs n).length = xs.length * n := rg_length _ _
  rw [hlen, Int.toNat_natCast, Int.toNat_natCast, lowerN_raised hn hp]
  have e : ∀ j, j < xs.length → (raised xs n).getD (p + j * n) 0 = if p = 0 then xs.getD j 0 else 0 := by
    intro j hj
    unfold raised
    have hlt : p + j * n < xs.length * n := by
      have h3 : (j + 1) * n ≤ xs.length * n := Nat.mul_le_mul_right n hj
      rw [Nat.add_mul] at h3
      omega
    rw [rg_getD hlt, Nat.add_mul_mod_self_right, Nat.mod_eq_of_lt hp, Nat.add_mul_div_right _ _ (by omega), Nat.div_eq_of_lt hp, Nat.zero_add]
  rw [rg_congr e]
  by_cases h0 : p = 0
  · simp only [if_pos h0]; exact rg_self xs
  · simp only [if_neg h0]; exact (rg_zero _).symm
theorem lowerN_step {t n d : Nat} (hn : 0 < n) (hd : d < n) : lowerN (t + 1) n d = lowerN t n d + if t % n = d then 1 else 0 := by
  unfold lowerN
  have hm := Nat.div_add_mod t n
  have hl := Nat.mod_lt t hn
  generalize t / n = q at hm
  generalize t % n = m at hm hl
  subst hm
  by_cases h : m = d
  · subst h
    rw [if_pos rfl, show n * q + m + 1 + n - 1 - m = n * (q + 1) by rw [Nat.mul_add]; omega, Nat.mul_div_cancel_left _ hn, show n * q + m + n - 1 - m = n - 1 + n * q by omega, Nat.add_mul_div_left _ _ hn, Nat.div_eq_of_lt (by omega)]
    omega
  · rw [if_neg h]
    by_cases h2 : d < m
    · rw [show n * q + m + 1 + n - 1 - d = (m - d) + n * (q + 1) by rw [Nat.mul_add]; omega, Nat.add_mul_div_left _ _ hn, Nat.div_eq_of_lt (by omega), show n * q + m + n - 1 - d = (m - d - 1) + n * (q + 1) by rw [Nat.mul_add]; omega, Nat.add_mul_div_left _ _ hn, Nat.div_eq_of_lt (by omega)]
      omega
    · rw [show n * q + m + 1 + n - 1 - d = (n + m - d) + n * q by omega, Nat.add_mul_div_left _ _ hn, Nat.div_eq_of_lt (by omega), show n * q + m + n - 1 - d = (n + m - d - 1) + n * q by omega, Nat.add_mul_div_left _ _ hn, Nat.div_eq_of_lt (by omega)]
      omega
theorem lower_sum (L n : Nat) (hn : 1 ≤ n) : sm n (fun k => (lowerN L n k : Int)) = L := by
  induction L with
  | zero =>
    rw [sm_congr (g := fun _ => 0), sm_zero]
    · rfl
    · intro k hk
      unfold lowerN
      rw [Nat.zero_add, Nat.div_eq_of_lt (by omega)]
      rfl
  | succ L ih =>
    rw [sm_congr (g := fun k => (lowerN L n k : Int) + if L % n = k then 1 else 0), sm_add, ih, sm_one (j := L % n) (Nat.mod_lt _ (by omega))]
    · rw [if_pos rfl]; omega
    · intro i _ hne
      rw [if_neg (fun h => hne h.symm)]
    · intro k hk
      rw [lowerN_step (by omega) hk]
      split <;> simp
theorem lower_one {xs : List Int} (s : seqOk xs = true) : lower xs 1 0 = xs := by
  have hok : lowerOk xs 1 0 = true := by rw [lowerOk, s]; rfl
  rw [lower_yes hok]
  unfold lowered lowerN
  simp only [show (1 : Int).toNat = 1 from rfl, show (0 : Int).toNat = 0 from rfl, Nat.div_one, Nat.mul_one, Nat.zero_add, Nat.sub_zero, Nat.add_sub_cancel]
  exact rg_self xs

def lowTo (L n k : Nat) : Int := sm k fun k => (lowerN L n k : Int)
theorem lowTo_succ (L n k : Nat) : lowTo L n (k + 1) = lowTo L n k + (lowerN L n k : Int) := rfl
theorem lowTo_all {L n : Nat} (hn : 1 ≤ n) : lowTo L n n = L := lower_sum L n hn
theorem lowerN_le (L n k : Nat) (hn : 1 ≤ n) (hL : L ≤ 64) (hn8 : n ≤ 8) : lowerN L n k ≤ 71 := Nat.le_trans (Nat.div_le_self _ _) (by omega)
theorem lowTo_bound (L n k : Nat) (hn : 1 ≤ n) (hL : L ≤ 64) (hn8 : n ≤ 8) : -(k * 71 : Int) ≤ lowTo L n k ∧ lowTo L n k ≤ k * 71 := sm_bound fun i _ => by have := lowerN_le L n i hn hL hn8; omega
theorem lower_at {xs : List Int} {n k : Nat} (s : seqOk xs = true) (hn : 1 ≤ n) (hn8 : n ≤ 8) (hk : k < n) :
    (lower xs n k).length = lowerN xs.length n k ∧ ∀ j, j < lowerN xs.length n k → k + j * n < xs.length ∧ (lower xs n k).getD j 0 = xs.getD (k + j * n) 0 := by
  have hok : lowerOk xs n k = true := by rw [lowerOk, s, inB_yes (by omega) (by omega), inB_yes (by omega) (by omega)]; rfl
  rw [lower_yes hok, lowered, Int.toNat_natCast, Int.toNat_natCast]
  refine ⟨rg_length _ _, fun j hj => ⟨(lower_lt (by omega)).1 hj, rg_getD hj⟩⟩

end Go.Proofs.Ytokgonhfmidbeaa
