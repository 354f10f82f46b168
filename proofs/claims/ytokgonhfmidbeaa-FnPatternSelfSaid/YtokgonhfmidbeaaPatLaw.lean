/-
  The best place of a pattern among zeros is its own place: the plain law of FnPatternSelf.
-/
import Derived.Test.YtokgonhfmidbeaaCorrLaw
import Derived.Test.YtokgonhfmidbeaaDrawPat
import Derived.Test.YtokgonhfmidbeaaUndoLaw
namespace Go.Proofs.Ytokgonhfmidbeaa
open Go.RowKit

def pat (n : Nat) (ps : List Int) : List Int := List.replicate n 0 ++ ps ++ List.replicate 9 0
theorem pat_length (n : Nat) (ps : List Int) : (pat n ps).length = n + ps.length + 9 := by simp [pat]; omega
theorem pat_get (n : Nat) (ps : List Int) (j : Nat) : (pat n ps).getD j 0 = if j < n then 0 else ps.getD (j - n) 0 := by
  simp only [pat, List.getD, List.append_assoc]
  by_cases h : j < n
  · rw [if_pos h, List.getElem?_append_left (by simpa using h), List.getElem?_replicate, if_pos h]; rfl
  · rw [if_neg h, List.getElem?_append_right (by simp; omega), List.length_replicate]
    by_cases h2 : j - n < ps.length
    · rw [List.getElem?_append_left h2]
    · rw [List.getElem?_append_right (by omega), List.getElem?_replicate, List.getElem?_eq_none (by omega : ps.length ≤ j - n)]
      split <;> rfl
theorem pat_in (n : Nat) (ps : List Int) (j : Nat) : (pat n ps).getD (n + j) 0 = ps.getD j 0 := by
  rw [pat_get, if_neg (by omega)]; congr 1; omega

theorem sqn (a : Int) : 0 ≤ a * a := by
  rcases Int.le_total 0 a with h | h
  · exact Int.mul_nonneg h h
  · have := Int.mul_nonneg (show 0 ≤ -a by omega) (show 0 ≤ -a by omega); rwa [Int.neg_mul_neg] at this
theorem sqz {a : Int} (h : a * a = 0) : a = 0 := by rcases Int.mul_eq_zero.1 h with h | h <;> exact h
theorem sm_nonneg {n : Nat} {f : Nat → Int} (h : ∀ i, i < n → 0 ≤ f i) : 0 ≤ sm n f := by
  induction n with
  | zero => simp [sm]
  | succ n ih => have := ih fun i hi => h i (by omega); have := h n (by omega); simp only [sm]; omega
theorem sm_nonpos {n : Nat} {f : Nat → Int} (h : ∀ i, i < n → 0 ≤ f i) (hs : sm n f ≤ 0) : ∀ i, i < n → f i = 0 := by
  induction n with
  | zero => intro i hi; omega
  | succ n ih =>
    intro i hi
    have h1 := sm_nonneg (n := n) (f := f) fun i hi => h i (by omega)
    have h2 := h n (by omega)
    simp only [sm] at hs
    by_cases e : i = n
    · subst e; omega
    · exact ih (fun i hi => h i (by omega)) (by omega) i (by omega)

/-- the squares of a window of the list are at most those of the pattern -/
theorem win_le (n : Nat) (ps : List Int) (k : Nat) :
    sm ps.length (fun j => (pat n ps).getD (k + j) 0 * (pat n ps).getD (k + j) 0) ≤ sm ps.length (fun j => ps.getD j 0 * ps.getD j 0) := by
  have a := sm_split k ps.length fun i => (pat n ps).getD i 0 * (pat n ps).getD i 0
  have b := sm_nonneg (n := k) (f := fun i => (pat n ps).getD i 0 * (pat n ps).getD i 0) fun i _ => sqn _
  have c := sm_split (k + ps.length) n fun i => (pat n ps).getD i 0 * (pat n ps).getD i 0
  have d := sm_nonneg (n := n) (f := fun i => (pat n ps).getD (k + ps.length + i) 0 * (pat n ps).getD (k + ps.length + i) 0) fun i _ => sqn _
  have e := sm_split n (k + ps.length) fun i => (pat n ps).getD i 0 * (pat n ps).getD i 0
  have f : sm n (fun i => (pat n ps).getD i 0 * (pat n ps).getD i 0) = 0 := by
    rw [sm_congr (g := fun _ => 0), sm_zero]
    intro i hi
    rw [pat_get, if_pos hi]; rfl
  have g : sm (k + ps.length) (fun i => (pat n ps).getD (n + i) 0 * (pat n ps).getD (n + i) 0) = sm ps.length (fun j => ps.getD j 0 * ps.getD j 0) := by
    rw [sm_more (n := ps.length) (m := k + ps.length) (by omega)]
    · exact sm_congr fun i _ => by rw [pat_in]
    · intro i hi _
      rw [pat_in, List.getD, List.getElem?_eq_none hi]; rfl
  rw [Nat.add_comm n (k + ps.length)] at e
  omega

theorem pat_self (n : Nat) (ps : List Int) : dotF (pat n ps) ps n = dotF ps ps 0 := by
  unfold dotF
  exact sm_congr fun j _ => by rw [pat_in, Nat.zero_add]

theorem sq_sum (m : Nat) (f g : Nat → Int) : sm m (fun j => (f j - g j) * (f j - g j)) = sm m (fun j => f j * f j) - 2 * sm m (fun j => f j * g j) + sm m (fun j => g j * g j) := by
  induction m with
  | zero => simp [sm]
  | succ m ih =>
    have e : (f m - g m) * (f m - g m) = f m * f m - 2 * (f m * g m) + g m * g m := by
      rw [Int.sub_mul, Int.mul_sub, Int.mul_sub, Int.mul_comm (g m) (f m)]; omega
    simp only [sm, ih, e]
    omega

theorem pat_le (n : Nat) (ps : List Int) (k : Nat) : dotF (pat n ps) ps k ≤ dotF ps ps 0 := by
  have a := sq_sum ps.length (fun j => (pat n ps).getD (k + j) 0) (fun j => ps.getD j 0)
  have b := sm_nonneg (n := ps.length) (f := fun j => ((pat n ps).getD (k + j) 0 - ps.getD j 0) * ((pat n ps).getD (k + j) 0 - ps.getD j 0)) fun i _ => sqn _
  have c := win_le n ps k
  have d : dotF ps ps 0 = sm ps.length (fun j => ps.getD j 0 * ps.getD j 0) := sm_congr fun j _ => by rw [Nat.zero_add]
  rw [d]
  simp only [dotF]
  omega

theorem pat_lt {n : Nat} {ps : List Int} {k : Nat} (hk : k < n) (h0 : dotF ps ps 0 ≠ 0) : dotF (pat n ps) ps k < dotF ps ps 0 := by
  apply Classical.byContradiction
  intro hn
  have a := sq_sum ps.length (fun j => (pat n ps).getD (k + j) 0) (fun j => ps.getD j 0)
  have c := win_le n ps k
  have d : dotF ps ps 0 = sm ps.length (fun j => ps.getD j 0 * ps.getD j 0) := sm_congr fun j _ => by rw [Nat.zero_add]
  have e : sm ps.length (fun j => ((pat n ps).getD (k + j) 0 - ps.getD j 0) * ((pat n ps).getD (k + j) 0 - ps.getD j 0)) ≤ 0 := by
    rw [d] at hn
    simp only [dotF] at hn
    omega
  have f := sm_nonpos (fun i _ => sqn _) e
  have g : ∀ j, j < ps.length → ps.getD j 0 = 0 := by
    intro j
    induction j using Nat.strongRecOn with
    | _ j ih =>
      intro hj
      have h := f j hj
      have h := sqz h
      have h2 : (pat n ps).getD (k + j) 0 = 0 := by
        rw [pat_get]
        split
        · rfl
        · exact ih (k + j - n) (by omega) (by omega)
      omega
  apply h0
  rw [d, sm_congr (g := fun _ => 0), sm_zero]
  intro i hi
  rw [g i hi]; rfl

theorem fp_pat {n : Nat} {ps : List Int} (h0 : dotF ps ps 0 ≠ 0) (k : Nat) : fpTo (pat n ps) ps (n + 1 + k) = n := by
  induction k with
  | zero =>
    have hb := fpTo_in (pat n ps) ps n
    refine fp_take rfl ?_
    by_cases h : fpTo (pat n ps) ps n < 0
    · exact .inl h
    · refine .inr ?_
      rw [pat_self]
      exact pat_lt (by omega) h0
  | succ k ih =>
    refine fp_leave ih (by omega) ?_
    rw [Int.toNat_natCast, pat_self]
    exact pat_le _ _ _

theorem seqOk_pat {n : Nat} {ps : List Int} (h : seqOk ps = true) (hl : n + ps.length ≤ 55) : seqOk (pat n ps) = true := by
  refine seqOk_of (fun i => ?_) (by rw [pat_length]; omega)
  rw [pat_get]
  split
  · omega
  · exact seqOk_at h _

theorem pat_fp {n : Nat} {ps : List Int} (h : seqOk ps = true) (hl : n + ps.length ≤ 55) (h0 : dotF ps ps 0 ≠ 0) : fp (pat n ps) ps = n := by
  have hp : ps.length ≠ 0 := by
    intro e; apply h0; simp [dotF, e, sm]
  rw [fp_yes (by simp [fpOk, h, seqOk_pat h hl]; exact fun e => hp (by rw [e]; rfl)), pat_length]
  rw [show n + ps.length + 9 + 1 - ps.length = n + 1 + 9 by omega]
  exact fp_pat h0 9

theorem pat_corr {n : Nat} {ps : List Int} (h : seqOk ps = true) (hl : n + ps.length ≤ 55) : corr (pat n ps) ps n = corr ps ps 0 := by
  rw [corr_yes (by simp [corrOk, h, seqOk_pat h hl, inB_iff, pat_length]; omega), corr_yes (by simp [corrOk, h, inB_iff]), Int.toNat_natCast, pat_self]; rfl

end Go.Proofs.Ytokgonhfmidbeaa
