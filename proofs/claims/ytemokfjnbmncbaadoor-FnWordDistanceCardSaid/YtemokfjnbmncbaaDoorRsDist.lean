/-
  Distances of code words; encoding is division; the code is cyclic. Plain facts.
-/
import Derived.Test.YtemokfjnbmncbaaDoorRsLaw
namespace Go.Proofs.YtemokfjnbmncbaaDoor.T
/-! ### how many places of a function are not 0 -/
def cnt (D : Nat → Nat) : Nat → Nat
  | 0 => 0
  | n + 1 => cnt D n + if D n = 0 then 0 else 1
theorem cnt_congr {D E : Nat → Nat} {n : Nat} (h : ∀ i, i < n → D i = E i) : cnt D n = cnt E n := by
  induction n with
  | zero => rfl
  | succ n ih => simp only [cnt]; rw [ih fun i hi => h i (by omega), h n (by omega)]
/-- c places at most -/
def Rep : Nat → (Nat → Nat) → Prop
  | 0, F => F = fun _ => 0
  | c + 1, F => ∃ G i e, Rep c G ∧ i < 15 ∧ e < 16 ∧ F = fun k => G k ^^^ one i e k
theorem one_zero (i : Nat) : one i 0 = fun _ => 0 := by funext k; unfold one; simp
theorem Rep.up {c : Nat} {F : Nat → Nat} (h : Rep c F) : Rep (c + 1) F := ⟨F, 0, 0, h, by omega, by omega, by funext k; rw [one_zero]; simp⟩
theorem rep_zero (c : Nat) : Rep c fun _ => 0 := by
  induction c with
  | zero => rfl
  | succ c ih => exact ih.up
theorem rep_of {D : Nat → Nat} (hD : El 15 D) : ∀ n, n ≤ 15 → ∀ c, cnt D n ≤ c → ∃ F, Rep c F ∧ (∀ k, n ≤ k → F k = 0) ∧ ∀ k, k < n → D k = F k := by
  intro n
  induction n with
  | zero =>
    intro _ c _
    refine ⟨fun _ => 0, ?_, fun _ _ => rfl, fun k hk => by omega⟩
    exact rep_zero c
  | succ n ih =>
    intro hn c hc
    simp only [cnt] at hc
    by_cases h0 : D n = 0
    · rw [if_pos h0] at hc
      obtain ⟨F, h1, h2, h3⟩ := ih (by omega) c (by omega)
      refine ⟨F, h1, fun k hk => h2 k (by omega), fun k hk => ?_⟩
      by_cases e : k < n
      · exact h3 k e
      · obtain rfl : k = n := by omega
        rw [h0, h2 k (Nat.le_refl _)]
    · rw [if_neg h0] at hc
      obtain ⟨c, rfl⟩ : ∃ d, c = d + 1 := ⟨c - 1, by omega⟩
      obtain ⟨F, h1, h2, h3⟩ := ih (by omega) c (by omega)
      refine ⟨_, ⟨F, n, D n, h1, by omega, hD n (by omega), rfl⟩, fun k hk => ?_, fun k hk => ?_⟩
      · show F k ^^^ one n (D n) k = 0
        rw [h2 k (by omega)]; unfold one; rw [if_neg (by omega)]; rfl
      · show D k = F k ^^^ one n (D n) k
        by_cases e : k < n
        · rw [h3 k e]; unfold one; rw [if_neg (by omega), Nat.xor_zero]
        · obtain rfl : k = n := by omega
          rw [h2 k (Nat.le_refl _)]; unfold one; rw [if_pos rfl, Nat.zero_xor]
theorem Rep.small {F : Nat → Nat} (h : Rep 2 F) : Small F := by
  obtain ⟨G, i, e, ⟨H, j, f, hH, hj, hf, rfl⟩, hi, he, rfl⟩ := h
  unfold Rep at hH
  subst hH
  refine ⟨j, f, i, e, hj, hf, hi, he, fun k _ => ?_⟩
  show 0 ^^^ one j f k ^^^ one i e k = two j f i e k
  rw [Nat.zero_xor]; rfl
theorem Rep.split {F : Nat → Nat} (h : Rep 4 F) : ∃ V U, Small V ∧ Small U ∧ F = fun k => V k ^^^ U k := by
  obtain ⟨G, i, e, ⟨H, j, f, hH, hj, hf, rfl⟩, hi, he, rfl⟩ := h
  refine ⟨H, two j f i e, hH.small, ⟨j, f, i, e, hj, hf, hi, he, fun _ _ => rfl⟩, ?_⟩
  funext k
  show H k ^^^ one j f k ^^^ one i e k = H k ^^^ (one j f k ^^^ one i e k)
  rw [Nat.xor_assoc]
theorem small_of {D : Nat → Nat} (hD : El 15 D) (h : cnt D 15 ≤ 2) : Small D := by
  obtain ⟨F, h1, _, h3⟩ := rep_of hD 15 (Nat.le_refl _) 2 h
  obtain ⟨i, e, j, f, hi, he, hj, hf, hV⟩ := h1.small
  exact ⟨i, e, j, f, hi, he, hj, hf, fun k hk => by rw [h3 k hk, hV k hk]⟩
theorem cnt_one (i e n : Nat) : cnt (one i e) n ≤ 1 ∧ (n ≤ i → cnt (one i e) n = 0) := by
  induction n with
  | zero => exact ⟨by simp [cnt], fun _ => rfl⟩
  | succ n ih =>
    simp only [cnt]
    by_cases h : n = i
    · have := ih.2 (by omega)
      refine ⟨by split <;> omega, fun h2 => by omega⟩
    · have e0 : one i e n = 0 := by unfold one; rw [if_neg h]
      rw [if_pos e0]
      exact ⟨by omega, fun h2 => by have := ih.2 (by omega); omega⟩
theorem cnt_xor (A B : Nat → Nat) (n : Nat) : cnt (fun k => A k ^^^ B k) n ≤ cnt A n + cnt B n := by
  induction n with
  | zero => simp [cnt]
  | succ n ih =>
    simp only [cnt]
    by_cases h : A n = 0
    · by_cases k : B n = 0
      · rw [if_pos h, if_pos k, if_pos (by rw [h, k]; rfl)]; omega
      · rw [if_pos h, if_neg k]; split <;> omega
    · rw [if_neg h]; split <;> split <;> omega
theorem cnt_small {V : Nat → Nat} (h : Small V) : cnt V 15 ≤ 2 := by
  obtain ⟨i, e, j, f, hi, he, hj, hf, hV⟩ := h
  rw [cnt_congr hV]
  have := cnt_xor (one i e) (one j f) 15
  have h1 := (cnt_one i e 15).1
  have h2 := (cnt_one j f 15).1
  show cnt (fun k => one i e k ^^^ one j f k) 15 ≤ 2
  omega
def dif (X Y : Nat → Nat) : Nat → Nat := fun k => X k ^^^ Y k
theorem dif_el {X Y : Nat → Nat} {n : Nat} (hX : El n X) (hY : El n Y) : El n (dif X Y) := fun k hk => xor_lt (hX k hk) (hY k hk)
theorem dif_zero {X Y : Nat → Nat} {k : Nat} : dif X Y k = 0 ↔ X k = Y k := ⟨fun h => xor_eq_zero h, fun h => by unfold dif; rw [h, Nat.xor_self]⟩
theorem xor_dif {X Y : Nat → Nat} (k : Nat) : X k = Y k ^^^ dif X Y k := by
  unfold dif; rw [Nat.xor_comm (X k), ← Nat.xor_assoc, Nat.xor_self, Nat.zero_xor]
theorem near_iff {X W : Nat → Nat} (hX : El 15 X) (hW : El 15 W) : Near X W ↔ cnt (dif X W) 15 ≤ 2 := by
  constructor
  · rintro ⟨V, hV, h⟩
    rw [cnt_congr (E := V) fun k hk => by unfold dif; rw [h k hk, Nat.xor_comm (W k), Nat.xor_assoc, Nat.xor_self, Nat.xor_zero]]
    exact cnt_small hV
  · intro h
    exact ⟨dif X W, small_of (dif_el hX hW) h, fun k _ => xor_dif k⟩
/-- THE DISTANCE OF CODE WORDS: at most four places: they are the same -/
theorem far {X Y : Nat → Nat} (hX : Code X) (hY : Code Y) (h : cnt (dif Y X) 15 ≤ 4) : ∀ k, k < 15 → X k = Y k := by
  obtain ⟨F, h1, _, h3⟩ := rep_of (dif_el hY.1 hX.1) 15 (Nat.le_refl _) 4 h
  obtain ⟨V, U, hV, hU, rfl⟩ := h1.split
  refine near_unique (W := fun k => X k ^^^ V k) (fun k hk => xor_lt (hX.1 k hk) (hV.el k hk)) hX hY ⟨V, hV, fun k _ => ?_⟩ ⟨U, hU, fun k hk => ?_⟩
  · show X k = X k ^^^ V k ^^^ V k
    rw [Nat.xor_assoc, Nat.xor_self, Nat.xor_zero]
  · show Y k = X k ^^^ V k ^^^ U k
    rw [Nat.xor_assoc]
    have := h3 k hk
    rw [show V k ^^^ U k = dif Y X k from this.symm]; exact xor_dif k
theorem cnt_tail {D : Nat → Nat} (h : ∀ k, k < 11 → D k = 0) : cnt D 15 ≤ 4 := by
  have : cnt D 11 = 0 := by
    rw [cnt_congr (E := fun _ => 0) h]; rfl
  simp only [cnt] at this ⊢
  repeat (split at this <;> try omega)
  all_goals (repeat (split <;> try omega))
/-- a code word is known by its first eleven symbols -/
theorem code_head {X Y : Nat → Nat} (hX : Code X) (hY : Code Y) (h : ∀ k, k < 11 → X k = Y k) : ∀ k, k < 15 → X k = Y k :=
  far hX hY (cnt_tail fun k hk => dif_zero.2 (h k hk).symm)
theorem code_xor {X Y : Nat → Nat} (hX : Code X) (hY : Code Y) : Code (fun k => X k ^^^ Y k) :=
  ⟨fun k hk => xor_lt (hX.1 k hk) (hY.1 k hk), fun m hm => by rw [sy_xor hX.1 hY.1, hX.2 m hm, hY.2 m hm]; rfl⟩

/-! ### encoding: division by the generator -/
def gen (j : Nat) : Nat := [1, 13, 12, 8, 7].getD j 0
def r0 (D : Nat → Nat) : Nat → Nat := fun i => if i < 11 then D i else 0
/-- k steps of the division; the quotient's places are set to 0 -/
def rem (D : Nat → Nat) : Nat → Nat → Nat
  | 0 => r0 D
  | k + 1 => fun i => rem D k i ^^^ if k ≤ i ∧ i ≤ k + 4 then gm (rem D k k) (gen (i - k)) else 0
def enc (D : Nat → Nat) : Nat → Nat := fun i => if i < 11 then D i else rem D 11 i
def stp (k f : Nat) : Nat → Nat := fun i => if k ≤ i ∧ i ≤ k + 4 then gm f (gen (i - k)) else 0
theorem stp_el (k f n : Nat) : El n (stp k f) := fun i _ => by unfold stp; split; exact gm_lt _ _; omega
theorem stp_sy : ∀ k < 11, ∀ f < 16, ∀ m < 4, sy (stp k f) m = 0 := by decide +kernel
theorem r0_el {D : Nat → Nat} (h : El 11 D) : El 15 (r0 D) := fun i _ => by unfold r0; split; exact h i ‹_›; omega
theorem rem_el {D : Nat → Nat} (h : El 11 D) (k : Nat) : El 15 (rem D k) := by
  induction k with
  | zero => exact r0_el h
  | succ k ih => exact fun i hi => xor_lt (ih i hi) (stp_el k _ 15 i hi)
theorem rem_sy {D : Nat → Nat} (h : El 11 D) (k : Nat) (hk : k ≤ 11) {m : Nat} (hm : m < 4) : sy (rem D k) m = sy (r0 D) m := by
  induction k with
  | zero => rfl
  | succ k ih =>
    have e : sy (rem D (k + 1)) m = sy (rem D k) m ^^^ sy (stp k (rem D k k)) m := sy_xor (rem_el h k) (stp_el _ _ _)
    rw [e, ih (by omega), stp_sy k (by omega) _ (rem_el h k k (by omega)) m hm, Nat.xor_zero]
theorem rem_zero {D : Nat → Nat} (h : El 11 D) (k : Nat) (hk : k ≤ 11) : ∀ i, i < k → rem D k i = 0 := by
  induction k with
  | zero => intro i hi; omega
  | succ k ih =>
    intro i hi
    simp only [rem]
    by_cases e : i = k
    · subst e
      rw [if_pos ⟨Nat.le_refl _, by omega⟩, Nat.sub_self, show gen 0 = 1 from rfl, gm_one _ (rem_el h i i (by omega)), Nat.xor_self]
    · rw [ih (by omega) i (by omega), if_neg (by omega)]; rfl
theorem enc_code {D : Nat → Nat} (h : El 11 D) : Code (enc D) := by
  have e : ∀ i, i < 15 → enc D i = r0 D i ^^^ rem D 11 i := fun i hi => by
    unfold enc r0
    by_cases h1 : i < 11
    · rw [if_pos h1, if_pos h1, rem_zero h 11 (Nat.le_refl _) i h1, Nat.xor_zero]
    · rw [if_neg h1, if_neg h1, Nat.zero_xor]
  refine ⟨fun i hi => ?_, fun m hm => ?_⟩
  · rw [e i hi]; exact xor_lt (r0_el h i hi) (rem_el h 11 i hi)
  · rw [sy_congr e, sy_xor (r0_el h) (rem_el h 11), rem_sy h 11 (Nat.le_refl _) hm, Nat.xor_self]
theorem enc_head {D : Nat → Nat} {i : Nat} (h : i < 11) : enc D i = D i := by unfold enc; rw [if_pos h]

/-! ### the code is cyclic -/
def polA (a : Nat) (W : Nat → Nat) (x : Nat) : Nat → Nat
  | 0 => a
  | k + 1 => gm (polA a W x k) x ^^^ W k
def pwr (x : Nat) : Nat → Nat
  | 0 => 1
  | k + 1 => gm (pwr x k) x
theorem pwr_lt {x k : Nat} : pwr x k < 16 := by cases k with | zero => simp [pwr] | succ k => exact gm_lt _ _
theorem polA_pol {a x n : Nat} {W : Nat → Nat} (ha : a < 16) (hx : x < 16) (hW : El n W) : polA a W x n = gm a (pwr x n) ^^^ pol W x n := by
  induction n with
  | zero => simp only [polA, pwr, pol]; rw [gm_one a ha, Nat.xor_zero]
  | succ n ih =>
    have hW' : El n W := fun i hi => hW i (by omega)
    simp only [polA, pwr, pol]
    rw [ih hW', gm_dist _ (gm_lt _ _) _ (pol_lt hW') _ hx, gm_assoc a ha _ pwr_lt x hx, Nat.xor_assoc]
def turn (W : Nat → Nat) : Nat → Nat := fun i => if i = 0 then W 14 else W (i - 1)
theorem pol_turn (W : Nat → Nat) (x n : Nat) (hx : x < 16) : pol (turn W) x (n + 1) = polA (W 14) W x n := by
  induction n with
  | zero =>
    simp only [pol, polA]
    rw [zero_gm _ hx]; unfold turn; rw [if_pos rfl, Nat.zero_xor]
  | succ n ih =>
    show gm (pol (turn W) x (n + 1)) x ^^^ turn W (n + 1) = gm (polA (W 14) W x n) x ^^^ W n
    rw [ih]; unfold turn; rw [if_neg (by omega), Nat.add_sub_cancel]
theorem pwr15 : ∀ m < 4, gm (zr m) (pwr (zr m) 14) = 1 := by decide +kernel
theorem turn_code {W : Nat → Nat} (h : Code W) : Code (turn W) := by
  refine ⟨fun i hi => ?_, fun m hm => ?_⟩
  · unfold turn; split
    · exact h.1 14 (by omega)
    · exact h.1 _ (by omega)
  · have hx : zr m < 16 := gp_lt _
    have hE : El 14 W := fun i hi => h.1 i (by omega)
    have e : sy (turn W) m = polA (W 14) W (zr m) 14 := pol_turn W (zr m) 14 hx
    have h2 : gm (pol W (zr m) 14) (zr m) ^^^ W 14 = 0 := h.2 m hm
    have h3 := xor_eq_zero h2
    have hp : pol W (zr m) 14 < 16 := pol_lt hE
    rw [e, polA_pol (h.1 14 (by omega)) hx hE, ← h3, gm_assoc _ hp _ hx _ pwr_lt, pwr15 m hm, gm_one _ hp, Nat.xor_self]

end Go.Proofs.YtemokfjnbmncbaaDoor.T
