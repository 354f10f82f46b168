/-
  The block code and interleaving, plainly: a burst no longer than the number of blocks hurts every word once.
-/
import Derived.Test.YtokgonhfmidbeaaDoorBlockD
import Derived.Test.YtokgonhfmidbeaaDoorInterLaw
namespace Go.Proofs.YtokgonhfmidbeaaDoor
open Go.RowKit

/-- the first places from a on below k inverted -/
def fl (ys : List Int) (a k : Nat) : List Int := rg ys.length fun j => if a ≤ j ∧ j < k then 1 - ys.getD j 0 else ys.getD j 0
theorem fl_length (ys : List Int) (a k : Nat) : (fl ys a k).length = ys.length := rg_length _ _
theorem fl_start (ys : List Int) (a : Nat) : fl ys a a = ys := by
  rw [← rg_self ys]
  unfold fl
  rw [rg_length]
  refine rg_congr fun i hi => ?_
  rw [if_neg (by omega), rg_getD hi]
theorem fl_at (ys : List Int) {a k : Nat} (hk : k < ys.length) : (fl ys a k).getD k 0 = ys.getD k 0 := by
  rw [fl, rg_getD hk, if_neg (by omega)]
theorem fl_step (ys : List Int) {a k : Nat} (ha : a ≤ k) : (fl ys a k).set k (1 - ys.getD k 0) = fl ys a (k + 1) := by
  unfold fl
  rw [rg_set]
  refine rg_congr fun i _ => ?_
  by_cases e : i = k
  · subst e
    rw [if_pos rfl, if_pos (by omega)]
  · rw [if_neg e]
    by_cases h : a ≤ i ∧ i < k
    · rw [if_pos h, if_pos (by omega)]
    · rw [if_neg h, if_neg (by omega)]

theorem encTo_bits {xs : List Int} (h : bitsOk xs = true) {G : Nat} : ∀ k, k < 7 * G → (encTo xs G).getD k 0 = 0 ∨ (encTo xs G).getD k 0 = 1 := by
  intro k hk
  have e : k = 7 * (k / 7) + k % 7 := by omega
  rw [e, encTo_getD xs G _ _ (by omega) (by omega)]
  exact cw_getD (bitsOk_at h _) (bitsOk_at h _) (bitsOk_at h _) (bitsOk_at h _) _

/-- the place of word g that the burst from a on hits -/
def hit (G a g : Nat) : Nat := if a % G ≤ g then a / G else a / G + 1
theorem hit_lt {G a g : Nat} (hG : 1 ≤ G) (ha : a ≤ 6 * G) (hg : g < G) : hit G a g < 7 := by
  have hm := Nat.mod_lt a (show 0 < G by omega)
  have he := Nat.div_add_mod a G
  unfold hit
  generalize a / G = u at *
  generalize a % G = t at *
  by_cases h : u ≤ 5
  · split <;> omega
  · have h6 : 6 ≤ u := by omega
    have := Nat.mul_le_mul_left G h6
    by_cases h7 : 7 ≤ u
    · have := Nat.mul_le_mul_left G h7
      omega
    · obtain rfl : u = 6 := by omega
      split <;> omega
theorem hit_iff {G a g i : Nat} (hG : 1 ≤ G) (hg : g < G) : (a ≤ i * G + g ∧ i * G + g < a + G) ↔ i = hit G a g := by
  have hm := Nat.mod_lt a (show 0 < G by omega)
  have he := Nat.div_add_mod a G
  unfold hit
  generalize a / G = u at *
  generalize a % G = t at *
  subst he
  have c1 : G * u = u * G := Nat.mul_comm _ _
  rw [c1]
  constructor
  · rintro ⟨h1, h2⟩
    have l1 : u ≤ i := by
      rcases Nat.lt_or_ge i u with h | h
      · have := Nat.mul_le_mul_right G (show i + 1 ≤ u by omega)
        rw [Nat.succ_mul] at this
        omega
      · exact h
    have l2 : i ≤ u + 1 := by
      rcases Nat.lt_or_ge (u + 1) i with h | h
      · have := Nat.mul_le_mul_right G (show u + 2 ≤ i by omega)
        rw [show u + 2 = u + 1 + 1 from rfl, Nat.succ_mul, Nat.succ_mul] at this
        omega
      · exact h
    rcases (by omega : i = u ∨ i = u + 1) with rfl | rfl
    · rw [if_pos (by omega)]
    · rw [Nat.succ_mul] at h1 h2
      rw [if_neg (by omega)]
  · intro h
    by_cases e : t ≤ g
    · rw [if_pos e] at h
      subst h
      omega
    · rw [if_neg e] at h
      subst h
      rw [Nat.succ_mul]
      omega

/-- what is decoded -/
def bu (xs : List Int) (G a : Nat) : List Int := deinterN (fl (interN (encTo xs G) G) a (a + G)) G
theorem bu_length (xs : List Int) (G a : Nat) : (bu xs G a).length = 7 * G := by
  rw [bu, deinterN_length, fl_length, interN_length, encTo_length]
theorem bu_getD {xs : List Int} {G a g i : Nat} (hG : 1 ≤ G) (hg : g < G) (hi : i < 7) : (bu xs G a).getD (7 * g + i) 0 = (inv1 (cwAt xs g) (hit G a g)).getD i 0 := by
  have hl : (fl (interN (encTo xs G) G) a (a + G)).length = 7 * G := by rw [fl_length, interN_length, encTo_length]
  have h7 : 7 * G / G = 7 := Nat.mul_div_cancel 7 (by omega)
  have hlt : i * G + g < 7 * G := by
    have := Nat.mul_le_mul_right G (show i + 1 ≤ 7 by omega)
    rw [Nat.succ_mul] at this
    omega
  have e1 : (7 * g + i) % 7 = i := by omega
  have e2 : (7 * g + i) / 7 = g := by omega
  have hY : (interN (encTo xs G) G).getD (i * G + g) 0 = (cwAt xs g).getD i 0 := by
    have hlX : (encTo xs G).length = 7 * G := encTo_length _ _
    rw [interN, rg_getD (by rw [hlX]; exact hlt), hlX, h7]
    have m1 : (i * G + g) % G = g := by rw [Nat.add_comm, Nat.add_mul_mod_self_right]; exact Nat.mod_eq_of_lt hg
    have m2 : (i * G + g) / G = i := by rw [Nat.add_comm, Nat.add_mul_div_right _ _ (by omega), Nat.div_eq_of_lt hg]; omega
    rw [m1, m2, Nat.mul_comm g 7]
    exact encTo_getD xs G g i hg hi
  have hF : (fl (interN (encTo xs G) G) a (a + G)).getD (i * G + g) 0 = if i = hit G a g then 1 - (cwAt xs g).getD i 0 else (cwAt xs g).getD i 0 := by
    rw [fl, rg_getD (by rw [interN_length, encTo_length]; exact hlt), hY]
    by_cases e : i = hit G a g
    · rw [if_pos e, if_pos ((hit_iff hG hg).2 e)]
    · rw [if_neg e, if_neg (fun h => e ((hit_iff hG hg).1 h))]
  rw [bu, deinterN, rg_getD (by rw [hl]; omega), hl, h7, e1, e2, hF, inv1]
  have hc : i < (cwAt xs g).length := by rw [cwAt_length]; exact hi
  generalize cwAt xs g = q at *
  simp only [List.getD_eq_getElem?_getD, List.getElem?_set]
  by_cases e : i = hit G a g
  · rw [if_pos e, if_pos e.symm, if_pos (by omega), e]
    rfl
  · rw [if_neg e, if_neg (fun h => e h.symm)]
theorem bu_hurt {xs : List Int} {G a : Nat} (hG : 1 ≤ G) (ha : a ≤ 6 * G) : Hurt xs (bu xs G a) G := by
  intro g hg
  refine ⟨hit G a g, hit_lt hG ha hg, ?_⟩
  have hl := bu_length xs G a
  have h7 : (inv1 (cwAt xs g) (hit G a g)).length = 7 := by rw [inv1, List.length_set]; rfl
  refine list_ext_getD (by rw [List.length_take, List.length_drop, hl, h7]; omega) fun i hi => ?_
  have hi7 : i < 7 := by rw [List.length_take] at hi; omega
  rw [getD_take' hi7, getD_drop']
  exact bu_getD hG hg hi7
theorem bu_bits {xs : List Int} {G a : Nat} (hx : bitsOk xs = true) (hG : 1 ≤ G) (hG2 : G ≤ 128) : bitsOk (bu xs G a) = true := by
  have hl := bu_length xs G a
  refine bitsOk_of (fun k hk => ?_) (by rw [hl]; omega)
  have e : k = 7 * (k / 7) + k % 7 := by omega
  rw [e, bu_getD hG (by omega) (by omega)]
  exact inv_bit (fun k => cw_getD (bitsOk_at hx _) (bitsOk_at hx _) (bitsOk_at hx _) (bitsOk_at hx _) k) _ _

/-! ### in the words of the law -/
theorem enc_tab {xs : List Int} {G : Nat} (hx : bitsOk xs = true) (h1 : 1 ≤ G) (h2 : G ≤ 32) : tabOk (encTo xs G) (G : Int) = true :=
  tabOk_of (c := 7) (bitsOk_of (fun k hk => encTo_bits hx k (by rw [encTo_length] at hk; exact hk)) (by rw [encTo_length]; omega)) h1 h2 (by rw [encTo_length, Nat.mul_comm])
theorem fl_tab {xs : List Int} {G a : Nat} (hx : bitsOk xs = true) (h1 : 1 ≤ G) (h2 : G ≤ 32) (k : Nat) : tabOk (fl (interN (encTo xs G) G) a k) (G : Int) = true := by
  have hl : (interN (encTo xs G) G).length = 7 * G := by rw [interN_length, encTo_length]
  have hb : bitsOk (interN (encTo xs G) G) = true := interN_bits G (bitsOk_of (fun k hk => encTo_bits hx k (by rw [encTo_length] at hk; exact hk)) (by rw [encTo_length]; omega))
  refine tabOk_of (c := 7) (bitsOk_of (fun j hj => ?_) (by rw [fl_length, hl]; omega)) h1 h2 (by rw [fl_length, hl, Nat.mul_comm])
  rw [fl_length] at hj
  rw [fl, rg_getD hj]
  have := bitsOk_at hb j
  split <;> omega

end Go.Proofs.YtokgonhfmidbeaaDoor
