/-
  Words as lists of integers: what encoding, the four values, the distance and decoding are of a list; what the laws say of them. Plain facts: nothing here speaks of the program.
-/
import Derived.Test.YtemokfjnbmncbaaDoorRsFind
import Derived.Test.YtemokfjnbmncbaaDoorHelp
namespace Go.Proofs.YtemokfjnbmncbaaDoor
open Go.RowKit T

/-! ### lists of elements as functions -/
def fnOf (xs : List Int) : Nat → Nat := fun k => (xs.getD k 0).toNat
def lsOf (n : Nat) (W : Nat → Nat) : List Int := rg n fun k => (W k : Int)
def elems (xs : List Int) : Bool := xs.all fun x => inB x 0 15
theorem elems_at {xs : List Int} (h : elems xs = true) (k : Nat) : 0 ≤ xs.getD k 0 ∧ xs.getD k 0 ≤ 15 := by
  by_cases hk : k < xs.length
  · unfold elems at h
    rw [List.all_eq_true] at h
    exact inB_iff.1 (h _ (mem_getD hk))
  · simp [List.getD, List.getElem?_eq_none (by omega : xs.length ≤ k)]
theorem elems_of {xs : List Int} (h : ∀ k, k < xs.length → 0 ≤ xs.getD k 0 ∧ xs.getD k 0 ≤ 15) : elems xs = true := by
  unfold elems
  rw [List.all_eq_true]
  intro x hx
  obtain ⟨j, hj, rfl⟩ := List.getElem_of_mem hx
  have := h j hj
  refine inB_iff.2 ?_
  simpa [List.getD, hj] using this
theorem fn_el {xs : List Int} (h : elems xs = true) (n : Nat) : El n (fnOf xs) := fun k _ => by have := elems_at h k; unfold fnOf; omega
theorem fn_cast {xs : List Int} (h : elems xs = true) (k : Nat) : ((fnOf xs k : Nat) : Int) = xs.getD k 0 := by have := elems_at h k; unfold fnOf; omega
theorem ls_length (n : Nat) (W : Nat → Nat) : (lsOf n W).length = n := rg_length _ _
theorem ls_getD {n k : Nat} {W : Nat → Nat} (h : k < n) : (lsOf n W).getD k 0 = (W k : Int) := rg_getD h
theorem ls_congr {n : Nat} {W V : Nat → Nat} (h : ∀ k, k < n → W k = V k) : lsOf n W = lsOf n V := rg_congr fun k hk => by rw [h k hk]
theorem fn_ls {n k : Nat} {W : Nat → Nat} (h : k < n) : fnOf (lsOf n W) k = W k := by unfold fnOf; rw [ls_getD h]; simp
theorem ls_fn {xs : List Int} (h : elems xs = true) : lsOf xs.length (fnOf xs) = xs := by
  refine list_ext_getD (ls_length _ _) fun k hk => ?_
  rw [ls_length] at hk
  rw [ls_getD hk, fn_cast h]
theorem ls_elems {n : Nat} {W : Nat → Nat} (h : El n W) : elems (lsOf n W) = true := elems_of fun k hk => by
  rw [ls_length] at hk
  rw [ls_getD hk]
  have := h k hk
  omega
theorem ls_inj {n : Nat} {W V : Nat → Nat} (h : lsOf n W = lsOf n V) : ∀ k, k < n → W k = V k := fun k hk => by
  have := congrArg (fun l => l.getD k 0) h
  simp only [ls_getD hk] at this
  omega
theorem ls_set {n p e : Nat} {W : Nat → Nat} : (lsOf n W).set p (e : Int) = lsOf n fun k => if k = p then e else W k := by
  unfold lsOf
  rw [rg_set]
  exact rg_congr fun k _ => by by_cases h : k = p <;> simp [h]

/-! ### what the functions are -/
def wOk (xs : List Int) : Bool := elems xs && decide (xs.length = 15)
def dOk (xs : List Int) : Bool := elems xs && decide (xs.length = 11)
theorem wOk_iff {xs : List Int} : wOk xs = true ↔ elems xs = true ∧ xs.length = 15 := by simp [wOk]
theorem dOk_iff {xs : List Int} : dOk xs = true ↔ elems xs = true ∧ xs.length = 11 := by simp [dOk]
def encL (xs : List Int) : List Int := if dOk xs = true then lsOf 15 (enc (fnOf xs)) else []
def synL (xs : List Int) : List Int := if wOk xs = true then lsOf 4 (sy (fnOf xs)) else []
def distL (xs ys : List Int) : Int := if wOk xs = true ∧ wOk ys = true then (cnt (dif (fnOf xs) (fnOf ys)) 15 : Nat) else -1
/-- the word with two places corrected -/
def fixL (W : Nat → Nat) : Nat × Nat × Nat × Nat → List Int := fun (i, e, j, f) => lsOf 15 fun k => W k ^^^ two i e j f k
def decL (xs : List Int) : Option (List Int) := if wOk xs = true then (dW (fnOf xs)).map (fixL (fnOf xs)) else none
theorem encL_yes {xs : List Int} (h : dOk xs = true) : encL xs = lsOf 15 (enc (fnOf xs)) := by rw [encL, if_pos h]
theorem encL_no {xs : List Int} (h : dOk xs = false) : encL xs = [] := by rw [encL, if_neg (by rw [h]; decide)]
theorem synL_yes {xs : List Int} (h : wOk xs = true) : synL xs = lsOf 4 (sy (fnOf xs)) := by rw [synL, if_pos h]
theorem synL_no {xs : List Int} (h : wOk xs = false) : synL xs = [] := by rw [synL, if_neg (by rw [h]; decide)]
theorem decL_no {xs : List Int} (h : wOk xs = false) : decL xs = none := by rw [decL, if_neg (by rw [h]; decide)]
theorem wOk_ls {W : Nat → Nat} (h : El 15 W) : wOk (lsOf 15 W) = true := wOk_iff.2 ⟨ls_elems h, ls_length _ _⟩
theorem encL_wOk {xs : List Int} (h : dOk xs = true) : wOk (encL xs) = true := by
  rw [encL_yes h]; exact wOk_ls (enc_code (fn_el (dOk_iff.1 h).1 11)).1
/-- a list is a code word -/
def CodeL (xs : List Int) : Prop := wOk xs = true ∧ T.Code (fnOf xs)
theorem sy_ls {W : Nat → Nat} (m : Nat) : sy (fnOf (lsOf 15 W)) m = sy W m := sy_congr fun _ hk => fn_ls hk
theorem code_ls {W : Nat → Nat} (h : T.Code W) : CodeL (lsOf 15 W) :=
  ⟨wOk_ls h.1, fun k hk => by rw [fn_ls hk]; exact h.1 k hk, fun m hm => by rw [sy_ls]; exact h.2 m hm⟩
theorem encL_code {xs : List Int} (h : dOk xs = true) : CodeL (encL xs) := by
  rw [encL_yes h]; exact code_ls (enc_code (fn_el (dOk_iff.1 h).1 11))
theorem lsOf4 (W : Nat → Nat) : lsOf 4 W = [(W 0 : Int), (W 1 : Int), (W 2 : Int), (W 3 : Int)] := rfl
theorem syn_zero {xs : List Int} (h : wOk xs = true) : synL xs = [0, 0, 0, 0] ↔ T.Code (fnOf xs) := by
  rw [synL_yes h, lsOf4]
  constructor
  · intro e
    simp only [List.cons.injEq] at e
    refine ⟨fn_el (wOk_iff.1 h).1 15, fun m hm => ?_⟩
    rcases (by omega : m = 0 ∨ m = 1 ∨ m = 2 ∨ m = 3) with rfl | rfl | rfl | rfl <;> omega
  · intro e
    rw [e.2 0 (by omega), e.2 1 (by omega), e.2 2 (by omega), e.2 3 (by omega)]; rfl
theorem dif_list {xs ys : List Int} (h : wOk xs = true) (k : wOk ys = true) : cnt (dif (fnOf xs) (fnOf ys)) 15 = 0 ↔ xs = ys := by
  constructor
  · intro e
    have key : ∀ n, cnt (dif (fnOf xs) (fnOf ys)) n = 0 → ∀ i, i < n → fnOf xs i = fnOf ys i := by
      intro n
      induction n with
      | zero => intro _ i hi; omega
      | succ n ih =>
        intro e i hi
        simp only [cnt] at e
        by_cases h0 : dif (fnOf xs) (fnOf ys) n = 0
        · by_cases hin : i = n
          · subst hin; exact dif_zero.1 h0
          · exact ih (by omega) i (by omega)
        · rw [if_neg h0] at e; omega
    have h1 := key 15 e
    rw [← ls_fn (wOk_iff.1 h).1, ← ls_fn (wOk_iff.1 k).1, (wOk_iff.1 h).2, (wOk_iff.1 k).2]
    exact ls_congr h1
  · rintro rfl
    rw [cnt_congr (E := fun _ => 0) fun i _ => dif_zero.2 rfl]; rfl

/-! ### decoding -/
theorem dec_some {xs ys : List Int} (h : decL xs = some ys) : wOk xs = true ∧ CodeL ys ∧ Near (fnOf ys) (fnOf xs) := by
  unfold decL at h
  split at h
  · rename_i hw
    obtain ⟨⟨a, b, c, d⟩, h1, rfl⟩ := Option.map_eq_some_iff.1 h
    obtain ⟨_, hc, hn⟩ := dW_code (fn_el (wOk_iff.1 hw).1 15) h1
    refine ⟨hw, code_ls hc, ?_⟩
    obtain ⟨V, hV, hX⟩ := hn
    exact ⟨V, hV, fun k hk => by rw [show fnOf (fixL (fnOf xs) (a, b, c, d)) k = _ from fn_ls hk]; exact hX k hk⟩
  · cases h
theorem code_list {xs ys : List Int} (h : CodeL xs) (k : CodeL ys) (e : ∀ i, i < 15 → fnOf xs i = fnOf ys i) : xs = ys := by
  rw [← ls_fn (wOk_iff.1 h.1).1, ← ls_fn (wOk_iff.1 k.1).1, (wOk_iff.1 h.1).2, (wOk_iff.1 k.1).2]
  exact ls_congr e
/-- a near code word is what is decoded -/
theorem dec_near {xs ys : List Int} (hw : wOk xs = true) (hy : CodeL ys) (hn : Near (fnOf ys) (fnOf xs)) : decL xs = some ys := by
  obtain ⟨a, b, c, d, h1, h2⟩ := dW_near (fn_el (wOk_iff.1 hw).1 15) hy.2 hn
  have e : decL xs = some (fixL (fnOf xs) (a, b, c, d)) := by rw [decL, if_pos hw, h1]; rfl
  rw [e]
  have := dec_some e
  rw [code_list this.2.1 hy fun i hi => by rw [show fnOf (fixL (fnOf xs) (a, b, c, d)) i = _ from fn_ls hi, h2 i hi]]
theorem near_cnt {xs ys : List Int} (h : wOk xs = true) (k : wOk ys = true) : Near (fnOf xs) (fnOf ys) ↔ distL xs ys ≤ 2 := by
  rw [near_iff (fn_el (wOk_iff.1 h).1 15) (fn_el (wOk_iff.1 k).1 15), distL, if_pos ⟨h, k⟩]
  omega
theorem dist_self {xs : List Int} (h : wOk xs = true) : distL xs xs = 0 := by
  rw [distL, if_pos ⟨h, h⟩, (dif_list h h).2 rfl]; rfl
theorem cnt_comm (X Y : Nat → Nat) (n : Nat) : cnt (dif X Y) n = cnt (dif Y X) n := cnt_congr fun _ _ => Nat.xor_comm _ _
theorem dist_comm (xs ys : List Int) : distL xs ys = distL ys xs := by
  unfold distL
  by_cases h : wOk xs = true ∧ wOk ys = true
  · rw [if_pos h, if_pos ⟨h.2, h.1⟩, cnt_comm]
  · rw [if_neg h, if_neg fun k => h ⟨k.2, k.1⟩]

end Go.Proofs.YtemokfjnbmncbaaDoor
