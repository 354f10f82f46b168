/-
  Decoding, in parts: one error, two errors, the reference's search. Plain facts.
-/
import Derived.Test.YtemokfjnbmncbaaDoorEncS
namespace Go.Proofs.YtemokfjnbmncbaaDoor
open Go.RowKit T

theorem i64_or (a b : Nat) (ha : a < 1000) (hb : b < 1000) : bits BinOp.or IntKind.i64 (a : Int) (b : Int) = ((a ||| b : Nat) : Int) := by
  have hx : a ||| b < 2 ^ 10 := Nat.or_lt_two_pow (by omega) (by omega)
  show IntKind.i64.wrap ((BitVec.ofInt 64 (a : Int) ||| BitVec.ofInt 64 (b : Int)).toNat : Int) = _
  rw [BitVec.toNat_or, ofInt_i64 a (by omega), ofInt_i64 b (by omega), IntKind.wrap_i64]
  omega
theorem or_zero4 {a b c d : Nat} : (((a ||| b) ||| c) ||| d) = 0 ↔ a = 0 ∧ b = 0 ∧ c = 0 ∧ d = 0 := by
  simp [Nat.or_eq_zero_iff, and_assoc]
theorem or_lt {a b : Nat} (h : a < 16) (k : b < 16) : a ||| b < 16 := Nat.or_lt_two_pow (n := 4) h k

/-! ### what the two parts of the decoder find -/
def d1 (s0 s1 s2 s3 : Nat) : Option (Nat × Nat) :=
  if s0 = 0 ∨ s1 = 0 then none else
  if gm s1 (gm s1 (gi s0)) ≠ s2 ∨ gm s2 (gm s1 (gi s0)) ≠ s3 then none else some (14 - gl (gm s1 (gi s0)), gm s0 (gi (gm s1 (gi s0))))
def sec (s0 s1 x y : Nat) : Nat := gm (s1 ^^^ gm s0 x) (gi (gm y (x ^^^ y)))
def fir (s0 s1 x y : Nat) : Nat := gm (s0 ^^^ gm (sec s0 s1 x y) y) (gi x)
def cA (s0 s1 s2 s3 i : Nat) : Nat := gm (gm s2 s1 ^^^ gm s3 s0) i
def cB (s1 s2 s3 i : Nat) : Nat := gm (gm s1 s3 ^^^ gm s2 s2) i
def d2 (s0 s1 s2 s3 i : Nat) : Option (Nat × Nat × Nat × Nat) :=
  match zerosOf (cA s0 s1 s2 s3 i) (cB s1 s2 s3 i) 15 with
  | [x, y] => some (14 - gl x, fir s0 s1 x y, 14 - gl y, sec s0 s1 x y)
  | _ => none
theorem d2_no {s0 s1 s2 s3 i : Nat} {L : List Nat} (h : zerosOf (cA s0 s1 s2 s3 i) (cB s1 s2 s3 i) 15 = L) (hl : L.length ≠ 2) : d2 s0 s1 s2 s3 i = none := by
  unfold d2
  rw [h]
  match L, hl with
  | [], _ => rfl
  | [_], _ => rfl
  | [_, _], h => simp at h
  | _ :: _ :: _ :: _, _ => rfl
theorem d2_yes {s0 s1 s2 s3 i x y : Nat} (h : zerosOf (cA s0 s1 s2 s3 i) (cB s1 s2 s3 i) 15 = [x, y]) : d2 s0 s1 s2 s3 i = some (14 - gl x, fir s0 s1 x y, 14 - gl y, sec s0 s1 x y) := by
  unfold d2
  rw [h]
theorem dec_parts (s0 s1 s2 s3 : Nat) : dec s0 s1 s2 s3 = if s0 = 0 ∧ s1 = 0 ∧ s2 = 0 ∧ s3 = 0 then some (0, 0, 0, 0) else
    if gm s1 s1 ^^^ gm s0 s2 = 0 then (d1 s0 s1 s2 s3).map (fun z => (z.1, z.2, 0, 0)) else d2 s0 s1 s2 s3 (gi (gm s1 s1 ^^^ gm s0 s2)) := by
  unfold dec d1
  by_cases h0 : s0 = 0 ∧ s1 = 0 ∧ s2 = 0 ∧ s3 = 0
  · rw [if_pos h0]; simp only [if_pos h0]
  · rw [if_neg h0]; simp only [if_neg h0]
    by_cases hd : gm s1 s1 ^^^ gm s0 s2 = 0
    · rw [if_pos hd]; simp only [if_pos hd]
      by_cases h1 : s0 = 0 ∨ s1 = 0
      · rw [if_pos h1, if_pos h1]; rfl
      · rw [if_neg h1, if_neg h1]
        split <;> rfl
    · rw [if_neg hd]; simp only [if_neg hd]; rfl
theorem zeros_step {a b k : Nat} (h1 : 1 ≤ k) (h : k < 16) : zerosOf a b (16 - k) = if gm k k ^^^ gm a k ^^^ b = 0 then k :: zerosOf a b (16 - (k + 1)) else zerosOf a b (16 - (k + 1)) := by
  have e : 16 - k = (15 - k) + 1 := by omega
  rw [e]
  have e2 : 15 - (15 - k) = k := by omega
  have e3 : 16 - (k + 1) = 15 - k := by omega
  simp only [zerosOf, e2, e3]
theorem zeros_lt {a b : Nat} : ∀ n, n ≤ 15 → ∀ x ∈ zerosOf a b n, 1 ≤ x ∧ x < 16
  | 0, _, x, hx => by simp [zerosOf] at hx
  | n + 1, hn, x, hx => by
    simp only [zerosOf] at hx
    split at hx
    · rcases List.mem_cons.1 hx with rfl | hx
      · omega
      · exact zeros_lt n (by omega) x hx
    · exact zeros_lt n (by omega) x hx
/-- the word with one place changed -/
def at1 (W : Nat → Nat) (p e : Nat) : Nat → Nat := fun k => if k = p then W k ^^^ e else W k
theorem at1_el {W : Nat → Nat} {p e n : Nat} (h : El n W) (he : e < 16) : El n (at1 W p e) := fun k hk => by
  unfold at1; split
  · exact xor_lt (h k hk) he
  · exact h k hk
theorem at1_set {W : Nat → Nat} {n p e x : Nat} (h : W p ^^^ e = x) : (lsOf n W).set p (x : Int) = lsOf n (at1 W p e) := by
  rw [ls_set]
  refine ls_congr fun k _ => ?_
  unfold at1
  by_cases h1 : k = p
  · subst h1; rw [if_pos rfl, if_pos rfl, h]
  · rw [if_neg h1, if_neg h1]
theorem at1_two {W : Nat → Nat} (p e q f : Nat) : at1 (at1 W p e) q f = fun k => W k ^^^ two p e q f k := by
  funext k
  unfold at1 two one
  by_cases h1 : k = p
  · rw [if_pos h1, if_pos h1]
    by_cases h2 : k = q
    · rw [if_pos h2, if_pos h2, Nat.xor_assoc]
    · rw [if_neg h2, if_neg h2, Nat.xor_zero]
  · rw [if_neg h1, if_neg h1]
    by_cases h2 : k = q
    · rw [if_pos h2, if_pos h2, Nat.zero_xor]
    · rw [if_neg h2, if_neg h2, Nat.xor_zero, Nat.xor_zero]
theorem at1_one {W : Nat → Nat} (p e : Nat) : at1 W p e = fun k => W k ^^^ two p e 0 0 k := by
  rw [two_zero p e 0, ← at1_two]
  funext k
  unfold at1
  by_cases h1 : k = 0 <;> simp [h1]

/-! ### the search -/
theorem xel_pos : ∀ i < 15, 1 ≤ xel i ∧ xel i < 16 := by decide +kernel
theorem xel_two : ∀ i < 15, ∀ j < 15, i < j → 1 ≤ gm (xel j) (xel i ^^^ xel j) := by decide +kernel
theorem dec_cand {xs : List Int} (hw : wOk xs = true) {i j : Nat} (hi : i < 15) (hj : j < 15) (hc : T.Code (cand (fnOf xs) i j)) : decL xs = some (lsOf 15 (cand (fnOf xs) i j)) := by
  have hC := code_ls hc
  obtain ⟨V, hV, hX⟩ := cand_near (W := fnOf xs) hi hj
  exact dec_near hw hC ⟨V, hV, fun k hk => by rw [fn_ls hk]; exact hX k hk⟩
theorem dec_none {xs : List Int} (hw : wOk xs = true) (h : ∀ i j, i ≤ j → j < 15 → ¬ T.Code (cand (fnOf xs) i j)) : decL xs = none := by
  cases e : decL xs with
  | none => rfl
  | some ys =>
    obtain ⟨_, hC, hN⟩ := dec_some e
    obtain ⟨i, j, hij, hj, hx⟩ := cand_meets (fn_el (wOk_iff.1 hw).1 15) hC.2 hN
    refine absurd ?_ (h i j hij hj)
    have := (code_ls (W := cand (fnOf xs) i j) ?_).2
    · exact ⟨cand_el (fn_el (wOk_iff.1 hw).1 15), fun m hm => by rw [sy_congr hx]; exact hC.2.2 m hm⟩
    · exact ⟨cand_el (fn_el (wOk_iff.1 hw).1 15), fun m hm => by rw [sy_congr hx]; exact hC.2.2 m hm⟩
/-- a code word is decoded to itself -/
theorem dec_code {xs : List Int} (hc : CodeL xs) : decL xs = some xs := by
  refine dec_near hc.1 hc ((near_cnt hc.1 hc.1).2 ?_)
  rw [dist_self hc.1]; omega
/-- a code word near is decoded -/
theorem dec_dist {xs ys : List Int} (hw : wOk xs = true) (hc : CodeL ys) (h : distL ys xs ≤ 2) : decL xs = some ys := dec_near hw hc ((near_cnt hc.1 hw).2 h)

end Go.Proofs.YtemokfjnbmncbaaDoor
