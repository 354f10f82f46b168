/-
  What the laws on the decoder of words use: its two ways; words that differ from a code word in a few places.
-/
import Derived.Test.YtemokfjnbmncbaaDoorDecT
import Derived.Test.YtemokfjnbmncbaaDoorDrawWord
namespace Go.Proofs.YtemokfjnbmncbaaDoor
open Go.RowKit T

theorem decS_some {P : Program} {f : FuncId} {args : Array Value} {w : World} {xs ys : List Int} (h : Calls P f args w (DecS xs w)) (e : decL xs = some ys) :
    Calls P f args w fun e w' => ∃ v', e = .returned (.tuple #[v', .bool true]) ∧ Own w.heap.size w'.heap.size w' v' ys ∧ Below w.heap.size w w' := by
  refine h.mono ?_
  rintro en w' ⟨v', h1, h2, h3⟩
  rw [e] at h1 h2
  exact ⟨v', h1, h2, h3⟩
theorem decS_none {P : Program} {f : FuncId} {args : Array Value} {w : World} {xs : List Int} (h : Calls P f args w (DecS xs w)) (e : decL xs = none) :
    Calls P f args w fun e w' => ∃ v', e = .returned (.tuple #[v', .bool false]) ∧ Own w.heap.size w'.heap.size w' v' [] ∧ Below w.heap.size w w' := by
  refine h.mono ?_
  rintro en w' ⟨v', h1, h2, h3⟩
  rw [e] at h1 h2
  exact ⟨v', h1, h2, h3⟩
theorem row11 {B C : Nat} {w : World} {v : Value} {W : Nat → Nat} (h : Own B C w v (lsOf 11 W)) : ∃ g cap, v = .slice (some ⟨g, 0, none⟩) 11 cap ∧ B ≤ g ∧ g < C ∧ 11 ≤ cap := row_of h
theorem xor_back (a b : Nat) : a ^^^ (b ^^^ a) = b := by rw [Nat.xor_comm b, ← Nat.xor_assoc, Nat.xor_self, Nat.zero_xor]
theorem codeL_el {F : Nat → Nat} (hF : CodeL (lsOf 15 F)) : El 15 F := fun k hk => by have := hF.2.1 k hk; rwa [fn_ls hk] at this
/-- a code word with any two symbols changed is decoded to itself -/
theorem dec_change {F X : Nat → Nat} {i j : Nat} (hF : CodeL (lsOf 15 F)) (hX : El 15 X) (hi : i < 15) (hj : j < 15) (h : ∀ k, k < 15 → k ≠ i → k ≠ j → X k = F k) : decL (lsOf 15 X) = some (lsOf 15 F) := by
  have hE := codeL_el hF
  refine dec_near (wOk_ls hX) hF ⟨two i (F i ^^^ X i) j (if i = j then 0 else F j ^^^ X j), ⟨i, _, j, _, hi, xor_lt (hE i hi) (hX i hi), hj, ?_, fun _ _ => rfl⟩, fun k hk => ?_⟩
  · split
    · omega
    · exact xor_lt (hE j hj) (hX j hj)
  · rw [fn_ls hk, fn_ls hk]
    unfold two one
    by_cases h1 : k = i
    · subst h1
      rw [if_pos rfl]
      by_cases h2 : k = j
      · subst h2; rw [if_pos rfl, if_pos rfl, Nat.xor_zero, xor_back]
      · rw [if_neg h2, Nat.xor_zero, xor_back]
    · rw [if_neg h1]
      by_cases h2 : k = j
      · subst h2; rw [if_pos rfl, if_neg (fun e => h1 e.symm), Nat.zero_xor, xor_back]
      · rw [if_neg h2, h k hk h1 h2]; simp
/-- three changes, at the places 0, 4, 8 -/
def tw (F D : Nat → Nat) : Nat → Nat → Nat
  | 0 => F
  | k + 1 => at1 (tw F D k) (4 * k) (1 + D k % 15)
theorem tw_el {F D : Nat → Nat} (h : El 15 F) (k : Nat) : El 15 (tw F D k) := by
  induction k with
  | zero => exact h
  | succ k ih => exact at1_el ih (by omega)
theorem tw_three {F D : Nat → Nat} (k : Nat) : tw F D 3 k = F k ^^^ (if k = 0 then 1 + D 0 % 15 else if k = 4 then 1 + D 1 % 15 else if k = 8 then 1 + D 2 % 15 else 0) := by
  show at1 (at1 (at1 F (4 * 0) _) (4 * 1) _) (4 * 2) _ k = _
  unfold at1
  by_cases h0 : k = 0
  · subst h0; simp
  · by_cases h4 : k = 4
    · subst h4; simp
    · by_cases h8 : k = 8
      · subst h8; simp
      · simp [h0, h4, h8]
theorem three_far {F D : Nat → Nat} (hF : CodeL (lsOf 15 F)) : ¬ distL (lsOf 15 F) (lsOf 15 (tw F D 3)) ≤ 2 := by
  have hE := codeL_el hF
  have hT := tw_el (D := D) hE 3
  rw [distL_yes hF.1 (wOk_ls hT)]
  have : cnt (dif (fnOf (lsOf 15 F)) (fnOf (lsOf 15 (tw F D 3)))) 15 = cnt (fun k => if k = 0 then 1 + D 0 % 15 else if k = 4 then 1 + D 1 % 15 else if k = 8 then 1 + D 2 % 15 else 0) 15 := cnt_congr fun k hk => by
    unfold dif
    rw [fn_ls hk, fn_ls hk, tw_three, ← Nat.xor_assoc, Nat.xor_self, Nat.zero_xor]
  rw [this]
  simp [cnt]
theorem three_dec {F D : Nat → Nat} (hF : CodeL (lsOf 15 F)) {ys : List Int} (h : decL (lsOf 15 (tw F D 3)) = some ys) : ys ≠ lsOf 15 F ∧ distL ys (lsOf 15 (tw F D 3)) ≤ 2 := by
  obtain ⟨hw, hc, hn⟩ := dec_some h
  have := (near_cnt hc.1 hw).1 hn
  exact ⟨fun e => three_far (D := D) hF (by rw [← e]; exact this), this⟩

end Go.Proofs.YtemokfjnbmncbaaDoor
