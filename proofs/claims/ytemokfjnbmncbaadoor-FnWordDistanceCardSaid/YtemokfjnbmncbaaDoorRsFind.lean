/-
  What the decoder answers is a code word that is near; the reference searches for it. Plain facts.
-/
import Derived.Test.YtemokfjnbmncbaaDoorRsDist
import Derived.Test.YtemokfjnbmncbaaDoorRsS
import Derived.Test.YtemokfjnbmncbaaDoorRsU
namespace Go.Proofs.YtemokfjnbmncbaaDoor.T
theorem sound_at {s0 s1 s2 s3 : Nat} (h0 : s0 < 16) (h1 : s1 < 16) (h2 : s2 < 16) (h3 : s3 < 16) : okS s0 s1 s2 s3 = true := by
  have key : ∀ z, all 16 (fun s1 => all 16 fun s2 => all 16 fun s3 => okS z s1 s2 s3) = true → s0 = z → okS s0 s1 s2 s3 = true := by
    rintro z h rfl
    exact all_at (all_at (all_at h h1) h2) h3
  rcases (by omega : s0 = 0 ∨ s0 = 1 ∨ s0 = 2 ∨ s0 = 3 ∨ s0 = 4 ∨ s0 = 5 ∨ s0 = 6 ∨ s0 = 7 ∨ s0 = 8 ∨ s0 = 9 ∨ s0 = 10 ∨ s0 = 11 ∨ s0 = 12 ∨ s0 = 13 ∨ s0 = 14 ∨ s0 = 15) with e | e | e | e | e | e | e | e | e | e | e | e | e | e | e | e
  · exact key _ sound0 e
  · exact key _ sound1 e
  · exact key _ sound2 e
  · exact key _ sound3 e
  · exact key _ sound4 e
  · exact key _ sound5 e
  · exact key _ sound6 e
  · exact key _ sound7 e
  · exact key _ sound8 e
  · exact key _ sound9 e
  · exact key _ sound10 e
  · exact key _ sound11 e
  · exact key _ sound12 e
  · exact key _ sound13 e
  · exact key _ sound14 e
  · exact key _ sound15 e
/-- WHAT THE DECODER ANSWERS is a code word that is near -/
theorem dW_code {W : Nat → Nat} {a b c d : Nat} (hW : El 15 W) (h : dW W = some (a, b, c, d)) :
    (a < 15 ∧ b < 16 ∧ c < 15 ∧ d < 16) ∧ Code (fun k => W k ^^^ two a b c d k) ∧ Near (fun k => W k ^^^ two a b c d k) W := by
  have hs := sound_at (sy_lt (m := 0) hW) (sy_lt (m := 1) hW) (sy_lt (m := 2) hW) (sy_lt (m := 3) hW)
  unfold okS at hs
  unfold dW at h
  rw [h] at hs
  simp only [Bool.and_eq_true, decide_eq_true_eq, beq_iff_eq] at hs
  obtain ⟨⟨⟨⟨⟨⟨⟨ha, hc⟩, hb⟩, hd⟩, e0⟩, e1⟩, e2⟩, e3⟩ := hs
  refine ⟨⟨ha, hb, hc, hd⟩, ⟨fun k hk => xor_lt (hW k hk) (two_el hb hd k hk), fun m hm => ?_⟩, two a b c d, ⟨a, b, c, d, ha, hb, hc, hd, fun _ _ => rfl⟩, fun _ _ => rfl⟩
  rw [sy_xor hW (two_el hb hd), two_sy hm ha hc hb hd]
  rcases (by omega : m = 0 ∨ m = 1 ∨ m = 2 ∨ m = 3) with rfl | rfl | rfl | rfl
  · rw [e0, Nat.xor_self]
  · rw [e1, Nat.xor_self]
  · rw [e2, Nat.xor_self]
  · rw [e3, Nat.xor_self]

/-! ### the reference's search -/
def xel (i : Nat) : Nat := gp (14 - i)
def fixE (s0 s1 i j : Nat) : Nat := if i = j then gm s0 (gi (xel i)) else gm (s0 ^^^ gm (gm (gm s0 (xel i) ^^^ s1) (gi (gm (xel j) (xel i ^^^ xel j)))) (xel j)) (gi (xel i))
def fixF (s0 s1 i j : Nat) : Nat := if i = j then 0 else gm (gm s0 (xel i) ^^^ s1) (gi (gm (xel j) (xel i ^^^ xel j)))
def cand (W : Nat → Nat) (i j : Nat) : Nat → Nat := fun k => W k ^^^ two i (fixE (sy W 0) (sy W 1) i j) j (fixF (sy W 0) (sy W 1) i j) k
theorem fixE_lt {s0 s1 i j : Nat} : fixE s0 s1 i j < 16 := by unfold fixE; split <;> exact gm_lt _ _
theorem fixF_lt {s0 s1 i j : Nat} : fixF s0 s1 i j < 16 := by unfold fixF; split; omega; exact gm_lt _ _
theorem fix_all : all 15 (fun i => all 15 fun j => decide (j ≤ i) || all 16 fun e => all 16 fun f => fixE (syT i e j f 0) (syT i e j f 1) i j == e && fixF (syT i e j f 0) (syT i e j f 1) i j == f) = true := by decide +kernel
theorem fix_two (i : Nat) (hi : i < 15) (j : Nat) (hj : j < 15) (hij : i < j) (e : Nat) (he : e < 16) (f : Nat) (hf : f < 16) : fixE (syT i e j f 0) (syT i e j f 1) i j = e ∧ fixF (syT i e j f 0) (syT i e j f 1) i j = f := by
  have h := all_at (all_at fix_all hi) hj
  rw [Bool.or_eq_true] at h
  rcases h with h | h
  · have := of_decide_eq_true h; omega
  · have := all_at (all_at h he) hf
    simpa using this
theorem fix_one : ∀ i < 15, ∀ e < 16, fixE (syT i e i 0 0) (syT i e i 0 1) i i = e ∧ fixF (syT i e i 0 0) (syT i e i 0 1) i i = 0 := by decide +kernel
theorem cand_near {W : Nat → Nat} {i j : Nat} (hi : i < 15) (hj : j < 15) : Near (cand W i j) W :=
  ⟨_, ⟨i, _, j, _, hi, fixE_lt, hj, fixF_lt, fun _ _ => rfl⟩, fun _ _ => rfl⟩
theorem cand_el {W : Nat → Nat} {i j : Nat} (hW : El 15 W) : El 15 (cand W i j) := fun k hk => xor_lt (hW k hk) (two_el fixE_lt fixF_lt k hk)
/-- where a code word is near, the search meets it -/
theorem cand_meets {X W : Nat → Nat} (hW : El 15 W) (hX : Code X) (nX : Near X W) : ∃ i j, i ≤ j ∧ j < 15 ∧ ∀ k, k < 15 → cand W i j k = X k := by
  obtain ⟨V, sV, hV⟩ := nX
  have hs : ∀ m, m < 4 → sy W m = sy V m := fun m hm => by
    have h1 := near_sy (m := m) hW sV hV
    rw [hX.2 m hm] at h1
    exact xor_eq_zero h1.symm
  obtain ⟨i, e, j, f, hi, he, hj, hf, h2⟩ := sV
  have h3 : ∀ m, m < 4 → sy W m = syT i e j f m := fun m hm => by rw [hs m hm, sy_congr h2, two_sy hm hi hj he hf]
  rcases Nat.lt_trichotomy i j with h | h | h
  · refine ⟨i, j, by omega, hj, fun k hk => ?_⟩
    have := fix_two i hi j hj h e he f hf
    unfold cand
    rw [h3 0 (by omega), h3 1 (by omega), this.1, this.2, hV k hk, h2 k hk]
  · subst h
    refine ⟨i, i, by omega, hi, fun k hk => ?_⟩
    have := fix_one i hi (e ^^^ f) (xor_lt he hf)
    have s : ∀ m, syT i e i f m = syT i (e ^^^ f) i 0 m := fun m => by rw [syT_same he hf, syT_zero (j := i) (xor_lt he hf)]
    unfold cand
    rw [h3 0 (by omega), h3 1 (by omega), s, s, this.1, this.2, hV k hk, h2 k hk, two_zero i (e ^^^ f) i, two_same i e f]
  · refine ⟨j, i, by omega, hi, fun k hk => ?_⟩
    have := fix_two j hj i hi h f hf e he
    unfold cand
    rw [h3 0 (by omega), h3 1 (by omega), syT_comm i, syT_comm i, this.1, this.2, hV k hk, h2 k hk, two_comm]

end Go.Proofs.YtemokfjnbmncbaaDoor.T
