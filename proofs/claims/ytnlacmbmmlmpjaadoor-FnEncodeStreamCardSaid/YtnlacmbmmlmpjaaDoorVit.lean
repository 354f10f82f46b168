/-
  Ways through the trellis, their costs and their order; the survivors are the best ways. Plain facts.
-/
namespace Go.Proofs.YtnlacmbmmlmpjaaDoor.T
/-! ### ways through the trellis: lists of bits, the last bit first -/
def o1 (b a c : Int) : Int := (b + a + c) % 2
def o2 (b c : Int) : Int := (b + c) % 2
def dx (a b : Int) : Int := if a = b then 0 else 1
def sA (r : List Int) : Int := r.getD 0 0
def sC (r : List Int) : Int := r.getD 1 0
theorem sA_cons (b : Int) (r : List Int) : sA (b :: r) = b := rfl
theorem sC_cons (b : Int) (r : List Int) : sC (b :: r) = sA r := by cases r <;> rfl
/-- in how many places the code of a way differs from y -/
def cost (y : Nat → Int) : List Int → Int
  | [] => 0
  | b :: r => cost y r + dx (o1 b (sA r) (sC r)) (y (2 * r.length)) + dx (o2 b (sC r)) (y (2 * r.length + 1))
/-- a way comes before another one of equal length -/
def lt : List Int → List Int → Bool
  | a :: p, b :: q => if p = q then decide (a < b) else lt p q
  | _, _ => false
def lessB (y : Nat → Int) (p q : List Int) : Bool := decide (cost y p < cost y q) || (decide (cost y p = cost y q) && lt p q)
theorem lessB_iff {y : Nat → Int} {p q : List Int} : lessB y p q = true ↔ cost y p < cost y q ∨ (cost y p = cost y q ∧ lt p q = true) := by simp [lessB]
/-- a way of bits; from place n on they are 0 -/
def Ok (n : Nat) : List Int → Prop
  | [] => True
  | b :: r => (b = 0 ∨ (b = 1 ∧ r.length < n)) ∧ Ok n r
theorem Ok.bit {n : Nat} {r : List Int} (h : Ok n r) : ∀ b ∈ r, b = 0 ∨ b = 1 := by
  induction r with
  | nil => intro b hb; cases hb
  | cons a r ih =>
    intro b hb
    rcases List.mem_cons.1 hb with rfl | hb
    · have := h.1; omega
    · exact ih h.2 b hb
theorem Ok.sA {n : Nat} {r : List Int} (h : Ok n r) : T.sA r = 0 ∨ T.sA r = 1 := by
  cases r with
  | nil => exact .inl rfl
  | cons a r => exact h.bit a (by simp)
theorem Ok.sC {n : Nat} {r : List Int} (h : Ok n r) : T.sC r = 0 ∨ T.sC r = 1 := by
  cases r with
  | nil => exact .inl rfl
  | cons a r => rw [sC_cons]; exact h.2.sA
theorem lt_irrefl (p : List Int) : lt p p = false := by
  induction p with
  | nil => rfl
  | cons a p _ => simp [lt]
theorem lt_trans {p q r : List Int} (h : lt p q = true) (k : lt q r = true) : lt p r = true := by
  induction p generalizing q r with
  | nil => simp [lt] at h
  | cons a p ih =>
    match q, r, h, k with
    | b :: q, c :: r, h, k =>
      simp only [lt] at h k ⊢
      by_cases e1 : p = q
      · subst e1
        rw [if_pos rfl] at h
        by_cases e2 : p = r
        · subst e2; rw [if_pos rfl] at k ⊢; simp at h k ⊢; omega
        · rw [if_neg e2] at k ⊢; exact k
      · rw [if_neg e1] at h
        by_cases e2 : q = r
        · subst e2; rw [if_neg e1]; exact h
        · rw [if_neg e2] at k
          have := ih h k
          by_cases e3 : p = r
          · subst e3; rw [lt_irrefl] at this; cases this
          · rw [if_neg e3]; exact this
theorem lt_total {p q : List Int} (hl : p.length = q.length) (h : p ≠ q) : lt p q = true ∨ lt q p = true := by
  induction p generalizing q with
  | nil => cases q with | nil => exact absurd rfl h | cons b q => simp at hl
  | cons a p ih =>
    cases q with
    | nil => simp at hl
    | cons b q =>
      simp only [lt]
      by_cases e : p = q
      · subst e
        have : a ≠ b := fun e => h (by rw [e])
        simp; omega
      · rw [if_neg e, if_neg (fun h => e h.symm)]
        exact ih (by simpa using hl) e
theorem less_irrefl (y : Nat → Int) (p : List Int) : lessB y p p = false := by simp [lessB, lt_irrefl]
theorem less_trans {y : Nat → Int} {p q r : List Int} (h : lessB y p q = true) (k : lessB y q r = true) : lessB y p r = true := by
  rw [lessB_iff] at *
  rcases h with h | ⟨h, h'⟩ <;> rcases k with k | ⟨k, k'⟩
  · left; omega
  · left; omega
  · left; omega
  · exact .inr ⟨by omega, lt_trans h' k'⟩
theorem less_total {y : Nat → Int} {p q : List Int} (hl : p.length = q.length) (h : p ≠ q) : lessB y p q = true ∨ lessB y q p = true := by
  rw [lessB_iff, lessB_iff]
  rcases Int.lt_trichotomy (cost y p) (cost y q) with e | e | e
  · exact .inl (.inl e)
  · rcases lt_total hl h with k | k
    · exact .inl (.inr ⟨e, k⟩)
    · exact .inr (.inr ⟨e.symm, k⟩)
  · exact .inr (.inl e)
theorem less_cons {y : Nat → Int} {p q : List Int} (b : Int) (hl : p.length = q.length) (hA : sA p = sA q) (hC : sC p = sC q) (h : lessB y p q = true) : lessB y (b :: p) (b :: q) = true := by
  rw [lessB_iff] at *
  simp only [cost, hl, hA, hC]
  rcases h with h | ⟨h, h'⟩
  · left; omega
  · refine .inr ⟨by omega, ?_⟩
    simp only [lt]
    by_cases e : p = q
    · subst e; rw [lt_irrefl] at h'; cases h'
    · rw [if_neg e]; exact h'

/-! ### the survivors -/
def pick (y : Nat → Int) : Option (List Int) → Option (List Int) → Option (List Int)
  | none, o => o
  | some p, none => some p
  | some p, some q => if lessB y q p then some q else some p
/-- the survivor of length k whose last bits are a and, before it, c -/
def vit (y : Nat → Int) (n : Nat) : Nat → Int → Int → Option (List Int)
  | 0, a, c => if a = 0 ∧ c = 0 then some [] else none
  | k + 1, a, c => if n ≤ k ∧ a = 1 then none else pick y ((vit y n k c 0).map (a :: ·)) ((vit y n k c 1).map (a :: ·))
def Bit (a : Int) : Prop := a = 0 ∨ a = 1
/-- o is the best of all ways of length k that end in a and, before it, c -/
def Best (y : Nat → Int) (n k : Nat) (a c : Int) (o : Option (List Int)) : Prop :=
  (∀ p, o = some p → p.length = k ∧ Ok n p ∧ sA p = a ∧ sC p = c) ∧
  ∀ q, q.length = k → Ok n q → sA q = a → sC q = c → ∃ p, o = some p ∧ (q = p ∨ lessB y p q = true)
theorem pick_some {y : Nat → Int} {s t : Option (List Int)} {p : List Int} (h : pick y s t = some p) : s = some p ∨ t = some p := by
  match s, t, h with
  | none, t, h => exact .inr h
  | some q, none, h => exact .inl h
  | some q, some r, h =>
    simp only [pick] at h
    split at h
    · exact .inr h
    · exact .inl h
theorem pick_le {y : Nat → Int} {s t : Option (List Int)} {q : List Int} (hl : ∀ p r, s = some p → t = some r → p.length = r.length) (h : s = some q ∨ t = some q) : ∃ p, pick y s t = some p ∧ (q = p ∨ lessB y p q = true) := by
  match s, t, h with
  | none, t, h => rcases h with h | h; cases h; exact ⟨q, h, .inl rfl⟩
  | some p, none, h => rcases h with h | h; exact ⟨q, h, .inl rfl⟩; cases h
  | some p, some r, h =>
    simp only [pick]
    by_cases e : lessB y r p = true
    · rw [if_pos e]
      refine ⟨r, rfl, ?_⟩
      rcases h with h | h <;> injection h with h
      · subst h; exact .inr e
      · exact .inl h.symm
    · rw [if_neg e]
      refine ⟨p, rfl, ?_⟩
      rcases h with h | h <;> injection h with h
      · exact .inl h.symm
      · subst h
        by_cases e2 : r = p
        · exact .inl e2
        · rcases less_total (y := y) (hl p r rfl rfl) (fun h => e2 h.symm) with k | k
          · exact .inr k
          · exact absurd k e
theorem vit_best (y : Nat → Int) (n : Nat) : ∀ k a c, Bit a → Bit c → Best y n k a c (vit y n k a c) := by
  intro k
  induction k with
  | zero =>
    intro a c ha hc
    refine ⟨fun p hp => ?_, fun q hq _ hA hC => ?_⟩
    · simp only [vit] at hp
      split at hp
      · rename_i h; injection hp with hp; subst hp; exact ⟨rfl, trivial, h.1.symm, h.2.symm⟩
      · cases hp
    · have : q = [] := List.eq_nil_of_length_eq_zero hq
      subst this
      exact ⟨[], by simp only [vit]; rw [if_pos ⟨hA.symm, hC.symm⟩], .inl rfl⟩
  | succ k ih =>
    intro a c ha hc
    have B0 := ih c 0 hc (.inl rfl)
    have B1 := ih c 1 hc (.inr rfl)
    have key : ∀ p i, (vit y n k c i).map (a :: ·) = some p → ¬ (n ≤ k ∧ a = 1) → (∀ p, vit y n k c i = some p → p.length = k ∧ Ok n p ∧ sA p = c ∧ sC p = i) → p.length = k + 1 ∧ Ok n p ∧ sA p = a ∧ sC p = c := by
      intro p i hp hz H
      obtain ⟨r, hr, rfl⟩ := Option.map_eq_some_iff.1 hp
      obtain ⟨h1, h2, h3, h4⟩ := H r hr
      exact ⟨by simp [h1], ⟨by rcases ha with rfl | rfl; exact .inl rfl; exact .inr ⟨rfl, by omega⟩, h2⟩, rfl, by rw [sC_cons]; exact h3⟩
    refine ⟨fun p hp => ?_, fun q hq hok hA hC => ?_⟩
    · simp only [vit] at hp
      split at hp
      · cases hp
      · rename_i hz
        rcases pick_some hp with h | h
        · exact key p 0 h hz B0.1
        · exact key p 1 h hz B1.1
    · match q, hq, hok, hA, hC with
      | b :: r, hq, hok, hA, hC =>
        rw [sA_cons] at hA
        rw [sC_cons] at hC
        subst hA
        have hz : ¬ (n ≤ k ∧ b = 1) := by
          have := hok.1
          have : r.length = k := by simpa using hq
          omega
        have hrl : r.length = k := by simpa using hq
        have L : ∀ p r, (vit y n k c 0).map (b :: ·) = some p → (vit y n k c 1).map (b :: ·) = some r → p.length = r.length := fun p r h1 h2 => by
          rw [(key p 0 h1 hz B0.1).1, (key r 1 h2 hz B1.1).1]
        simp only [vit]
        rw [if_neg hz]
        have fin : ∀ i, Best y n k c i (vit y n k c i) → sC r = i → (∀ z, (vit y n k c i).map (b :: ·) = some z → (vit y n k c 0).map (b :: ·) = some z ∨ (vit y n k c 1).map (b :: ·) = some z) →
            ∃ p, pick y ((vit y n k c 0).map (b :: ·)) ((vit y n k c 1).map (b :: ·)) = some p ∧ (b :: r = p ∨ lessB y p (b :: r) = true) := by
          intro i B hi hz2
          obtain ⟨p, hp, hle⟩ := B.2 r hrl hok.2 hC hi
          have h1 := B.1 p hp
          obtain ⟨z, e1, e2⟩ := pick_le (y := y) (q := b :: p) L (hz2 _ (by rw [hp]; rfl))
          refine ⟨z, e1, ?_⟩
          have hle2 : b :: r = b :: p ∨ lessB y (b :: p) (b :: r) = true := by
            rcases hle with rfl | h
            · exact .inl rfl
            · exact .inr (less_cons b (by rw [h1.1, hrl]) (by rw [h1.2.2.1, hC]) (by rw [h1.2.2.2, hi]) h)
          rcases hle2 with h | h
          · rw [h]; exact e2
          · rcases e2 with rfl | e2
            · exact .inr h
            · exact .inr (less_trans e2 h)
        rcases hok.2.sC with h | h
        · exact fin 0 B0 h fun z hz => .inl hz
        · exact fin 1 B1 h fun z hz => .inr hz

end Go.Proofs.YtnlacmbmmlmpjaaDoor.T
