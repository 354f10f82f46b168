/-
  Codes of streams differ in five places; two errors are corrected; the best way of a list. Plain facts.
-/
import Derived.Test.YtnlacmbmmlmpjaaDoorVit
namespace Go.Proofs.YtnlacmbmmlmpjaaDoor.T
def Bits (r : List Int) : Prop := ∀ b ∈ r, b = 0 ∨ b = 1
theorem Bits.tail {b : Int} {r : List Int} (h : Bits (b :: r)) : Bits r := fun x hx => h x (by simp [hx])
theorem Bits.head {b : Int} {r : List Int} (h : Bits (b :: r)) : b = 0 ∨ b = 1 := h b (by simp)
theorem Bits.sA {r : List Int} (h : Bits r) : T.sA r = 0 ∨ T.sA r = 1 := by
  cases r with
  | nil => exact .inl rfl
  | cons a r => exact h a (by simp)
theorem Bits.sC {r : List Int} (h : Bits r) : T.sC r = 0 ∨ T.sC r = 1 := by
  cases r with
  | nil => exact .inl rfl
  | cons a r => rw [sC_cons]; exact h.tail.sA
theorem dx_in (a b : Int) : 0 ≤ dx a b ∧ dx a b ≤ 1 := by unfold dx; split <;> omega
theorem dx_comm (a b : Int) : dx a b = dx b a := by unfold dx; split <;> split <;> omega
theorem dx_tri (a b c : Int) : dx a c ≤ dx a b + dx b c := by unfold dx; split <;> split <;> split <;> omega
theorem dx_zero {a b : Int} : dx a b = 0 ↔ a = b := by unfold dx; split <;> simp_all
theorem cost_in (y : Nat → Int) (r : List Int) : 0 ≤ cost y r ∧ cost y r ≤ 2 * r.length := by
  induction r with
  | nil => simp [cost]
  | cons b r ih =>
    have h1 := dx_in (o1 b (sA r) (sC r)) (y (2 * r.length))
    have h2 := dx_in (o2 b (sC r)) (y (2 * r.length + 1))
    simp only [cost, List.length_cons]
    omega
theorem cost_congr {y z : Nat → Int} {r : List Int} (h : ∀ i, i < 2 * r.length → y i = z i) : cost y r = cost z r := by
  induction r with
  | nil => rfl
  | cons b r ih =>
    simp only [List.length_cons] at h
    simp only [cost]
    rw [ih fun i hi => h i (by omega), h (2 * r.length) (by omega), h (2 * r.length + 1) (by omega)]
/-- the coded bits of a way, by their place -/
def cdf : List Int → Nat → Int
  | [], _ => 0
  | b :: r, i => if i = 2 * r.length then o1 b (sA r) (sC r) else if i = 2 * r.length + 1 then o2 b (sC r) else cdf r i
theorem cdf_1 (b : Int) (r : List Int) : cdf (b :: r) (2 * r.length) = o1 b (sA r) (sC r) := by simp [cdf]
theorem cdf_2 (b : Int) (r : List Int) : cdf (b :: r) (2 * r.length + 1) = o2 b (sC r) := by
  show (if 2 * r.length + 1 = 2 * r.length then _ else if 2 * r.length + 1 = 2 * r.length + 1 then _ else _) = _
  rw [if_neg (by omega), if_pos rfl]
theorem cdf_lt {b : Int} {r : List Int} {i : Nat} (h : i < 2 * r.length) : cdf (b :: r) i = cdf r i := by
  show (if i = 2 * r.length then _ else if i = 2 * r.length + 1 then _ else _) = _
  rw [if_neg (by omega), if_neg (by omega)]
theorem cdf_bit (r : List Int) (i : Nat) : cdf r i = 0 ∨ cdf r i = 1 := by
  induction r with
  | nil => exact .inl rfl
  | cons b r ih =>
    simp only [cdf]
    split
    · unfold o1; omega
    · split
      · unfold o2; omega
      · exact ih
theorem cost_zero {y : Nat → Int} {r : List Int} : cost y r = 0 ↔ ∀ i, i < 2 * r.length → y i = cdf r i := by
  induction r with
  | nil => simp [cost]
  | cons b r ih =>
    have h0 := cost_in y r
    have h1 := dx_in (o1 b (sA r) (sC r)) (y (2 * r.length))
    have h2 := dx_in (o2 b (sC r)) (y (2 * r.length + 1))
    simp only [cost, List.length_cons]
    constructor
    · intro h i hi
      have e0 : cost y r = 0 := by omega
      have e1 := dx_zero.1 (show dx (o1 b (sA r) (sC r)) (y (2 * r.length)) = 0 by omega)
      have e2 := dx_zero.1 (show dx (o2 b (sC r)) (y (2 * r.length + 1)) = 0 by omega)
      simp only [cdf]
      by_cases k1 : i = 2 * r.length
      · subst k1; rw [if_pos rfl]; exact e1.symm
      · rw [if_neg k1]
        by_cases k2 : i = 2 * r.length + 1
        · subst k2; rw [if_pos rfl]; exact e2.symm
        · rw [if_neg k2]; exact ih.1 e0 i (by omega)
    · intro h
      have e1 := h (2 * r.length) (by omega)
      have e2 := h (2 * r.length + 1) (by omega)
      rw [cdf_1] at e1
      rw [cdf_2] at e2
      rw [ih.2 fun i hi => by
        have := h i (by omega)
        simp only [cdf] at this
        rwa [if_neg (by omega), if_neg (by omega)] at this, dx_zero.2 e1.symm, dx_zero.2 e2.symm]
      rfl
/-- codes of two ways, place by place -/
theorem cost_tri (y : Nat → Int) (p q : List Int) (hl : p.length = q.length) : cost (cdf q) p ≤ cost y p + cost y q := by
  induction p generalizing q with
  | nil => cases q with | nil => simp [cost] | cons b q => simp at hl
  | cons a p ih =>
    cases q with
    | nil => simp at hl
    | cons b q =>
      have hl' : p.length = q.length := by simpa using hl
      have h := ih q hl'
      have e : cost (cdf (b :: q)) p = cost (cdf q) p := cost_congr fun i hi => by
        simp only [cdf]; rw [if_neg (by omega), if_neg (by omega)]
      simp only [cost]
      rw [e, hl']
      have c1 : cdf (b :: q) (2 * q.length) = o1 b (sA q) (sC q) := cdf_1 b q
      have c2 : cdf (b :: q) (2 * q.length + 1) = o2 b (sC q) := cdf_2 b q
      rw [c1, c2]
      have t1 := dx_tri (o1 a (sA p) (sC p)) (y (2 * q.length)) (o1 b (sA q) (sC q))
      have t2 := dx_tri (o2 a (sC p)) (y (2 * q.length + 1)) (o2 b (sC q))
      rw [dx_comm (y (2 * q.length))] at t1
      rw [dx_comm (y (2 * q.length + 1))] at t2
      omega
/-- THE DISTANCE OF CODES: while two ways part, by how the last two bits part -/
def psi (x z : Int) : Int := if x = 0 ∧ z = 0 then 5 else if x = 1 ∧ z = 0 then 2 else 3
theorem far_ways : ∀ (p q : List Int), p.length = q.length → Bits p → Bits q → p ≠ q → psi ((sA p + sA q) % 2) ((sC p + sC q) % 2) ≤ cost (cdf q) p := by
  intro p
  induction p with
  | nil => intro q hl _ _ h; cases q with | nil => exact absurd rfl h | cons b q => simp at hl
  | cons a p ih =>
    intro q hl hp hq h
    cases q with
    | nil => simp at hl
    | cons b q =>
      have hl' : p.length = q.length := by simpa using hl
      have e : cost (cdf (b :: q)) p = cost (cdf q) p := cost_congr fun i hi => by
        simp only [cdf]; rw [if_neg (by omega), if_neg (by omega)]
      simp only [cost]
      rw [e, hl', sA_cons, sA_cons, sC_cons, sC_cons]
      have c1 : cdf (b :: q) (2 * q.length) = o1 b (sA q) (sC q) := cdf_1 b q
      have c2 : cdf (b :: q) (2 * q.length + 1) = o2 b (sC q) := cdf_2 b q
      rw [c1, c2]
      have p1 := hp.tail.sA
      have p2 := hp.tail.sC
      have q1 := hq.tail.sA
      have q2 := hq.tail.sC
      have ha := hp.head
      have hb := hq.head
      by_cases hpq : p = q
      · subst hpq
        have hab : a ≠ b := fun e => h (by rw [e])
        have h0 := (cost_in (cdf p) p).1
        unfold dx o1 o2 psi
        repeat' split
        all_goals omega
      · have := ih q hl' hp.tail hq.tail hpq
        unfold psi at this
        unfold dx o1 o2 psi
        generalize sA p = A at *
        generalize sC p = C at *
        generalize sA q = D at *
        generalize sC q = E at *
        rcases p1 with rfl | rfl <;> rcases p2 with rfl | rfl <;> rcases q1 with rfl | rfl <;> rcases q2 with rfl | rfl <;> rcases ha with rfl | rfl <;> rcases hb with rfl | rfl <;> simp at this ⊢ <;> omega

/-! ### the best way of a list -/
/-- the way of a list of bits: two zeros are added at its end -/
def way (xs : List Int) : List Int := 0 :: 0 :: xs.reverse
theorem way_length (xs : List Int) : (way xs).length = xs.length + 2 := by simp [way]
theorem ok_rev {n : Nat} {r : List Int} (h : Bits r) (hl : r.length ≤ n) : Ok n r := by
  induction r with
  | nil => trivial
  | cons b r ih =>
    simp only [List.length_cons] at hl
    refine ⟨?_, ih h.tail (by omega)⟩
    have := h.head; omega
theorem way_ok {xs : List Int} (h : Bits xs) : Ok xs.length (way xs) := by
  refine ⟨.inl rfl, .inl rfl, ok_rev (fun b hb => h b (by simpa using hb)) (by simp)⟩
theorem way_of {n : Nat} {p : List Int} (h : Ok n p) (hl : p.length = n + 2) : ∃ xs, p = way xs ∧ xs.length = n ∧ Bits xs := by
  match p, h, hl with
  | a :: b :: r, h, hl =>
    simp only [List.length_cons] at hl
    obtain ⟨ha, hb, hr⟩ := h
    simp only [List.length_cons] at ha
    obtain rfl : a = 0 := by omega
    obtain rfl : b = 0 := by omega
    exact ⟨r.reverse, by simp [way], by simp; omega, fun b hb => hr.bit b (by simpa using hb)⟩
theorem way_sA (xs : List Int) : sA (way xs) = 0 := rfl
theorem way_sC (xs : List Int) : sC (way xs) = 0 := rfl
theorem way_inj {xs ys : List Int} (h : way xs = way ys) : xs = ys := by simpa [way] using h
/-- the way that the decoder finds for the 2 n + 4 numbers y -/
def bst (y : Nat → Int) (n : Nat) : List Int := ((vit y n (n + 2) 0 0).getD []).reverse.take n
theorem bst_some (y : Nat → Int) (n : Nat) : vit y n (n + 2) 0 0 = some (way (bst y n)) ∧ (bst y n).length = n ∧ Bits (bst y n) := by
  have B := vit_best y n (n + 2) 0 0 (.inl rfl) (.inl rfl)
  obtain ⟨p, hp, _⟩ := B.2 (way (List.replicate n 0)) (by simp [way_length]) (by
    have := way_ok (xs := List.replicate n 0) (fun b hb => .inl (List.eq_of_mem_replicate hb))
    simpa using this) rfl rfl
  obtain ⟨h1, h2, _⟩ := B.1 p hp
  obtain ⟨xs, rfl, hl, hb⟩ := way_of h2 h1
  have e : bst y n = xs := by
    unfold bst
    rw [hp]
    simp [way, ← hl]
  rw [e]
  exact ⟨hp, hl, hb⟩
/-- no bits have a code with a smaller distance -/
theorem bst_best {y : Nat → Int} {xs : List Int} (h : Bits xs) : xs = bst y xs.length ∨ lessB y (way (bst y xs.length)) (way xs) = true := by
  have B := vit_best y xs.length (xs.length + 2) 0 0 (.inl rfl) (.inl rfl)
  obtain ⟨p, hp, hle⟩ := B.2 (way xs) (way_length xs) (way_ok h) rfl rfl
  rw [(bst_some y xs.length).1] at hp
  injection hp with hp
  subst hp
  rcases hle with h | h
  · exact .inl (way_inj h)
  · exact .inr h
theorem bst_least {y : Nat → Int} {xs : List Int} (h : Bits xs) : cost y (way (bst y xs.length)) ≤ cost y (way xs) := by
  rcases bst_best (y := y) h with e | e
  · rw [← e]; omega
  · rw [lessB_iff] at e; omega
theorem way_bits {xs : List Int} (h : Bits xs) : Bits (way xs) := (way_ok h).bit
theorem far_codes {xs ys : List Int} (hl : xs.length = ys.length) (hx : Bits xs) (hy : Bits ys) (h : xs ≠ ys) : 5 ≤ cost (cdf (way ys)) (way xs) := by
  have := far_ways (way xs) (way ys) (by rw [way_length, way_length, hl]) (way_bits hx) (way_bits hy) (fun e => h (way_inj e))
  rw [way_sA, way_sA, way_sC, way_sC] at this
  exact this
/-- two errors in a code are corrected -/
theorem bst_two {y : Nat → Int} {xs : List Int} (h : Bits xs) (hc : cost y (way xs) ≤ 2) : bst y xs.length = xs := by
  by_cases e : bst y xs.length = xs
  · exact e
  · obtain ⟨_, hl, hb⟩ := bst_some y xs.length
    have h1 := far_codes hl hb h e
    have h2 := cost_tri y (way (bst y xs.length)) (way xs) (by rw [way_length, way_length, hl])
    have h3 := bst_least (y := y) h
    omega

end Go.Proofs.YtnlacmbmmlmpjaaDoor.T
