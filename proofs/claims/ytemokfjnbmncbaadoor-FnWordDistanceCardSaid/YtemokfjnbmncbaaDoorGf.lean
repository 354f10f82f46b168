/-
  The field with 16 elements by tables of digits; values of polynomials; what the decoder of words computes. Plain facts: nothing here speaks of the program.
-/
namespace Go.Proofs.YtemokfjnbmncbaaDoor.T
def mulT : Nat := 116196760129267793630862849262464326346044543732748708940920453221664288556434379745879494961270582141731748813355742142288220638766218855867759359510984593843506004200114943278699875244065120512813025380665946106619127097398772031257643617143689515450995722003729973585221105779229319991106539050771048038400
def invT : Nat := 9460475325918865680
def logT : Nat := 14688061253356765440
def powT : Nat := 711541965164086305
def gm (a b : Nat) : Nat := (mulT >>> (4 * (16 * a + b))) % 16
def gi (a : Nat) : Nat := (invT >>> (4 * a)) % 16
def gl (a : Nat) : Nat := (logT >>> (4 * a)) % 16
def gp (a : Nat) : Nat := (powT >>> (4 * a)) % 16
/-- all numbers below n satisfy f -/
def all (n : Nat) (f : Nat → Bool) : Bool := match n with | 0 => true | n + 1 => f n && all n f
theorem all_at {n : Nat} {f : Nat → Bool} (h : all n f = true) {k : Nat} (hk : k < n) : f k = true := by
  induction n with
  | zero => omega
  | succ n ih =>
    simp only [all, Bool.and_eq_true] at h
    by_cases e : k = n
    · subst e; exact h.1
    · exact ih h.2 (by omega)
theorem gm_comm : ∀ a < 16, ∀ b < 16, gm a b = gm b a := by decide +kernel
theorem gm_lt (a b : Nat) : gm a b < 16 := Nat.mod_lt _ (by decide)
theorem gm_assoc : ∀ a < 16, ∀ b < 16, ∀ c < 16, gm (gm a b) c = gm a (gm b c) := by decide +kernel
theorem gm_dist : ∀ a < 16, ∀ b < 16, ∀ c < 16, gm (a ^^^ b) c = gm a c ^^^ gm b c := by decide +kernel


theorem gm_zero : ∀ a < 16, gm a 0 = 0 := by decide +kernel
theorem zero_gm : ∀ a < 16, gm 0 a = 0 := by decide +kernel
theorem gm_one : ∀ a < 16, gm a 1 = a := by decide +kernel
theorem gp_lt (a : Nat) : gp a < 16 := Nat.mod_lt _ (by decide)
theorem gi_lt (a : Nat) : gi a < 16 := Nat.mod_lt _ (by decide)
theorem xor_lt {a b : Nat} (h : a < 16) (k : b < 16) : a ^^^ b < 16 := Nat.xor_lt_two_pow (n := 4) h k

/-! ### values of polynomials: the highest power first -/
/-- the value after k coefficients -/
def pol (W : Nat → Nat) (x : Nat) : Nat → Nat
  | 0 => 0
  | k + 1 => gm (pol W x k) x ^^^ W k
def El (n : Nat) (W : Nat → Nat) : Prop := ∀ i, i < n → W i < 16
theorem pol_lt {W : Nat → Nat} {x n : Nat} (h : El n W) : pol W x n < 16 := by
  cases n with
  | zero => simp [pol]
  | succ n => exact xor_lt (gm_lt _ _) (h n (by omega))
theorem pol_congr {W V : Nat → Nat} {x n : Nat} (h : ∀ i, i < n → W i = V i) : pol W x n = pol V x n := by
  induction n with
  | zero => rfl
  | succ n ih => simp only [pol]; rw [ih fun i hi => h i (by omega), h n (by omega)]
theorem xor4 (a b c d : Nat) : (a ^^^ b) ^^^ (c ^^^ d) = (a ^^^ c) ^^^ (b ^^^ d) := by
  rw [Nat.xor_assoc, Nat.xor_assoc, ← Nat.xor_assoc b, Nat.xor_comm b c, Nat.xor_assoc c]
theorem pol_xor {W V : Nat → Nat} {x n : Nat} (hx : x < 16) (hW : El n W) (hV : El n V) : pol (fun i => W i ^^^ V i) x n = pol W x n ^^^ pol V x n := by
  induction n with
  | zero => simp [pol]
  | succ n ih =>
    have hW' : El n W := fun i hi => hW i (by omega)
    have hV' : El n V := fun i hi => hV i (by omega)
    simp only [pol]
    rw [ih hW' hV', gm_dist _ (pol_lt hW') _ (pol_lt hV') _ hx, xor4]

/-- one coefficient alone -/
def one (p e : Nat) : Nat → Nat := fun i => if i = p then e else 0
theorem one_el {p e n : Nat} (he : e < 16) : El n (one p e) := fun i _ => by unfold one; split <;> omega

/-! ### the four values -/
/-- the element 2^(m+1) -/
def zr (m : Nat) : Nat := gp (m + 1)
def sy (W : Nat → Nat) (m : Nat) : Nat := pol W (zr m) 15
theorem sy_lt {W : Nat → Nat} {m : Nat} (h : El 15 W) : sy W m < 16 := pol_lt h
theorem sy_xor {W V : Nat → Nat} {m : Nat} (hW : El 15 W) (hV : El 15 V) : sy (fun i => W i ^^^ V i) m = sy W m ^^^ sy V m := pol_xor (gp_lt _) hW hV
theorem sy_congr {W V : Nat → Nat} {m : Nat} (h : ∀ i, i < 15 → W i = V i) : sy W m = sy V m := pol_congr h
theorem one_sy : ∀ m < 4, ∀ p < 15, ∀ e < 16, sy (one p e) m = gm e (gp ((m + 1) * (14 - p) % 15)) := by decide +kernel

/-! ### what the decoder computes out of the four values -/
/-- the zeros of x^2+a x+b, x from n down -/
def zerosOf (a b : Nat) : Nat → List Nat
  | 0 => []
  | n + 1 => let x := 15 - n; if gm x x ^^^ gm a x ^^^ b = 0 then x :: zerosOf a b n else zerosOf a b n
def dec (s0 s1 s2 s3 : Nat) : Option (Nat × Nat × Nat × Nat) :=
  let det := gm s1 s1 ^^^ gm s0 s2
  if s0 = 0 ∧ s1 = 0 ∧ s2 = 0 ∧ s3 = 0 then some (0,0,0,0) else
  if det = 0 then
    if s0 = 0 ∨ s1 = 0 then none else
    let x := gm s1 (gi s0)
    if gm s1 x ≠ s2 ∨ gm s2 x ≠ s3 then none else some (14 - gl x, gm s0 (gi x), 0, 0)
  else
    let inverse := gi det
    let a := gm (gm s2 s1 ^^^ gm s3 s0) inverse
    let b := gm (gm s1 s3 ^^^ gm s2 s2) inverse
    match zerosOf a b 15 with
    | [x, y] =>
      let second := gm (s1 ^^^ gm s0 x) (gi (gm y (x ^^^ y)))
      let first := gm (s0 ^^^ gm second y) (gi x)
      some (14 - gl x, first, 14 - gl y, second)
    | _ => none

/-- two places of an error -/
def two (i e j f : Nat) : Nat → Nat := fun k => one i e k ^^^ one j f k
def syT (i e j f m : Nat) : Nat := gm e (gp ((m + 1) * (14 - i) % 15)) ^^^ gm f (gp ((m + 1) * (14 - j) % 15))
theorem two_el {i e j f n : Nat} (he : e < 16) (hf : f < 16) : El n (two i e j f) := fun k hk => xor_lt (one_el he k hk) (one_el hf k hk)
theorem two_sy {i e j f m : Nat} (hm : m < 4) (hi : i < 15) (hj : j < 15) (he : e < 16) (hf : f < 16) : sy (two i e j f) m = syT i e j f m := by
  unfold two
  rw [sy_xor (one_el he) (one_el hf), one_sy m hm i hi e he, one_sy m hm j hj f hf]
  rfl

/-- where it answers, its answer has the four values -/
def okS (s0 s1 s2 s3 : Nat) : Bool := match dec s0 s1 s2 s3 with
  | none => true
  | some (i, e, j, f) => decide (i < 15) && decide (j < 15) && decide (e < 16) && decide (f < 16) && syT i e j f 0 == s0 && syT i e j f 1 == s1 && syT i e j f 2 == s2 && syT i e j f 3 == s3
/-- two errors at different places, by the elements x < y that stand for them -/
def okTwo (x y e f : Nat) : Bool := dec (syT (14 - gl x) e (14 - gl y) f 0) (syT (14 - gl x) e (14 - gl y) f 1) (syT (14 - gl x) e (14 - gl y) f 2) (syT (14 - gl x) e (14 - gl y) f 3) == some (14 - gl x, e, 14 - gl y, f)

theorem okOne : all 15 (fun i => all 15 fun e => dec (syT i (e + 1) 0 0 0) (syT i (e + 1) 0 0 1) (syT i (e + 1) 0 0 2) (syT i (e + 1) 0 0 3) == some (i, e + 1, 0, 0)) = true := by decide +kernel
theorem okNone : dec 0 0 0 0 = some (0, 0, 0, 0) := by decide +kernel

end Go.Proofs.YtemokfjnbmncbaaDoor.T
