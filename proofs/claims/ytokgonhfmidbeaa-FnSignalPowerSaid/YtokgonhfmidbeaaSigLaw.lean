/-
  Plain facts for the laws on signals: parts of a signal; what is appended makes it invalid; powers add up; turns compose.
-/
import Derived.Test.YtokgonhfmidbeaaDrawSig
import Derived.Test.YtokgonhfmidbeaaTurn
import Derived.Test.YtokgonhfmidbeaaStep
namespace Go.Proofs.Ytokgonhfmidbeaa
open Go.RowKit

/-! ### append behind a guard that holds -/
section
variable {P : Program} {t : TypeId} {ops : Array Oper} {rest : List Oper} {o : Oper} {a : Act} {Q : Exit → Act → World → Prop}
theorem wpList_want {w : World} (hg : Region.wanted o (yielded ops a.tmps) = true)
    (h : ∀ K : Act → World → Prop, (∀ a w, wpList P ops Q rest a w → K a w) → o.wp P a w K Q) : wpList P ops Q (o :: rest) a w :=
  wpList_step fun K hK => by simp only [hg, if_true]; exact h K hK
theorem wpl_appendMg (T : SmpSl P t) (w : World) (hg : Region.wanted o (yielded ops a.tmps) = true) (s x : Operand) (ho : o.op = .call { callee := .builtin .append, args := #[s, x], argTypes := #[t, t] })
    (B C D : Nat) (v u : Value) (n : Nat) (xs ys : List Int) (hs : a.eval s = v) (hx : a.eval x = u) (hown : OwnM B C w v n xs) (m : Nat) (hm : ys.length = m * 2) (hr : RdM D w u ys) (hsm : n + m ≤ 1100000) (hB : B ≤ w.heap.size)
    (h : ∀ v' w', OwnM B w'.heap.size w' v' (n + m) (xs ++ ys) → w.grownBy w' v.ownBlock → (v'.ownBlock = v.ownBlock ∨ v'.ownBlock = some w.heap.size) → wpList P ops Q rest (a.put o.dst v') w') : wpList P ops Q (o :: rest) a w := by
  obtain ⟨i, hi, hz0, hz1, hz2⟩ := info_parts T.info
  obtain ⟨A, m', c, rfl, hr⟩ := hr
  obtain rfl : m = m' := by have := hr.len; omega
  refine wpList_want hg fun K hK' => ?_
  have hlen := hr.len
  have key : ∃ v' w', (Builtin.append_ #[t, t] o.type #[v, .slice A m c]).run P w = .ok v' w' ∧ w'.ownsRow B 35 2 v' (n + m) (xs.map (Value.int .i64) ++ ys.map (Value.int .i64)) ∧ w.grownBy w' v.ownBlock ∧
      (v'.ownBlock = v.ownBlock ∨ v'.ownBlock = some w.heap.size) := by
    rcases Nat.eq_zero_or_pos m with h0 | h0
    · subst h0
      have hy : ys = [] := List.eq_nil_of_length_eq_zero (by omega)
      subst hy
      refine ⟨v, w, ?_, by simpa using hown.1, World.grownBy.refl w _, .inl rfl⟩
      rcases hown.form with ⟨_, _, rfl⟩ | ⟨g, cap, rfl, _, _, hle, _⟩
      · cases A <;> simp [Builtin.append_, run_underlying T.under, sizeOf, typeInfo, hi, Builtin.lenOf, Builtin.firstCells, loadCells, loadCellsFrom]
      · cases A <;> simp [Builtin.append_, run_underlying T.under, sizeOf, typeInfo, hi, Builtin.lenOf, Builtin.firstCells, hle, storeCells, loadCells, loadCellsFrom]
    · obtain ⟨b, off, rfl, _, hc⟩ := hr.cells h0
      obtain ⟨v', w', hrun, r1, r2, _, r3⟩ := run_append_own_at (P := P) w B t o.type 35 i (.agg #[.int .i64 0, .int .i64 0]) 2 16 T.under hi hz0 hz1 hz2 rfl (by decide) v n (xs.map (Value.int .i64)) hown.1 ⟨b, off, none⟩ m c (ys.map (Value.int .i64))
        (by simp; omega) (by
          intro j u hj
          rw [List.getElem?_map] at hj
          obtain ⟨y, hy, rfl⟩ := Option.map_eq_some_iff.1 hj
          have hjl : j < ys.length := (List.getElem?_eq_some_iff.1 hy).1
          have hadd : (⟨b, off, none⟩ : Addr).add j = ⟨b, off + j, none⟩ := by unfold Addr.add; split <;> simp_all
          rw [hadd, hc j (by omega)]
          simp [List.getD, hy]) (ints_oneCell _ _) (by unfold maxLen; omega) (by omega) hB
      exact ⟨v', w', hrun, r1, r2, r3⟩
  obtain ⟨v', w', hrun, r1, r2, r3⟩ := key
  unfold Oper.wp execOp
  simp only [ho, resolve, invoke, builtin, Sem.run_bind, Sem.run_pure, Result.andThen_ok, List.map_toArray, List.map_cons, List.map_nil, hs, hx, hrun]
  refine hK' _ _ (h v' w' ⟨?_, ⟨by rw [List.length_append, hown.len]; omega, hsm⟩, fun k hk => (r1.lt k hk).2⟩ r2 r3)
  rw [List.map_append]
  exact r1

/-- append of samples that are written out -/
theorem wpl_applMg (T : SmpSl P t) (W : World) (hg : Region.wanted o (yielded ops a.tmps) = true) (s x : Operand) (ho : o.op = .call { callee := .builtin .append, args := #[s, x], argTypes := #[t, t] })
    (B C : Nat) (v : Value) (n : Nat) (xs : List Int) (cs : Array Value) (ys : List Int) (m : Nat) (hcs : cs.toList = ys.map (Value.int .i64)) (hn : ys.length = m * 2) (hs : a.eval s = v) (g : Nat) (hx : a.eval x = .slice (some ⟨g, 0, none⟩) m m) (hgw : g = W.heap.size)
    (hown : OwnM B C W v n xs) (hC : C ≤ W.heap.size) (hsm : n + m ≤ 1100000) (hB : B ≤ W.heap.size)
    (h : ∀ v' w', OwnM B w'.heap.size w' v' (n + m) (xs ++ ys) → W.grownBy w' v.ownBlock → wpList P ops Q rest (a.put o.dst v') w') : wpList P ops Q (o :: rest) a (W.alloc (.cells cs 35)) := by
  subst hgw
  refine wpl_appendMg T (W.alloc (.cells cs 35)) hg s x ho B C (W.heap.size + 1) v _ n xs ys hs hx (hown.below ((Below.refl C W).alloc hC _) (Nat.le_refl _)) m hn (OwnM.made W cs ys hcs hn (by omega)).rd hsm (by simp; omega) ?_
  intro v' w' h1 h2 _
  refine h v' w' h1 ⟨h2.os, h2.tape, h2.output, Nat.le_trans (by simp) h2.size, fun k hk hne => ?_⟩
  rw [h2.block k (by simp; omega) hne]
  exact Below.heap_alloc W _ k hk
end

/-- list[:k] -/
theorem RdMA.till {C : Nat} {w : World} {A : Option Addr} {n c : Nat} {xs : List Int} (h : RdMA C w A n c xs) {k : Nat} (hk : k ≤ n) : RdMA C w A k c (xs.take (k * 2)) := by
  refine ⟨by rw [List.length_take, h.len]; omega, by have := h.le; omega, h.cap, by have := h.sm; omega, fun hn => ?_⟩
  obtain ⟨b, off, ha, hb, hc⟩ := h.cells (by omega)
  refine ⟨b, off, ha, hb, fun i hi => ?_⟩
  rw [hc i (by omega), getD_take' hi]
/-- list[k:] -/
theorem RdMA.from {C : Nat} {w : World} {A : Option Addr} {n c : Nat} {xs : List Int} (h : RdMA C w A n c xs) {k : Nat} (hk : k ≤ n) :
    RdMA C w (if c = k then A else A.map (·.add (k * 2))) (n - k) (c - k) (xs.drop (k * 2)) := by
  refine ⟨by rw [List.length_drop, h.len]; omega, by have := h.le; omega, by have := h.cap; omega, by have := h.sm; omega, fun hn => ?_⟩
  obtain ⟨b, off, rfl, hb, hc⟩ := h.cells (by omega)
  rw [if_neg (by have := h.le; omega)]
  have hadd : (⟨b, off, none⟩ : Addr).add (k * 2) = ⟨b, off + k * 2, none⟩ := by unfold Addr.add; split <;> simp_all
  refine ⟨b, off + k * 2, by simp [hadd], hb, fun i hi => ?_⟩
  rw [getD_drop', Nat.add_assoc]
  exact hc _ (by omega)
theorem sigOk_take {xs : List Int} (h : sigOk xs = true) (k : Nat) : sigOk (xs.take k) = true := by
  obtain ⟨h1, h2⟩ := sigOk_iff.1 h
  exact sigOk_iff.2 ⟨fun x hx => h1 x (List.mem_of_mem_take hx), by rw [List.length_take]; omega⟩
theorem sigOk_drop {xs : List Int} (h : sigOk xs = true) (k : Nat) : sigOk (xs.drop k) = true := by
  obtain ⟨h1, h2⟩ := sigOk_iff.1 h
  exact sigOk_iff.2 ⟨fun x hx => h1 x (List.mem_of_mem_drop hx), by rw [List.length_drop]; omega⟩
theorem sigOk_bad (xs : List Int) : sigOk (xs ++ [0, -100001]) = false := by
  cases h : sigOk (xs ++ [0, -100001]) with
  | false => rfl
  | true => have := (sigOk_iff.1 h).1 (-100001) (by simp); omega

/-! ### powers -/
theorem sqTo_append (xs ys : List Int) (k : Nat) : sqTo (xs ++ ys) (xs.length + k) = sqTo xs xs.length + sqTo ys k := by
  induction k with
  | zero =>
    have : ∀ j, j ≤ xs.length → sqTo (xs ++ ys) j = sqTo xs j := by
      intro j
      induction j with
      | zero => intro _; rfl
      | succ j ih =>
        intro hj
        simp only [sqTo]
        rw [ih (by omega)]
        simp only [List.getD_eq_getElem?_getD, List.getElem?_append_left (show j < xs.length by omega)]
    rw [Nat.add_zero, this _ (Nat.le_refl _)]; simp [sqTo]
  | succ k ih =>
    rw [← Nat.add_assoc]
    simp only [sqTo, ih]
    simp only [List.getD_eq_getElem?_getD, List.getElem?_append_right (show xs.length ≤ xs.length + k by omega), Nat.add_sub_cancel_left]
    omega
theorem pwr_split {xs : List Int} (h : sigOk xs = true) (k : Nat) : pwrOf (xs.take k) + pwrOf (xs.drop k) = pwrOf xs := by
  rw [pwrOf_yes (sigOk_take h k), pwrOf_yes (sigOk_drop h k), pwrOf_yes h]
  have := sqTo_append (xs.take k) (xs.drop k) (xs.drop k).length
  rw [List.take_append_drop, ← List.length_append, List.take_append_drop] at this
  exact this.symm
theorem sq_zero {x : Int} : x * x = 0 ↔ x = 0 := by
  constructor
  · intro h; rcases Int.mul_eq_zero.1 h with h | h <;> exact h
  · rintro rfl; rfl
theorem sqTo_zero {xs : List Int} (h : sigOk xs = true) (k : Nat) : sqTo xs k = 0 ↔ ∀ j, j < k → xs.getD j 0 = 0 := by
  induction k with
  | zero => simp [sqTo]
  | succ k ih =>
    have h1 := (sqTo_in h k).1
    have h2 := (sq_in (sigOk_at h k)).1
    simp only [sqTo]
    constructor
    · intro e j hj
      by_cases hjk : j < k
      · exact ih.1 (by omega) j hjk
      · obtain rfl : j = k := by omega
        exact sq_zero.1 (by omega)
    · intro e
      have e1 := ih.2 fun j hj => e j (by omega)
      have e2 := sq_zero.2 (e k (by omega))
      omega
/-- are the first k samples zeros? -/
def zerosB (xs : List Int) (k : Nat) : Bool := decide (∀ j, j < k * 2 → xs.getD j 0 = 0)
theorem zerosB_next {xs : List Int} {k : Nat} {x y : Int} (hx : xs.getD (k * 2) 0 = x) (hy : xs.getD (k * 2 + 1) 0 = y) : zerosB xs (k + 1) = (zerosB xs k && (x == 0 && y == 0)) := by
  unfold zerosB
  rw [Bool.eq_iff_iff]
  simp only [decide_eq_true_eq, Bool.and_eq_true, beq_iff_eq]
  constructor
  · intro h
    exact ⟨fun j hj => h j (by omega), by rw [← hx]; exact h _ (by omega), by rw [← hy]; exact h _ (by omega)⟩
  · rintro ⟨h1, h2, h3⟩ j hj
    by_cases e : j < k * 2
    · exact h1 j e
    · rcases (by omega : j = k * 2 ∨ j = k * 2 + 1) with rfl | rfl
      · rw [hx, h2]
      · rw [hy, h3]
theorem zerosB_pwr {xs : List Int} {n : Nat} (h : sigOk xs = true) (hl : xs.length = n * 2) : (pwrOf xs == 0) = zerosB xs n := by
  rw [Bool.eq_iff_iff]
  unfold zerosB
  rw [pwrOf_yes h, hl]
  simp only [beq_iff_eq, decide_eq_true_eq]
  exact sqTo_zero h _

/-! ### turns -/
theorem tr_add (x y : Int) (a b : Nat) : tr (tr x y a).1 (tr x y a).2 b = tr x y (a + b) := by
  induction b with
  | zero => rfl
  | succ b ih => rw [← Nat.add_assoc]; simp only [tr]; rw [ih]
theorem tr_four (x y : Int) : tr x y 4 = (x, y) := by simp [tr]
theorem turnN_len (xs : List Int) (q : Nat) : (turnN xs q).length = xs.length := rg_length _ _
theorem turnN_at {xs : List Int} {q i : Nat} (h : i < xs.length) : (turnN xs q).getD i 0 = trF xs q i := rg_getD h
theorem turnN_ok {xs : List Int} {q : Nat} (h : sigOk xs = true) : sigOk (turnN xs q) = true := by
  refine sigOk_of (fun k hk => ?_) (by rw [turnN_len]; exact (sigOk_iff.1 h).2)
  rw [turnN_len] at hk
  rw [turnN_at hk]
  unfold trF
  split
  · exact (tr_in (sigOk_at h _) (sigOk_at h _) q).1
  · exact (tr_in (sigOk_at h _) (sigOk_at h _) q).2
theorem turn_turn {xs : List Int} {n a b : Nat} (hn : xs.length = n * 2) (hab : a + b = 4 ∨ a + b = 0) : turnN (turnN xs a) b = xs := by
  unfold turnN
  rw [rg_length]
  conv => rhs; rw [← rg_self xs]
  refine rg_congr fun i hi => ?_
  have four : ∀ x y : Int, tr (tr x y a).1 (tr x y a).2 b = (x, y) := fun x y => by
    rw [tr_add]
    rcases hab with e | e
    · rw [e, tr_four]
    · rw [e]; rfl
  unfold trF
  by_cases h2 : i % 2 = 0
  · rw [if_pos h2, rg_getD hi, rg_getD (show i + 1 < xs.length by omega)]
    rw [if_pos h2, if_neg (by omega), Nat.add_sub_cancel, four]
  · rw [if_neg h2, rg_getD hi, rg_getD (show i - 1 < xs.length by omega)]
    rw [if_neg h2, if_pos (by omega), show i - 1 + 1 = i by omega, four]
theorem tr_sq (x y : Int) (q : Nat) : (tr x y q).1 * (tr x y q).1 + (tr x y q).2 * (tr x y q).2 = x * x + y * y := by
  induction q with
  | zero => rfl
  | succ q ih => simp only [tr]; rw [Int.neg_mul_neg, Int.add_comm]; exact ih
theorem sq_turn {xs : List Int} {q n : Nat} (hn : xs.length = n * 2) (k : Nat) (hk : k ≤ n) : sqTo (turnN xs q) (k * 2) = sqTo xs (k * 2) := by
  induction k with
  | zero => rfl
  | succ k ih =>
    rw [show (k + 1) * 2 = k * 2 + 1 + 1 by omega]
    simp only [sqTo]
    rw [ih (by omega), turnN_at (by omega), turnN_at (by omega), trF_even, trF_odd]
    have := tr_sq (xs.getD (k * 2) 0) (xs.getD (k * 2 + 1) 0) q
    omega
theorem pwr_turn {xs : List Int} {q n : Nat} (hn : xs.length = n * 2) (h : sigOk xs = true) : pwrOf (turnN xs q) = pwrOf xs := by
  rw [pwrOf_yes (turnN_ok h), pwrOf_yes h, turnN_len, hn]
  exact sq_turn hn n (Nat.le_refl _)

end Go.Proofs.Ytokgonhfmidbeaa
