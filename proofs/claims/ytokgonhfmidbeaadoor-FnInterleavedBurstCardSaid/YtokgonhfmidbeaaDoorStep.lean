/-
  Laws for regions that draw their order: append and make as steps; parts of slices.
-/
import Derived.Test.YtokgonhfmidbeaaDoorHelp
import Derived.Deep.RegionLaw
import Derived.RegionTactic
import Derived.BigRegion
namespace Go.Proofs.YtokgonhfmidbeaaDoor
open Go.RowKit

theorem getD_drop' (xs : List Int) (k i : Nat) : (xs.drop k).getD i 0 = xs.getD (k + i) 0 := by
  simp [List.getD_eq_getElem?_getD, List.getElem?_drop]
theorem getD_take' {xs : List Int} {k i : Nat} (h : i < k) : (xs.take k).getD i 0 = xs.getD i 0 := by
  simp [List.getD_eq_getElem?_getD, h]
/-- list[k:] -/
theorem RdA.from {C : Nat} {w : World} {A : Option Addr} {n c : Nat} {xs : List Int} (h : RdA C w A n c xs) {k : Nat} (hk : k ≤ n) :
    RdA C w (if c = k then A else A.map (·.add k)) (n - k) (c - k) (xs.drop k) := by
  refine ⟨by rw [List.length_drop, h.len], by have := h.le; omega, by have := h.cap; omega, by have := h.sm; omega, fun hn => ?_⟩
  obtain ⟨b, off, rfl, hb, hc⟩ := h.cells (by omega)
  rw [if_neg (by have := h.le; omega)]
  have hadd : (⟨b, off, none⟩ : Addr).add k = ⟨b, off + k, none⟩ := by unfold Addr.add; split <;> simp_all
  refine ⟨b, off + k, by simp [hadd], hb, fun i hi => ?_⟩
  rw [getD_drop', Nat.add_assoc]
  exact hc _ (by omega)
/-- list[:k] -/
theorem RdA.till {C : Nat} {w : World} {A : Option Addr} {n c : Nat} {xs : List Int} (h : RdA C w A n c xs) {k : Nat} (hk : k ≤ n) : RdA C w A k c (xs.take k) := by
  refine ⟨by rw [List.length_take, h.len]; omega, by have := h.le; omega, h.cap, by have := h.sm; omega, fun hn => ?_⟩
  obtain ⟨b, off, ha, hb, hc⟩ := h.cells (by omega)
  refine ⟨b, off, ha, hb, fun i hi => ?_⟩
  rw [hc i (by omega), getD_take' hi]

section
variable {P : Program} {t : TypeId}

theorem run_app (T : IntSl P t) (w : World) (ty : TypeId) (B C D : Nat) (v u : Value) (xs ys : List Int) (hown : Own B C w v xs) (hr : Rd D w u ys) (hsm : xs.length + ys.length ≤ 4194304) (hB : B ≤ w.heap.size) :
    ∃ v' w', (Builtin.append_ #[t, t] ty #[v, u]).run P w = .ok v' w' ∧ Own B w'.heap.size w' v' (xs ++ ys) ∧ w.grownBy w' v.ownBlock := by
  obtain ⟨i, hi, hz0, hz1, hz2⟩ := info_parts T.info
  obtain ⟨A, n, c, rfl, hr⟩ := hr
  have hlen := hr.len
  have key : ∃ v' w', (Builtin.append_ #[t, t] ty #[v, .slice A n c]).run P w = .ok v' w' ∧ w'.ownsRow B 3 1 v' (xs.length + n) (xs.map (Value.int .i64) ++ ys.map (Value.int .i64)) ∧ w.grownBy w' v.ownBlock := by
    rcases Nat.eq_zero_or_pos n with h0 | h0
    · subst h0
      have hy : ys = [] := List.eq_nil_of_length_eq_zero hlen
      subst hy
      refine ⟨v, w, ?_, by simpa using hown.1, World.grownBy.refl w _⟩
      rcases hown.form with ⟨_, rfl⟩ | ⟨g, cap, rfl, _, _, hle, _⟩
      · cases A <;> simp [Builtin.append_, run_underlying T.under, sizeOf, typeInfo, hi, Builtin.lenOf, Builtin.firstCells, loadCells, loadCellsFrom]
      · cases A <;> simp [Builtin.append_, run_underlying T.under, sizeOf, typeInfo, hi, Builtin.lenOf, Builtin.firstCells, hle, storeCells, loadCells, loadCellsFrom]
    · obtain ⟨b, off, rfl, _, hc⟩ := hr.cells h0
      obtain ⟨v', w', hrun, r1, r2, _⟩ := run_append_own_at (P := P) w B t ty 3 i (.int .i64 0) 1 8 T.under hi hz0 hz1 hz2 rfl (by decide) v xs.length (xs.map (Value.int .i64)) hown.1 ⟨b, off, none⟩ n c (ys.map (Value.int .i64))
        (by simpa using hlen) (by
          intro j u hj
          rw [List.getElem?_map] at hj
          obtain ⟨y, hy, rfl⟩ := Option.map_eq_some_iff.1 hj
          have hjl : j < ys.length := (List.getElem?_eq_some_iff.1 hy).1
          have hadd : (⟨b, off, none⟩ : Addr).add j = ⟨b, off + j, none⟩ := by unfold Addr.add; split <;> simp_all
          rw [hadd, hc j (by omega)]
          simp [List.getD, hy]) (ints_oneCell _ _) (by unfold maxLen; omega) (by omega) hB
      exact ⟨v', w', hrun, r1, r2⟩
  obtain ⟨v', w', hrun, r1, r2⟩ := key
  refine ⟨v', w', hrun, ⟨?_, by rw [List.length_append]; omega, fun k hk => (r1.lt k hk).2⟩, r2⟩
  rw [List.length_append, List.map_append, hlen]
  exact r1

/-- append, as one step of a region that draws -/
theorem step_app (T : IntSl P t) {ops : Array Oper} {o : Oper} {a : Act} {w : World} {K : Act → World → Prop} {Q : Exit → Act → World → Prop} {E : Prop}
    (hg : o.guard = none) (s x : Operand) (ho : o.op = .call { callee := .builtin .append, args := #[s, x], argTypes := #[t, t] })
    (B C D : Nat) (v u : Value) (xs ys : List Int) (hs : a.eval s = v) (hx : a.eval x = u) (hown : Own B C w v xs) (hr : Rd D w u ys) (hsm : xs.length + ys.length ≤ 4194304) (hB : B ≤ w.heap.size)
    (h : ∀ v' w', Own B w'.heap.size w' v' (xs ++ ys) → w.grownBy w' v.ownBlock → K (a.put o.dst v') w') :
    if Region.wanted o (yielded ops a.tmps) = true then Oper.wp P o a w K Q else E := by
  have hw : Region.wanted o (yielded ops a.tmps) = true := by simp [Region.wanted, hg]
  rw [if_pos hw]
  obtain ⟨v', w', hrun, r1, r2⟩ := run_app T w o.type B C D v u xs ys hown hr hsm hB
  unfold Oper.wp execOp
  simp only [ho, resolve, invoke, builtin, Sem.run_bind, Sem.run_pure, Result.andThen_ok, List.map_toArray, List.map_cons, List.map_nil, hs, hx, hrun]
  exact h v' w' r1 r2

theorem run_app3 (T : IntSl P t) (w : World) (ty : TypeId) (B C D : Nat) (v u : Value) (xs ys : List Int) (hown : Own B C w v xs) (hr : Rd D w u ys) (hsm : xs.length + ys.length ≤ 4194304) (hB : B ≤ w.heap.size) :
    ∃ v' w', (Builtin.append_ #[t, t] ty #[v, u]).run P w = .ok v' w' ∧ Own B w'.heap.size w' v' (xs ++ ys) ∧ w.grownBy w' v.ownBlock ∧ (v'.ownBlock = v.ownBlock ∨ v'.ownBlock = some w.heap.size) := by
  obtain ⟨i, hi, hz0, hz1, hz2⟩ := info_parts T.info
  obtain ⟨A, n, c, rfl, hr⟩ := hr
  have hlen := hr.len
  have key : ∃ v' w', (Builtin.append_ #[t, t] ty #[v, .slice A n c]).run P w = .ok v' w' ∧ w'.ownsRow B 3 1 v' (xs.length + n) (xs.map (Value.int .i64) ++ ys.map (Value.int .i64)) ∧ w.grownBy w' v.ownBlock ∧ (v'.ownBlock = v.ownBlock ∨ v'.ownBlock = some w.heap.size) := by
    rcases Nat.eq_zero_or_pos n with h0 | h0
    · subst h0
      have hy : ys = [] := List.eq_nil_of_length_eq_zero hlen
      subst hy
      refine ⟨v, w, ?_, by simpa using hown.1, World.grownBy.refl w _, .inl rfl⟩
      rcases hown.form with ⟨_, rfl⟩ | ⟨g, cap, rfl, _, _, hle, _⟩
      · cases A <;> simp [Builtin.append_, run_underlying T.under, sizeOf, typeInfo, hi, Builtin.lenOf, Builtin.firstCells, loadCells, loadCellsFrom]
      · cases A <;> simp [Builtin.append_, run_underlying T.under, sizeOf, typeInfo, hi, Builtin.lenOf, Builtin.firstCells, hle, storeCells, loadCells, loadCellsFrom]
    · obtain ⟨b, off, rfl, _, hc⟩ := hr.cells h0
      obtain ⟨v', w', hrun, r1, r2, _, r3⟩ := run_append_own_at (P := P) w B t ty 3 i (.int .i64 0) 1 8 T.under hi hz0 hz1 hz2 rfl (by decide) v xs.length (xs.map (Value.int .i64)) hown.1 ⟨b, off, none⟩ n c (ys.map (Value.int .i64))
        (by simpa using hlen) (by
          intro j u hj
          rw [List.getElem?_map] at hj
          obtain ⟨y, hy, rfl⟩ := Option.map_eq_some_iff.1 hj
          have hjl : j < ys.length := (List.getElem?_eq_some_iff.1 hy).1
          have hadd : (⟨b, off, none⟩ : Addr).add j = ⟨b, off + j, none⟩ := by unfold Addr.add; split <;> simp_all
          rw [hadd, hc j (by omega)]
          simp [List.getD, hy]) (ints_oneCell _ _) (by unfold maxLen; omega) (by omega) hB
      exact ⟨v', w', hrun, r1, r2, r3⟩
  obtain ⟨v', w', hrun, r1, r2, r3⟩ := key
  refine ⟨v', w', hrun, ⟨?_, by rw [List.length_append]; omega, fun k hk => (r1.lt k hk).2⟩, r2, r3⟩
  rw [List.length_append, List.map_append, hlen]
  exact r1

/-- append, as one step of a region that draws -/
theorem step_app3 (T : IntSl P t) {ops : Array Oper} {o : Oper} {a : Act} {w : World} {K : Act → World → Prop} {Q : Exit → Act → World → Prop} {E : Prop}
    (hg : o.guard = none) (s x : Operand) (ho : o.op = .call { callee := .builtin .append, args := #[s, x], argTypes := #[t, t] })
    (B C D : Nat) (v u : Value) (xs ys : List Int) (hs : a.eval s = v) (hx : a.eval x = u) (hown : Own B C w v xs) (hr : Rd D w u ys) (hsm : xs.length + ys.length ≤ 4194304) (hB : B ≤ w.heap.size)
    (h : ∀ v' w', Own B w'.heap.size w' v' (xs ++ ys) → w.grownBy w' v.ownBlock → (v'.ownBlock = v.ownBlock ∨ v'.ownBlock = some w.heap.size) → K (a.put o.dst v') w') :
    if Region.wanted o (yielded ops a.tmps) = true then Oper.wp P o a w K Q else E := by
  have hw : Region.wanted o (yielded ops a.tmps) = true := by simp [Region.wanted, hg]
  rw [if_pos hw]
  obtain ⟨v', w', hrun, r1, r2, r3⟩ := run_app3 T w o.type B C D v u xs ys hown hr hsm hB
  unfold Oper.wp execOp
  simp only [ho, resolve, invoke, builtin, Sem.run_bind, Sem.run_pure, Result.andThen_ok, List.map_toArray, List.map_cons, List.map_nil, hs, hx, hrun]
  exact h v' w' r1 r2 r3

/-- 'make' with a capacity, for a walk that meets it inside a region -/
theorem run_mk (T : IntSl P t) (L M : Int) (l m : Nat) (hL : L = l) (hM : M = m) (hl : l ≤ m) (hm : m ≤ 4194304) (W : World) :
    (Instr.makeSlice t (.int .i64 L) (.int .i64 M)).run P W = .ok (.slice (some ⟨W.heap.size, 0, none⟩) l m) (W.alloc (.cells (madeCells #[Value.int .i64 0] m) 3)) := by
  obtain ⟨i, hi, hz0, hz1, hz2⟩ := info_parts T.info
  subst hL hM
  have hrun := run_make (P := P) W t 3 i _ T.under hi hz0 .i64 .i64 l m (by omega) (by omega) (by rw [hz2]; omega) (by omega)
  simp only [Int.toNat_natCast, hz1, Nat.mul_one] at hrun
  exact hrun
end

section
variable {P : Program} {t : TypeId} {ops : Array Oper} {rest : List Oper} {o : Oper} {a : Act} {Q : Exit → Act → World → Prop}
/-- append of numbers that are written out; where the new row lies is told -/
theorem wpl_appl2 (T : IntSl P t) (W : World) (hg : o.guard = none) (s x : Operand) (ho : o.op = .call { callee := .builtin .append, args := #[s, x], argTypes := #[t, t] })
    (B C : Nat) (v : Value) (xs : List Int) (cs : Array Value) (ys : List Int) (n : Nat) (hcs : cs.toList = ys.map (Value.int .i64)) (hn : ys.length = n) (hs : a.eval s = v) (hx : a.eval x = .slice (some ⟨W.heap.size, 0, none⟩) n n)
    (hown : Own B C W v xs) (hC : C ≤ W.heap.size) (hsm : xs.length + n ≤ 4194304) (hB : B ≤ W.heap.size)
    (h : ∀ v' w', Own B w'.heap.size w' v' (xs ++ ys) → W.grownBy w' v.ownBlock → (v'.ownBlock = v.ownBlock ∨ v'.ownBlock = some (W.heap.size + 1)) → wpList P ops Q rest (a.put o.dst v') w') : wpList P ops Q (o :: rest) a (W.alloc (.cells cs 3)) := by
  refine wpl_append T (W.alloc (.cells cs 3)) hg s x ho B C (W.heap.size + 1) v _ xs ys hs hx (hown.below ((Below.refl C W).alloc hC _) (Nat.le_refl _)) (Rd.lit W cs ys hcs hn (by omega)) (by omega) (by simp; omega) ?_
  intro v' w' h1 h2 h3
  refine h v' w' h1 ⟨h2.os, h2.tape, h2.output, Nat.le_trans (by simp) h2.size, fun k hk hne => ?_⟩ (by simpa using h3)
  rw [h2.block k (by simp; omega) hne]
  exact Below.heap_alloc W _ k hk
end

section
variable {P : Program} {t : TypeId} {ops : Array Oper} {rest : List Oper} {o : Oper} {a : Act} {Q : Exit → Act → World → Prop}
/-- append of numbers that are written out, the block's number spelled as it stands -/
theorem wpl_appl3 (T : IntSl P t) (W : World) (hg : o.guard = none) (s x : Operand) (ho : o.op = .call { callee := .builtin .append, args := #[s, x], argTypes := #[t, t] })
    (B C : Nat) (v : Value) (xs : List Int) (cs : Array Value) (ys : List Int) (n : Nat) (hcs : cs.toList = ys.map (Value.int .i64)) (hn : ys.length = n) (hs : a.eval s = v) (g : Nat) (hx : a.eval x = .slice (some ⟨g, 0, none⟩) n n) (hgw : g = W.heap.size)
    (hown : Own B C W v xs) (hC : C ≤ W.heap.size) (hsm : xs.length + n ≤ 4194304) (hB : B ≤ W.heap.size)
    (h : ∀ v' w', Own B w'.heap.size w' v' (xs ++ ys) → W.grownBy w' v.ownBlock → (v'.ownBlock = v.ownBlock ∨ v'.ownBlock = some (W.heap.size + 1)) → wpList P ops Q rest (a.put o.dst v') w') : wpList P ops Q (o :: rest) a (W.alloc (.cells cs 3)) := by
  subst hgw
  exact wpl_appl2 T W hg s x ho B C v xs cs ys n hcs hn hs hx hown hC hsm hB h
end

end Go.Proofs.YtokgonhfmidbeaaDoor
