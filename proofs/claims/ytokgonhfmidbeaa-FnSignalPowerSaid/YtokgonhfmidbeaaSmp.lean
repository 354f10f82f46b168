/-
  Plain words for slices of samples (structs of two ints): they read as the list of all their numbers, two a sample.
-/
import Derived.Test.YtokgonhfmidbeaaHelp
import Derived.Laws.MakeOwn
namespace Go.Proofs.Ytokgonhfmidbeaa
open Go.RowKit

/-! ### slices of samples that are read: xs has two numbers a sample -/
structure RdMA (C : Nat) (w : World) (A : Option Addr) (n c : Nat) (xs : List Int) : Prop where
  len : xs.length = n * 2
  le : n ≤ c
  cap : c ≤ 9223372036854775807
  sm : n ≤ 1100000
  cells : 0 < n → ∃ b off, A = some ⟨b, off, none⟩ ∧ b < C ∧ ∀ i, i < n * 2 → w.cell? ⟨b, off + i, none⟩ = some (.int .i64 (xs.getD i 0))
def RdM (C : Nat) (w : World) (v : Value) (xs : List Int) : Prop := ∃ A n c, v = .slice A n c ∧ RdMA C w A n c xs

section
variable {C : Nat} {w w' : World} {A : Option Addr} {n c k : Nat} {v : Value} {xs : List Int}
/-- sample k -/
theorem RdMA.at_ (h : RdMA C w A n c xs) (hk : k < n) : ∃ b off x y, A = some ⟨b, off, none⟩ ∧ b < C ∧ w.cell? ⟨b, off + k * 2, none⟩ = some (.int .i64 x) ∧ w.cell? ⟨b, off + k * 2 + 1, none⟩ = some (.int .i64 y) ∧
    Hid (xs.getD (k * 2) 0 = x) ∧ Hid (xs.getD (k * 2 + 1) 0 = y) := by
  obtain ⟨b, off, ha, hb, hc⟩ := h.cells (by omega)
  exact ⟨b, off, _, _, ha, hb, hc _ (by omega), by rw [Nat.add_assoc]; exact hc _ (by omega), rfl, rfl⟩
theorem RdMA.keep (h : RdMA C w A n c xs) (hk : ∀ b, b < C → w'.heap[b]? = w.heap[b]?) : RdMA C w' A n c xs :=
  ⟨h.len, h.le, h.cap, h.sm, fun hn => by
    obtain ⟨b, off, ha, hb, hc⟩ := h.cells hn
    exact ⟨b, off, ha, hb, fun i hi => (World.cell?_of_block (w := w) (hk b hb)).trans (hc i hi)⟩⟩
theorem RdMA.below {B : Nat} (h : RdMA C w A n c xs) (hb : Below B w w') (hC : C ≤ B) : RdMA C w' A n c xs := h.keep fun b hbC => hb.block b (by omega)
theorem RdMA.more {D : Nat} (h : RdMA C w A n c xs) (hC : C ≤ D) : RdMA D w A n c xs :=
  ⟨h.len, h.le, h.cap, h.sm, fun hn => by obtain ⟨b, off, ha, hb, hc⟩ := h.cells hn; exact ⟨b, off, ha, by omega, hc⟩⟩
theorem RdMA.drewN (h : RdMA C w A n c xs) (q : Nat) : RdMA C (w.drewN q) A n c xs := h.keep fun _ _ => rfl
theorem RdMA.grown {row : Option Nat} (h : RdMA C w A n c xs) (hg : w.grownBy w' row) (hC : C ≤ w.heap.size) (hr : ∀ k, row = some k → C ≤ k) : RdMA C w' A n c xs :=
  h.keep fun b hb => hg.block b (by omega) (fun e => by have := hr b e.symm; omega)
theorem RdM.below {B : Nat} (h : RdM C w v xs) (hb : Below B w w') (hC : C ≤ B) : RdM C w' v xs := by
  obtain ⟨A, n, c, rfl, h⟩ := h
  exact ⟨A, n, c, rfl, h.below hb hC⟩
theorem RdM.more {D : Nat} (h : RdM C w v xs) (hC : C ≤ D) : RdM D w v xs := by
  obtain ⟨A, n, c, rfl, h⟩ := h
  exact ⟨A, n, c, rfl, h.more hC⟩
theorem RdM.drewN (h : RdM C w v xs) (q : Nat) : RdM C (w.drewN q) v xs := by
  obtain ⟨A, n, c, rfl, h⟩ := h
  exact ⟨A, n, c, rfl, h.drewN q⟩
theorem RdM.grown {row : Option Nat} (h : RdM C w v xs) (hg : w.grownBy w' row) (hC : C ≤ w.heap.size) (hr : ∀ k, row = some k → C ≤ k) : RdM C w' v xs := by
  obtain ⟨A, n, c, rfl, h⟩ := h
  exact ⟨A, n, c, rfl, h.grown hg hC hr⟩
end

/-! ### slices of samples that the call made -/
def OwnM (B C : Nat) (w : World) (v : Value) (n : Nat) (xs : List Int) : Prop :=
  w.ownsRow B 35 2 v n (xs.map (Value.int .i64)) ∧ (xs.length = n * 2 ∧ n ≤ 1100000) ∧ ∀ k, v.ownBlock = some k → k < C

section
variable {B C D : Nat} {w w' : World} {n m c k g : Nat} {v : Value} {xs : List Int}
theorem OwnM.len (h : OwnM B C w v n xs) : xs.length = n * 2 := h.2.1.1
theorem OwnM.sm (h : OwnM B C w v n xs) : n ≤ 1100000 := h.2.1.2
theorem OwnM.lt (h : OwnM B C w v n xs) : ∀ k, v.ownBlock = some k → B ≤ k ∧ k < C := fun k hk => ⟨(h.1.lt k hk).1, h.2.2 k hk⟩
theorem OwnM.nil (B C : Nat) (w : World) : OwnM B C w (.slice none 0 0) 0 [] := ⟨World.ownsRow_nil w B 35 2, by simp, by simp [Value.ownBlock]⟩
theorem OwnM.more (h : OwnM B C w v n xs) (hC : C ≤ D) : OwnM B D w v n xs := ⟨h.1, h.2.1, fun k hk => by have := h.2.2 k hk; omega⟩
theorem OwnM.less (h : OwnM B C w v n xs) (hB : D ≤ B) : OwnM D C w v n xs := by
  refine ⟨⟨h.1.1, ?_⟩, h.2⟩
  rcases h.1.2 with hn | ⟨g, cap, cur, hv, hb, r⟩
  · exact .inl hn
  · exact .inr ⟨g, cap, cur, hv, by omega, r⟩
theorem OwnM.fit {E : Nat} (h : OwnM B C w v n xs) (hB : D ≤ B) (hC : C ≤ E) : OwnM D E w v n xs := (h.less hB).more hC
theorem OwnM.keep (h : OwnM B C w v n xs) (hk : ∀ b, b < C → w'.heap[b]? = w.heap[b]?) : OwnM B C w' v n xs := by
  refine ⟨⟨h.1.1, ?_⟩, h.2⟩
  rcases h.1.2 with hn | ⟨g, cap, cur, hv, hb, hh, r⟩
  · exact .inl hn
  · refine .inr ⟨g, cap, cur, hv, hb, ?_, r⟩
    rw [hk g (h.2.2 g (by rw [hv]; rfl))]
    exact hh
theorem OwnM.below {E : Nat} (h : OwnM B C w v n xs) (hb : Below E w w') (hC : C ≤ E) : OwnM B C w' v n xs := h.keep fun b hbC => hb.block b (by omega)
theorem OwnM.drewN (h : OwnM B C w v n xs) (q : Nat) : OwnM B C (w.drewN q) v n xs := h.keep fun _ _ => rfl
theorem OwnM.kept {row : Option Nat} (h : OwnM B C w v n xs) (hg : w.grownBy w' row) (hne : v.ownBlock = none ∨ v.ownBlock ≠ row) : OwnM B C w' v n xs := ⟨h.1.kept hg hne, h.2⟩
theorem OwnM.apart {row : Option Nat} (h : OwnM B C w v n xs) (hg : w.grownBy w' row) (hr : ∀ k, row = some k → k < B ∨ C ≤ k) : OwnM B C w' v n xs := by
  refine h.kept hg ?_
  cases hv : v.ownBlock with
  | none => exact .inl rfl
  | some k =>
    refine .inr fun e => ?_
    have h1 := h.lt k hv
    have h2 := hr k e.symm
    omega
theorem OwnM.form (h : OwnM B C w v n xs) : (n = 0 ∧ xs = [] ∧ v = .slice none 0 0) ∨ ∃ g cap, v = .slice (some ⟨g, 0, none⟩) n cap ∧ B ≤ g ∧ g < C ∧ n ≤ cap ∧ cap ≤ 9223372036854775807 := by
  rcases h.1.2 with ⟨hv, hn⟩ | ⟨g, cap, cur, hv, hb, hh, h1, h2, _⟩
  · exact .inl ⟨hn, List.eq_nil_of_length_eq_zero (by rw [h.len]; omega), hv⟩
  · refine .inr ⟨g, cap, hv, hb, h.2.2 g (by rw [hv]; rfl), h1, ?_⟩
    simpa [maxLen] using h2
theorem OwnM.num (h : OwnM B C w (.slice (some ⟨g, 0, none⟩) m c) n xs) : n = m := by
  rcases h.1.2 with ⟨hv, _⟩ | ⟨_, _, _, hv, _⟩
  · cases hv
  · injection hv with _ e; exact e.symm
theorem OwnM.cell (h : OwnM B C w (.slice (some ⟨g, 0, none⟩) n c) n xs) (hk : k < n * 2) : w.cell? ⟨g, k, none⟩ = some (.int .i64 (xs.getD k 0)) := by
  rw [h.1.cellAt k (by omega)]
  have := h.len
  simp [List.getD, show k < xs.length by omega]
theorem OwnM.free (h : OwnM B C w (.slice (some ⟨g, 0, none⟩) n c) n xs) (k : Nat) : w.frozen? ⟨g, k, none⟩ = false := h.1.frozenAt k
theorem OwnM.store (h : OwnM B C w (.slice (some ⟨g, 0, none⟩) n c) n xs) (k : Nat) (y : Int) :
    OwnM B C (w.setCell ⟨g, k, none⟩ (.int .i64 y)) (.slice (some ⟨g, 0, none⟩) n c) n (xs.set k y) := by
  have h1 := (h.1.stored k (.int .i64 y)).1
  refine ⟨?_, by simpa using h.2.1, h.2.2⟩
  rw [List.map_set]
  exact h1
theorem OwnM.rd (h : OwnM B C w v n xs) : RdM C w v xs := by
  have hl := h.len
  have hs := h.sm
  rcases h.form with ⟨rfl, rfl, rfl⟩ | ⟨g, cap, rfl, hb, hc, hl', hm⟩
  · exact ⟨_, _, _, rfl, rfl, Nat.le_refl _, by omega, by omega, fun hn => by omega⟩
  · refine ⟨_, _, _, rfl, hl, hl', hm, hs, fun _ => ⟨g, 0, rfl, hc, fun i hi => ?_⟩⟩
    rw [Nat.zero_add]
    exact h.cell hi
/-- a block just made -/
theorem OwnM.made (w : World) (cs : Array Value) (xs : List Int) (hs : cs.toList = xs.map (Value.int .i64)) (hn : xs.length = n * 2) (hm : n ≤ 1100000) :
    OwnM w.heap.size (w.heap.size + 1) (w.alloc (.cells cs 35)) (.slice (some ⟨w.heap.size, 0, none⟩) n n) n xs := by
  refine ⟨?_, ⟨hn, hm⟩, by simp [Value.ownBlock]⟩
  have := World.ownsRow_lit (base := w.heap.size) (e := 35) (size := 2) w cs n (Nat.le_refl _) (by unfold maxLen; omega) (by
    have := congrArg List.length hs
    simp at this
    omega)
  rw [hs] at this
  exact this
theorem OwnM.made0 (w : World) (cs : Array Value) (cap : Nat) (hs : cs.size = cap * 2) (hm : cap ≤ 1100000) :
    OwnM w.heap.size (w.heap.size + 1) (w.alloc (.cells cs 35)) (.slice (some ⟨w.heap.size, 0, none⟩) 0 cap) 0 [] :=
  ⟨World.ownsRow_made w cs cap (Nat.le_refl _) (by unfold maxLen; omega) hs, by simp, by simp [Value.ownBlock]⟩
theorem OwnM.empty (w : World) : OwnM w.heap.size (w.heap.size + 1) (w.alloc (.cells #[] 35)) (.slice (some ⟨w.heap.size, 0, none⟩) 0 0) 0 [] := OwnM.made w #[] [] rfl rfl (Nat.zero_le _)
theorem OwnM.alloc (h : OwnM B C w v n xs) (hC : C ≤ w.heap.size) (o : Obj) : OwnM B C (w.alloc o) v n xs := h.below ((Below.refl C w).alloc hC o) (Nat.le_refl _)
theorem madeM_zero (n : Nat) : (madeCells #[Value.int .i64 0, Value.int .i64 0] (n * 2)).toList = (List.replicate (n * 2) (0 : Int)).map (Value.int .i64) := by
  apply List.ext_getElem?
  intro j
  rw [List.map_replicate]
  by_cases hj : j < n * 2
  · rcases Nat.mod_two_eq_zero_or_one j with h | h <;> simp [madeCells, hj, h]
  · simp [madeCells, hj]
end

/-! ### the operations -/
structure SmpSl (P : Program) (t : TypeId) : Prop where
  under : P.underlying t = some (.slice 35)
  info : (P.info? 35).map (fun i => (i.zero, i.size, i.bytes)) = some (some (.agg #[.int .i64 0, .int .i64 0]), 2, 16)
theorem smpSl : SmpSl Try.prog 31 := ⟨Try.underlying31, by kernel_rfl⟩

section
variable {P : Program} {t : TypeId} {ops : Array Oper} {rest : List Oper} {o : Oper} {a : Act} {Q : Exit → Act → World → Prop}

theorem run_mkM (T : SmpSl P t) (L M : Int) (l m : Nat) (hL : L = l) (hM : M = m) (hl : l ≤ m) (hm : m ≤ 1100000) (W : World) :
    (Instr.makeSlice t (.int .i64 L) (.int .i64 M)).run P W = .ok (.slice (some ⟨W.heap.size, 0, none⟩) l m) (W.alloc (.cells (madeCells #[Value.int .i64 0, Value.int .i64 0] (m * 2)) 35)) := by
  obtain ⟨i, hi, hz0, hz1, hz2⟩ := info_parts T.info
  subst hL hM
  have hrun := run_make (P := P) W t 35 i _ T.under hi hz0 .i64 .i64 l m (by omega) (by omega) (by rw [hz2]; omega) (by omega)
  simp only [Int.toNat_natCast, hz1] at hrun
  exact hrun

theorem wpl_appendM (T : SmpSl P t) (w : World) (hg : o.guard = none) (s x : Operand) (ho : o.op = .call { callee := .builtin .append, args := #[s, x], argTypes := #[t, t] })
    (B C D : Nat) (v u : Value) (n : Nat) (xs ys : List Int) (hs : a.eval s = v) (hx : a.eval x = u) (hown : OwnM B C w v n xs) (m : Nat) (hm : ys.length = m * 2) (hr : RdM D w u ys) (hsm : n + m ≤ 1100000) (hB : B ≤ w.heap.size)
    (h : ∀ v' w', OwnM B w'.heap.size w' v' (n + m) (xs ++ ys) → w.grownBy w' v.ownBlock → (v'.ownBlock = v.ownBlock ∨ v'.ownBlock = some w.heap.size) → wpList P ops Q rest (a.put o.dst v') w') : wpList P ops Q (o :: rest) a w := by
  obtain ⟨i, hi, hz0, hz1, hz2⟩ := info_parts T.info
  obtain ⟨A, m', c, rfl, hr⟩ := hr
  obtain rfl : m = m' := by have := hr.len; omega
  refine wpList_plain hg fun K hK' => ?_
  have hlen := hr.len
  have key : ∃ v' w', (Builtin.append_ #[t, t] o.type #[v, .slice A m c]).run P w = .ok v' w' ∧ w'.ownsRow B 35 2 v' (n + m) (xs.map (Value.int .i64) ++ ys.map (Value.int .i64)) ∧ w.grownBy w' v.ownBlock ∧
      (v'.ownBlock = v.ownBlock ∨ v'.ownBlock = some w.heap.size) := by
    rcases Nat.eq_zero_or_pos m with h0 | h0
    · subst h0
      have hy : ys = [] := List.eq_nil_of_length_eq_zero (by omega)
      subst hy
      refine ⟨v, w, ?_, by simpa using hown.1, World.grownBy.refl w _, .inl rfl⟩
      rcases hown.form with ⟨_, _, rfl⟩ | ⟨g, cap, rfl, _, _, hle, _⟩
      · cases A <;> simp [Builtin.append_, run_underlying T.under, sizeOf, typeInfo, hi, Builtin.lenOf, Builtin.firstCells, loadCells, loadCellsFrom]
      · cases A <;> simp [Builtin.append_, run_underlying T.under, sizeOf, typeInfo, hi, Builtin.lenOf, Builtin.firstCells, hle, storeCells, loadCells, loadCellsFrom]
    · obtain ⟨b, off, rfl, _, hc⟩ := hr.cells h0
      obtain ⟨v', w', hrun, r1, r2, _, r3⟩ := run_append_own_at (P := P) w B t o.type 35 i (.agg #[.int .i64 0, .int .i64 0]) 2 16 T.under hi hz0 hz1 hz2 rfl (by decide) v n (xs.map (Value.int .i64)) hown.1 ⟨b, off, none⟩ m c (ys.map (Value.int .i64))
        (by simp; omega) (by
          intro j u hj
          rw [List.getElem?_map] at hj
          obtain ⟨y, hy, rfl⟩ := Option.map_eq_some_iff.1 hj
          have hjl : j < ys.length := (List.getElem?_eq_some_iff.1 hy).1
          have hadd : (⟨b, off, none⟩ : Addr).add j = ⟨b, off + j, none⟩ := by unfold Addr.add; split <;> simp_all
          rw [hadd, hc j (by omega)]
          simp [List.getD, hy]) (ints_oneCell _ _) (by unfold maxLen; omega) (by omega) hB
      exact ⟨v', w', hrun, r1, r2, r3⟩
  obtain ⟨v', w', hrun, r1, r2, r3⟩ := key
  unfold Oper.wp execOp
  simp only [ho, resolve, invoke, builtin, Sem.run_bind, Sem.run_pure, Result.andThen_ok, List.map_toArray, List.map_cons, List.map_nil, hs, hx, hrun]
  refine hK' _ _ (h v' w' ⟨?_, ⟨by rw [List.length_append, hown.len]; omega, hsm⟩, fun k hk => (r1.lt k hk).2⟩ r2 r3)
  rw [List.map_append]
  exact r1

/-- append of samples that are written out -/
theorem wpl_applM (T : SmpSl P t) (W : World) (hg : o.guard = none) (s x : Operand) (ho : o.op = .call { callee := .builtin .append, args := #[s, x], argTypes := #[t, t] })
    (B C : Nat) (v : Value) (n : Nat) (xs : List Int) (cs : Array Value) (ys : List Int) (m : Nat) (hcs : cs.toList = ys.map (Value.int .i64)) (hn : ys.length = m * 2) (hs : a.eval s = v) (g : Nat) (hx : a.eval x = .slice (some ⟨g, 0, none⟩) m m) (hgw : g = W.heap.size)
    (hown : OwnM B C W v n xs) (hC : C ≤ W.heap.size) (hsm : n + m ≤ 1100000) (hB : B ≤ W.heap.size)
    (h : ∀ v' w', OwnM B w'.heap.size w' v' (n + m) (xs ++ ys) → W.grownBy w' v.ownBlock → wpList P ops Q rest (a.put o.dst v') w') : wpList P ops Q (o :: rest) a (W.alloc (.cells cs 35)) := by
  subst hgw
  refine wpl_appendM T (W.alloc (.cells cs 35)) hg s x ho B C (W.heap.size + 1) v _ n xs ys hs hx (hown.below ((Below.refl C W).alloc hC _) (Nat.le_refl _)) m hn (OwnM.made W cs ys hcs hn (by omega)).rd hsm (by simp; omega) ?_
  intro v' w' h1 h2 _
  refine h v' w' h1 ⟨h2.os, h2.tape, h2.output, Nat.le_trans (by simp) h2.size, fun k hk hne => ?_⟩
  rw [h2.block k (by simp; omega) hne]
  exact Below.heap_alloc W _ k hk
end

theorem below_of_ownM {B C E : Nat} {w w' : World} {v : Value} {n : Nat} {xs : List Int} (h : OwnM B C w v n xs) (hg : w.grownBy w' v.ownBlock) (hE : E ≤ B) (hw : E ≤ w.heap.size) : Below E w w' :=
  (Below.refl E w).grown hg hw fun k hk => by have := h.lt k hk; omega

/-! ### range of a component; the copy, the comparison, the marks -/



end Go.Proofs.Ytokgonhfmidbeaa
