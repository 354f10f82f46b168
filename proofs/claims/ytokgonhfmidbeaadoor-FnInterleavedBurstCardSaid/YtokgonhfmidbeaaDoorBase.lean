/-
  Plain words for memory, used by all walks of this seat: lists given by a function on indices (rg); a slice of ints that reads as a list (Rd); a slice of ints that the call made (Own); how these are kept while the world grows. Nothing here speaks of the program.
-/
import Derived.WalkKit
import Derived.WalkSpells
import Derived.WalkLawsBesides
import Derived.Deep.QuietTactic
import Derived.Deep.Draws
import Derived.BigQuiet
import Derived.Maps.AppendAt
namespace Go.Proofs.YtokgonhfmidbeaaDoor
open Go.RowKit

theorem hid {p : Prop} (h : p) : Hid p := h

/-! ### lists by index -/

def rg (n : Nat) (f : Nat → Int) : List Int := (List.range n).map f
theorem rg_length (n : Nat) (f : Nat → Int) : (rg n f).length = n := by simp [rg]
theorem rg_get? {n k : Nat} {f : Nat → Int} (h : k < n) : (rg n f)[k]? = some (f k) := by simp [rg, h]
theorem rg_getD {n k : Nat} {f : Nat → Int} (h : k < n) : (rg n f).getD k 0 = f k := by simp [rg, h]
theorem rg_congr {n : Nat} {f g : Nat → Int} (h : ∀ i, i < n → f i = g i) : rg n f = rg n g := by
  unfold rg
  apply List.map_congr_left
  intro i hi
  exact h i (by simpa using hi)
theorem rg_set (n k : Nat) (f : Nat → Int) (y : Int) : (rg n f).set k y = rg n fun j => if j = k then y else f j := by
  apply List.ext_getElem?
  intro i
  by_cases hi : i < n
  · rw [rg_get? hi, List.getElem?_set]
    by_cases hk : k = i
    · subst hk
      simp [rg_length, hi]
    · rw [if_neg hk, rg_get? hi, if_neg (by omega)]
  · rw [List.getElem?_eq_none (by simp [rg_length]; omega), List.getElem?_eq_none (by simp [rg_length]; omega)]
theorem rg_snoc (n : Nat) (f : Nat → Int) : rg n f ++ [f n] = rg (n + 1) f := by simp [rg, List.range_succ]
theorem rg_self (xs : List Int) : rg xs.length (fun i => xs.getD i 0) = xs := by
  apply List.ext_getElem?
  intro i
  by_cases hi : i < xs.length
  · rw [rg_get? hi, List.getElem?_eq_getElem hi]
    simp [List.getD, hi]
  · rw [List.getElem?_eq_none (by simp [rg_length]; omega), List.getElem?_eq_none (by omega)]
theorem rg_zero (n : Nat) : List.replicate n (0 : Int) = rg n fun _ => 0 := by
  apply List.ext_getElem?
  intro i
  by_cases hi : i < n
  · rw [rg_get? hi]; simp [hi]
  · rw [List.getElem?_eq_none (by simp; omega), List.getElem?_eq_none (by simp [rg_length]; omega)]
theorem list_ext_getD {xs ys : List Int} (hl : xs.length = ys.length) (h : ∀ i, i < xs.length → xs.getD i 0 = ys.getD i 0) : xs = ys := by
  rw [← rg_self xs, ← rg_self ys, ← hl]
  exact rg_congr h
theorem mem_getD {xs : List Int} {k : Nat} (h : k < xs.length) : xs.getD k 0 ∈ xs := by
  simp [List.getD, h]

/-! ### slices of ints that are read -/

structure RdA (C : Nat) (w : World) (A : Option Addr) (n c : Nat) (xs : List Int) : Prop where
  len : xs.length = n
  le : n ≤ c
  cap : c ≤ 9223372036854775807
  sm : n ≤ 4194304
  cells : 0 < n → ∃ b off, A = some ⟨b, off, none⟩ ∧ b < C ∧ ∀ i, i < n → w.cell? ⟨b, off + i, none⟩ = some (.int .i64 (xs.getD i 0))

def Rd (C : Nat) (w : World) (v : Value) (xs : List Int) : Prop := ∃ A n c, v = .slice A n c ∧ RdA C w A n c xs

section
variable {C : Nat} {w w' : World} {A : Option Addr} {n c k : Nat} {v : Value} {xs : List Int}

theorem RdA.at_ (h : RdA C w A n c xs) (hk : k < n) : ∃ b off x, A = some ⟨b, off, none⟩ ∧ b < C ∧ w.cell? ⟨b, off + k, none⟩ = some (.int .i64 x) ∧ Hid (xs.getD k 0 = x) := by
  obtain ⟨b, off, ha, hb, hc⟩ := h.cells (by omega)
  exact ⟨b, off, _, ha, hb, hc k hk, rfl⟩
theorem RdA.mem (h : RdA C w A n c xs) (hk : k < n) : xs.getD k 0 ∈ xs := mem_getD (by have := h.len; omega)
theorem RdA.keep (h : RdA C w A n c xs) (hk : ∀ b, b < C → w'.heap[b]? = w.heap[b]?) : RdA C w' A n c xs :=
  ⟨h.len, h.le, h.cap, h.sm, fun hn => by
    obtain ⟨b, off, ha, hb, hc⟩ := h.cells hn
    exact ⟨b, off, ha, hb, fun i hi => (World.cell?_of_block (w := w) (hk b hb)).trans (hc i hi)⟩⟩
theorem RdA.below {B : Nat} (h : RdA C w A n c xs) (hb : Below B w w') (hC : C ≤ B) : RdA C w' A n c xs := h.keep fun b hbC => hb.block b (by omega)
theorem RdA.more {D : Nat} (h : RdA C w A n c xs) (hC : C ≤ D) : RdA D w A n c xs :=
  ⟨h.len, h.le, h.cap, h.sm, fun hn => by obtain ⟨b, off, ha, hb, hc⟩ := h.cells hn; exact ⟨b, off, ha, by omega, hc⟩⟩
theorem RdA.drewN (h : RdA C w A n c xs) (q : Nat) : RdA C (w.drewN q) A n c xs := h.keep fun _ _ => rfl
theorem RdA.grown {row : Option Nat} (h : RdA C w A n c xs) (hg : w.grownBy w' row) (hC : C ≤ w.heap.size) (hr : ∀ k, row = some k → C ≤ k) : RdA C w' A n c xs :=
  h.keep fun b hb => hg.block b (by omega) (fun e => by have := hr b e.symm; omega)
theorem Rd.below {B : Nat} (h : Rd C w v xs) (hb : Below B w w') (hC : C ≤ B) : Rd C w' v xs := by
  obtain ⟨A, n, c, rfl, h⟩ := h
  exact ⟨A, n, c, rfl, h.below hb hC⟩
theorem Rd.more {D : Nat} (h : Rd C w v xs) (hC : C ≤ D) : Rd D w v xs := by
  obtain ⟨A, n, c, rfl, h⟩ := h
  exact ⟨A, n, c, rfl, h.more hC⟩
theorem Rd.drewN (h : Rd C w v xs) (q : Nat) : Rd C (w.drewN q) v xs := by
  obtain ⟨A, n, c, rfl, h⟩ := h
  exact ⟨A, n, c, rfl, h.drewN q⟩
theorem Rd.grown {row : Option Nat} (h : Rd C w v xs) (hg : w.grownBy w' row) (hC : C ≤ w.heap.size) (hr : ∀ k, row = some k → C ≤ k) : Rd C w' v xs := by
  obtain ⟨A, n, c, rfl, h⟩ := h
  exact ⟨A, n, c, rfl, h.grown hg hC hr⟩
theorem Rd.sm (h : Rd C w v xs) : xs.length ≤ 4194304 := by
  obtain ⟨A, n, c, rfl, h⟩ := h
  have := h.len
  have := h.sm
  omega
end

/-! ### slices of ints that the call made: the row lies in a block from B on and below C -/

def Own (B C : Nat) (w : World) (v : Value) (xs : List Int) : Prop :=
  w.ownsRow B 3 1 v xs.length (xs.map (Value.int .i64)) ∧ xs.length ≤ 4194304 ∧ ∀ k, v.ownBlock = some k → k < C

section
variable {B C D : Nat} {w w' : World} {n c k g : Nat} {v : Value} {xs : List Int}

theorem Own.row (h : Own B C w v xs) : w.ownsRow B 3 1 v xs.length (xs.map (Value.int .i64)) := h.1
theorem Own.sm (h : Own B C w v xs) : xs.length ≤ 4194304 := h.2.1
theorem Own.lt (h : Own B C w v xs) : ∀ k, v.ownBlock = some k → B ≤ k ∧ k < C := fun k hk => ⟨(h.1.lt k hk).1, h.2.2 k hk⟩
theorem Own.nil (B C : Nat) (w : World) : Own B C w (.slice none 0 0) [] := ⟨World.ownsRow_nil w B 3 1, by simp, by simp [Value.ownBlock]⟩
theorem Own.more (h : Own B C w v xs) (hC : C ≤ D) : Own B D w v xs := ⟨h.1, h.2.1, fun k hk => by have := h.2.2 k hk; omega⟩
theorem Own.less (h : Own B C w v xs) (hB : D ≤ B) : Own D C w v xs := by
  refine ⟨⟨h.1.1, ?_⟩, h.2⟩
  rcases h.1.2 with hn | ⟨g, cap, cur, hv, hb, r⟩
  · exact .inl hn
  · exact .inr ⟨g, cap, cur, hv, by omega, r⟩
theorem Own.fit {E : Nat} (h : Own B C w v xs) (hB : D ≤ B) (hC : C ≤ E) : Own D E w v xs := (h.less hB).more hC
theorem Own.kept {row : Option Nat} (h : Own B C w v xs) (hg : w.grownBy w' row) (hne : v.ownBlock = none ∨ v.ownBlock ≠ row) : Own B C w' v xs := ⟨h.1.kept hg hne, h.2⟩
theorem Own.keep (h : Own B C w v xs) (hk : ∀ b, b < C → w'.heap[b]? = w.heap[b]?) : Own B C w' v xs := by
  refine ⟨⟨h.1.1, ?_⟩, h.2⟩
  rcases h.1.2 with hn | ⟨g, cap, cur, hv, hb, hh, r⟩
  · exact .inl hn
  · refine .inr ⟨g, cap, cur, hv, hb, ?_, r⟩
    rw [hk g (h.2.2 g (by rw [hv]; rfl))]
    exact hh
theorem Own.below {E : Nat} (h : Own B C w v xs) (hb : Below E w w') (hC : C ≤ E) : Own B C w' v xs := h.keep fun b hbC => hb.block b (by omega)
theorem Own.drewN (h : Own B C w v xs) (q : Nat) : Own B C (w.drewN q) v xs := h.keep fun _ _ => rfl
theorem Own.apart {row : Option Nat} (h : Own B C w v xs) (hg : w.grownBy w' row) (hr : ∀ k, row = some k → k < B ∨ C ≤ k) : Own B C w' v xs := by
  refine h.kept hg ?_
  cases hv : v.ownBlock with
  | none => exact .inl rfl
  | some k =>
    refine .inr fun e => ?_
    have h1 := h.lt k hv
    have h2 := hr k e.symm
    omega
theorem Own.form (h : Own B C w v xs) : (xs = [] ∧ v = .slice none 0 0) ∨ ∃ g cap, v = .slice (some ⟨g, 0, none⟩) xs.length cap ∧ B ≤ g ∧ g < C ∧ xs.length ≤ cap ∧ cap ≤ 9223372036854775807 := by
  rcases h.1.2 with ⟨hv, hn⟩ | ⟨g, cap, cur, hv, hb, hh, h1, h2, _⟩
  · exact .inl ⟨List.eq_nil_of_length_eq_zero hn, hv⟩
  · refine .inr ⟨g, cap, hv, hb, h.2.2 g (by rw [hv]; rfl), h1, ?_⟩
    simpa [maxLen] using h2
theorem Own.cell (h : Own B C w (.slice (some ⟨g, 0, none⟩) n c) xs) (hk : k < xs.length) : w.cell? ⟨g, k, none⟩ = some (.int .i64 (xs.getD k 0)) := by
  have hn : n = xs.length := by
    rcases h.1.2 with ⟨hv, _⟩ | ⟨_, _, _, hv, _⟩
    · cases hv
    · injection hv
  subst hn
  rw [h.1.cellAt k (by omega)]
  simp [hk, List.getD]
theorem Own.free (h : Own B C w (.slice (some ⟨g, 0, none⟩) n c) xs) (k : Nat) : w.frozen? ⟨g, k, none⟩ = false := by
  have hn : n = xs.length := by
    rcases h.1.2 with ⟨hv, _⟩ | ⟨_, _, _, hv, _⟩
    · cases hv
    · injection hv
  subst hn
  exact h.1.frozenAt k
theorem Own.len (h : Own B C w (.slice (some ⟨g, 0, none⟩) n c) xs) : xs.length = n := by
  rcases h.1.2 with ⟨hv, _⟩ | ⟨_, _, _, hv, _⟩
  · cases hv
  · injection hv with _ e; exact e.symm
theorem Own.store (h : Own B C w (.slice (some ⟨g, 0, none⟩) n c) xs) (k : Nat) (y : Int) :
    Own B C (w.setCell ⟨g, k, none⟩ (.int .i64 y)) (.slice (some ⟨g, 0, none⟩) n c) (xs.set k y) := by
  have hn := h.len
  subst hn
  have h1 := (h.1.stored k (.int .i64 y)).1
  refine ⟨?_, by simpa using h.2.1, h.2.2⟩
  rw [List.length_set, List.map_set]
  exact h1
theorem Own.rd (h : Own B C w v xs) : Rd C w v xs := by
  rcases h.form with ⟨rfl, rfl⟩ | ⟨g, cap, rfl, hb, hc, hl, hm⟩
  · exact ⟨_, _, _, rfl, rfl, Nat.le_refl _, by omega, by omega, fun hn => by omega⟩
  · refine ⟨_, _, _, rfl, rfl, hl, hm, h.sm, fun _ => ⟨g, 0, rfl, hc, fun i hi => ?_⟩⟩
    rw [Nat.zero_add]
    exact h.cell hi
/-- 'make([]int, n)', or a literal: a block just made -/
theorem Own.made (w : World) (cs : Array Value) (xs : List Int) (hs : cs.toList = xs.map (Value.int .i64)) (hn : xs.length = n) (hm : n ≤ 4194304) :
    Own w.heap.size (w.heap.size + 1) (w.alloc (.cells cs 3)) (.slice (some ⟨w.heap.size, 0, none⟩) n n) xs := by
  subst hn
  refine ⟨?_, hm, by simp [Value.ownBlock]⟩
  have := World.ownsRow_lit (base := w.heap.size) (e := 3) (size := 1) w cs xs.length (Nat.le_refl _) (by unfold maxLen; omega) (by
    have := congrArg List.length hs
    simpa using this)
  rw [hs] at this
  exact this
theorem Own.made0 (w : World) (cs : Array Value) (cap : Nat) (hs : cs.size = cap) (hm : cap ≤ 4194304) :
    Own w.heap.size (w.heap.size + 1) (w.alloc (.cells cs 3)) (.slice (some ⟨w.heap.size, 0, none⟩) 0 cap) [] :=
  ⟨World.ownsRow_made w cs cap (Nat.le_refl _) (by unfold maxLen; omega) (by simpa using hs), by simp, by simp [Value.ownBlock]⟩
theorem made_zero (n : Nat) : (madeCells #[Value.int .i64 0] n).toList = (List.replicate n (0 : Int)).map (Value.int .i64) := by
  rw [toList_madeCells_one]
  simp
/-- a literal of few numbers, as the source of an append -/
theorem Rd.lit (w : World) (cs : Array Value) (xs : List Int) (hs : cs.toList = xs.map (Value.int .i64)) (hn : xs.length = n) (hm : n ≤ 4194304) :
    Rd (w.heap.size + 1) (w.alloc (.cells cs 3)) (.slice (some ⟨w.heap.size, 0, none⟩) n n) xs := (Own.made w cs xs hs hn hm).rd
theorem Own.alloc (h : Own B C w v xs) (hC : C ≤ w.heap.size) (o : Obj) : Own B C (w.alloc o) v xs := h.below ((Below.refl C w).alloc hC o) (Nat.le_refl _)
/-- '[]int{}' -/
theorem Own.empty (w : World) : Own w.heap.size (w.heap.size + 1) (w.alloc (.cells #[] 3)) (.slice (some ⟨w.heap.size, 0, none⟩) 0 0) [] := Own.made w #[] [] rfl rfl (Nat.zero_le _)
theorem below_of_own {E : Nat} (h : Own B C w v xs) (hg : w.grownBy w' v.ownBlock) (hE : E ≤ B) (hw : E ≤ w.heap.size) : Below E w w' :=
  (Below.refl E w).grown hg hw fun k hk => by have := h.lt k hk; omega
end

theorem below_drewN {B : Nat} {a w : World} (h : Below B a w) (n : Nat) : Below B a (w.drewN n) := ⟨h.os, h.tape, h.output, h.size, h.block⟩
theorem below_like {B : Nat} {a w w' : World} (h : Below B a w) (h1 : w'.os = w.os) (h2 : w'.tape = w.tape) (h3 : w'.output = w.output) (h4 : w'.heap = w.heap) : Below B a w' :=
  ⟨h1.trans h.os, h2.trans h.tape, h3.trans h.output, by rw [h4]; exact h.size, fun k hk => by rw [h4]; exact h.block k hk⟩
theorem grown_drewN {a w : World} {row : Option Nat} (h : a.grownBy w row) (n : Nat) : a.grownBy (w.drewN n) row := ⟨h.os, h.tape, h.output, h.size, h.block⟩
theorem grown_set {a w : World} {g : Nat} (h : a.grownBy w (some g)) {i : Nat} (u : Value) : a.grownBy (w.setCell ⟨g, i, none⟩ u) (some g) :=
  ⟨h.os, h.tape, h.output, by simpa [World.setCell] using h.size, fun k hk hne => (Below.heap_setCell w ⟨g, i, none⟩ u k (fun e => hne (by rw [e]))).trans (h.block k hk hne)⟩
theorem below_all {B : Nat} {a b c : World} (h : Below B a b) (k : Below b.heap.size b c) (hB : B ≤ b.heap.size) : Below B a c := h.trans (k.mono hB)

/-! ### the operations of the program's text -/

/-- t is a type of slices of ints in P -/
structure IntSl (P : Program) (t : TypeId) : Prop where
  under : P.underlying t = some (.slice 3)
  info : (P.info? 3).map (fun i => (i.zero, i.size, i.bytes)) = some (some (.int .i64 0), 1, 8)

section
variable {P : Program} {t : TypeId} {ops : Array Oper} {rest : List Oper} {o : Oper} {a : Act} {Q : Exit → Act → World → Prop}

theorem wpl_make (T : IntSl P t) (w : World) (hg : o.guard = none) (l c : Operand) (hop : o.op = Op.makeSlice t l c)
    (L M : Int) (n : Nat) (hl : a.eval l = .int .i64 L) (hc : a.eval c = .int .i64 M) (hL : L = (n : Int)) (hM : M = (n : Int)) (hn : n ≤ 4194304)
    (hK : ∀ w', Own w.heap.size w'.heap.size w' (.slice (some ⟨w.heap.size, 0, none⟩) n n) (List.replicate n 0) → Below w.heap.size w w' → w.heap.size < w'.heap.size →
      wpList P ops Q rest (a.put o.dst (.slice (some ⟨w.heap.size, 0, none⟩) n n)) w') : wpList P ops Q (o :: rest) a w := by
  obtain ⟨i, hi, hz0, hz1, hz2⟩ := info_parts T.info
  subst hL hM
  refine wpList_plain hg fun K hK' => ?_
  have hrun := run_make (P := P) w t 3 i _ T.under hi hz0 .i64 .i64 n n (by omega) (Int.le_refl _) (by rw [hz2]; omega) (by omega)
  unfold Oper.wp
  simp [execOp, hop, hl, hc, hrun, Result.andThen]
  rw [hz1]
  refine hK' _ _ (hK _ ?_ ?_ ?_)
  · have := Own.made (n := n) w (madeCells #[Value.int .i64 0] n) (List.replicate n 0) (made_zero n) (by simp) hn
    simpa [Value.cells] using this
  · exact (Below.refl _ _).alloc (Nat.le_refl _) _
  · simp

theorem wpl_make0 (T : IntSl P t) (w : World) (hg : o.guard = none) (l c : Operand) (hop : o.op = Op.makeSlice t l c)
    (M : Int) (n : Nat) (hl : a.eval l = .int .i64 0) (hc : a.eval c = .int .i64 M) (hM : M = (n : Int)) (hn : n ≤ 4194304)
    (hK : ∀ w', Own w.heap.size w'.heap.size w' (.slice (some ⟨w.heap.size, 0, none⟩) 0 n) [] → Below w.heap.size w w' → w.heap.size < w'.heap.size →
      wpList P ops Q rest (a.put o.dst (.slice (some ⟨w.heap.size, 0, none⟩) 0 n)) w') : wpList P ops Q (o :: rest) a w := by
  obtain ⟨i, hi, hz0, hz1, hz2⟩ := info_parts T.info
  subst hM
  refine wpList_plain hg fun K hK' => ?_
  have hrun := run_make (P := P) w t 3 i _ T.under hi hz0 .i64 .i64 0 n (by omega) (by omega) (by rw [hz2]; omega) (by omega)
  unfold Oper.wp
  simp [execOp, hop, hl, hc, hrun, Result.andThen]
  rw [hz1]
  refine hK' _ _ (hK _ ?_ ?_ ?_)
  · have := Own.made0 w (madeCells #[Value.int .i64 0] n) n (size_madeCells _ _) hn
    simpa [Value.cells] using this
  · exact (Below.refl _ _).alloc (Nat.le_refl _) _
  · simp

theorem wpl_append (T : IntSl P t) (w : World) (hg : o.guard = none) (s x : Operand) (ho : o.op = .call { callee := .builtin .append, args := #[s, x], argTypes := #[t, t] })
    (B C D : Nat) (v u : Value) (xs ys : List Int) (hs : a.eval s = v) (hx : a.eval x = u) (hown : Own B C w v xs) (hr : Rd D w u ys) (hsm : xs.length + ys.length ≤ 4194304) (hB : B ≤ w.heap.size)
    (h : ∀ v' w', Own B w'.heap.size w' v' (xs ++ ys) → w.grownBy w' v.ownBlock → (v'.ownBlock = v.ownBlock ∨ v'.ownBlock = some w.heap.size) → wpList P ops Q rest (a.put o.dst v') w') : wpList P ops Q (o :: rest) a w := by
  obtain ⟨i, hi, hz0, hz1, hz2⟩ := info_parts T.info
  obtain ⟨A, n, c, rfl, hr⟩ := hr
  refine wpList_plain hg fun K hK' => ?_
  have hlen := hr.len
  have key : ∃ v' w', (Builtin.append_ #[t, t] o.type #[v, .slice A n c]).run P w = .ok v' w' ∧ w'.ownsRow B 3 1 v' (xs.length + n) (xs.map (Value.int .i64) ++ ys.map (Value.int .i64)) ∧ w.grownBy w' v.ownBlock ∧
      (v'.ownBlock = v.ownBlock ∨ v'.ownBlock = some w.heap.size) := by
    rcases Nat.eq_zero_or_pos n with h0 | h0
    · subst h0
      have hy : ys = [] := List.eq_nil_of_length_eq_zero hlen
      subst hy
      refine ⟨v, w, ?_, by simpa using hown.1, World.grownBy.refl w _, .inl rfl⟩
      rcases hown.form with ⟨_, rfl⟩ | ⟨g, cap, rfl, _, _, hle, _⟩
      · cases A <;> simp [Builtin.append_, run_underlying T.under, sizeOf, typeInfo, hi, Builtin.lenOf, Builtin.firstCells, loadCells, loadCellsFrom]
      · cases A <;> simp [Builtin.append_, run_underlying T.under, sizeOf, typeInfo, hi, Builtin.lenOf, Builtin.firstCells, hle, storeCells, loadCells, loadCellsFrom]
    · obtain ⟨b, off, rfl, _, hc⟩ := hr.cells h0
      obtain ⟨v', w', hrun, r1, r2, _, r3⟩ := run_append_own_at (P := P) w B t o.type 3 i (.int .i64 0) 1 8 T.under hi hz0 hz1 hz2 rfl (by decide) v xs.length (xs.map (Value.int .i64)) hown.1 ⟨b, off, none⟩ n c (ys.map (Value.int .i64))
        (by simpa using hlen) (by
          intro j u hj
          rw [List.getElem?_map] at hj
          obtain ⟨y, hy, rfl⟩ := Option.map_eq_some_iff.1 hj
          have hjl : j < ys.length := (List.getElem?_eq_some_iff.1 hy).1
          have hadd : (⟨b, off, none⟩ : Addr).add j = ⟨b, off + j, none⟩ := by unfold Addr.add; split <;> simp_all
          rw [hadd, hc j (by omega)]
          simp [List.getD, hy]) (ints_oneCell _ _) (by unfold maxLen; omega) (by omega) hB
      exact ⟨v', w', hrun, r1, r2, r3⟩
  obtain ⟨v', w', hrun, r1, r2, r3⟩ := key
  unfold Oper.wp execOp
  simp only [ho, resolve, invoke, builtin, Sem.run_bind, Sem.run_pure, Result.andThen_ok, List.map_toArray, List.map_cons, List.map_nil, hs, hx, hrun]
  refine hK' _ _ (h v' w' ⟨?_, by rw [List.length_append]; omega, fun k hk => (r1.lt k hk).2⟩ r2 r3)
  rw [List.length_append, List.map_append, hlen]
  exact r1

/-- append of numbers that are written out: they lie in a block that was just made -/
theorem wpl_appl (T : IntSl P t) (W : World) (hg : o.guard = none) (s x : Operand) (ho : o.op = .call { callee := .builtin .append, args := #[s, x], argTypes := #[t, t] })
    (B C : Nat) (v : Value) (xs : List Int) (cs : Array Value) (ys : List Int) (n : Nat) (hcs : cs.toList = ys.map (Value.int .i64)) (hn : ys.length = n) (hs : a.eval s = v) (hx : a.eval x = .slice (some ⟨W.heap.size, 0, none⟩) n n)
    (hown : Own B C W v xs) (hC : C ≤ W.heap.size) (hsm : xs.length + n ≤ 4194304) (hB : B ≤ W.heap.size)
    (h : ∀ v' w', Own B w'.heap.size w' v' (xs ++ ys) → W.grownBy w' v.ownBlock → wpList P ops Q rest (a.put o.dst v') w') : wpList P ops Q (o :: rest) a (W.alloc (.cells cs 3)) := by
  refine wpl_append T (W.alloc (.cells cs 3)) hg s x ho B C (W.heap.size + 1) v _ xs ys hs hx (hown.below ((Below.refl C W).alloc hC _) (Nat.le_refl _)) (Rd.lit W cs ys hcs hn (by omega)) (by omega) (by simp; omega) ?_
  intro v' w' h1 h2 _
  refine h v' w' h1 ⟨h2.os, h2.tape, h2.output, Nat.le_trans (by simp) h2.size, fun k hk hne => ?_⟩
  rw [h2.block k (by simp; omega) hne]
  exact Below.heap_alloc W _ k hk
end

end Go.Proofs.YtokgonhfmidbeaaDoor
