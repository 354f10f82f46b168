/-
  The program's survivors: linked nodes in an array of four.
-/
import Derived.Test.YtnlacmbmmlmpjaaDoorNode
import Derived.BigRegion
namespace Go.Proofs.YtnlacmbmmlmpjaaDoor
open Go.RowKit T

/-! ### plain facts -/
/-- the survivor of k steps whose state is s -/
def vs (y : Nat → Int) (n k s : Nat) : Option (List Int) := vit y n k ((s / 2 : Nat) : Int) ((s % 2 : Nat) : Int)
/-- what stands at t after the states below s, and of s the bits below j -/
def nx (y : Nat → Int) (n k s j t : Nat) : Option (List Int) :=
  if n ≤ k ∧ t / 2 = 1 then none else
    pick y (if 2 * (t % 2) < s ∨ (2 * (t % 2) = s ∧ t / 2 < j) then (vs y n k (2 * (t % 2))).map (((t / 2 : Nat) : Int) :: ·) else none)
      (if 2 * (t % 2) + 1 < s ∨ (2 * (t % 2) + 1 = s ∧ t / 2 < j) then (vs y n k (2 * (t % 2) + 1)).map (((t / 2 : Nat) : Int) :: ·) else none)
theorem pick_none (y : Nat → Int) (o : Option (List Int)) : pick y o none = o := by cases o <;> rfl
theorem none_pick (y : Nat → Int) (o : Option (List Int)) : pick y none o = o := by cases o <;> rfl
theorem lt4 {t : Nat} (h : t < 4) : t = 0 ∨ t = 1 ∨ t = 2 ∨ t = 3 := by omega
theorem nx_start (y : Nat → Int) (n k : Nat) {t : Nat} (ht : t < 4) : nx y n k 0 0 t = none := by
  unfold nx
  split
  · rfl
  · rw [if_neg (by omega), if_neg (by omega)]; rfl
theorem nx_end (y : Nat → Int) (n k : Nat) {t : Nat} (ht : t < 4) : nx y n k 4 0 t = vs y n (k + 1) t := by
  rcases lt4 ht with rfl | rfl | rfl | rfl <;> by_cases h : n ≤ k <;> simp [nx, vs, vit, h]
theorem nx_state (y : Nat → Int) (n k s : Nat) {t : Nat} (_ : t < 4) : nx y n k s 2 t = nx y n k (s + 1) 0 t := by
  unfold nx
  have e1 : (2 * (t % 2) < s ∨ 2 * (t % 2) = s ∧ t / 2 < 2) ↔ (2 * (t % 2) < s + 1 ∨ 2 * (t % 2) = s + 1 ∧ t / 2 < 0) := by omega
  have e2 : (2 * (t % 2) + 1 < s ∨ 2 * (t % 2) + 1 = s ∧ t / 2 < 2) ↔ (2 * (t % 2) + 1 < s + 1 ∨ 2 * (t % 2) + 1 = s + 1 ∧ t / 2 < 0) := by omega
  simp only [e1, e2]
/-- a state without a way -/
theorem nx_nil (y : Nat → Int) (n k s : Nat) {t : Nat} (ht : t < 4) (hs : vs y n k s = none) : nx y n k s 0 t = nx y n k (s + 1) 0 t := by
  unfold nx
  split
  · rfl
  · congr 1
    · by_cases h : 2 * (t % 2) = s
      · subst h; rw [hs]; simp
      · have : (2 * (t % 2) < s ∨ 2 * (t % 2) = s ∧ t / 2 < 0) ↔ (2 * (t % 2) < s + 1 ∨ 2 * (t % 2) = s + 1 ∧ t / 2 < 0) := by omega
        simp only [this]
    · by_cases h : 2 * (t % 2) + 1 = s
      · subst h; rw [hs]; simp
      · have : (2 * (t % 2) + 1 < s ∨ 2 * (t % 2) + 1 = s ∧ t / 2 < 0) ↔ (2 * (t % 2) + 1 < s + 1 ∨ 2 * (t % 2) + 1 = s + 1 ∧ t / 2 < 0) := by omega
        simp only [this]
/-- a bit that is passed over -/
theorem nx_skip (y : Nat → Int) (n k s : Nat) {t : Nat} (_ : t < 4) (h : n ≤ k) : nx y n k s 1 t = nx y n k s 2 t := by
  unfold nx
  by_cases h1 : t / 2 = 1
  · rw [if_pos ⟨h, h1⟩, if_pos ⟨h, h1⟩]
  · have e1 : (t / 2 < 1) ↔ (t / 2 < 2) := by omega
    simp only [e1]
/-- a bit that is tried: elsewhere nothing turns -/
theorem nx_else (y : Nat → Int) (n k s j : Nat) {t : Nat} (_ : t < 4) (h : t ≠ 2 * j + s / 2) (_ : j < 2) (_ : s < 4) : nx y n k s (j + 1) t = nx y n k s j t := by
  unfold nx
  have e1 : (2 * (t % 2) < s ∨ 2 * (t % 2) = s ∧ t / 2 < j + 1) ↔ (2 * (t % 2) < s ∨ 2 * (t % 2) = s ∧ t / 2 < j) := by omega
  have e2 : (2 * (t % 2) + 1 < s ∨ 2 * (t % 2) + 1 = s ∧ t / 2 < j + 1) ↔ (2 * (t % 2) + 1 < s ∨ 2 * (t % 2) + 1 = s ∧ t / 2 < j) := by omega
  simp only [e1, e2]
/-- .. at its place the new way, or the old one if it is not worse -/
theorem nx_at (y : Nat → Int) (n k s j : Nat) (_ : j < 2) (hs : s < 4) (hn : ¬ (n ≤ k ∧ j = 1)) {r : List Int} (hr : vs y n k s = some r) :
    (nx y n k s j (2 * j + s / 2) = none ∧ nx y n k s (j + 1) (2 * j + s / 2) = some ((j : Int) :: r)) ∨
    ∃ p, nx y n k s j (2 * j + s / 2) = some p ∧ nx y n k s (j + 1) (2 * j + s / 2) = some (if lessB y ((j : Int) :: r) p = true then (j : Int) :: r else p) := by
  have e1 : (2 * j + s / 2) / 2 = j := by omega
  have e2 : (2 * j + s / 2) % 2 = s / 2 := by omega
  unfold nx
  rw [e1, e2, if_neg hn, if_neg hn]
  by_cases hp : s % 2 = 0
  · have hs2 : 2 * (s / 2) = s := by omega
    have a1 : ¬ (2 * (s / 2) < s ∨ (2 * (s / 2) = s ∧ j < j)) := by omega
    have a2 : ¬ (2 * (s / 2) + 1 < s ∨ (2 * (s / 2) + 1 = s ∧ j < j)) := by omega
    have a3 : (2 * (s / 2) < s ∨ (2 * (s / 2) = s ∧ j < j + 1)) := by omega
    have a4 : ¬ (2 * (s / 2) + 1 < s ∨ (2 * (s / 2) + 1 = s ∧ j < j + 1)) := by omega
    rw [if_neg a1, if_neg a2, if_pos a3, if_neg a4, hs2, hr]
    exact .inl ⟨rfl, rfl⟩
  · have hs2 : 2 * (s / 2) + 1 = s := by omega
    have a1 : (2 * (s / 2) < s ∨ (2 * (s / 2) = s ∧ j < j)) := by omega
    have a2 : ¬ (2 * (s / 2) + 1 < s ∨ (2 * (s / 2) + 1 = s ∧ j < j)) := by omega
    have a3 : (2 * (s / 2) < s ∨ (2 * (s / 2) = s ∧ j < j + 1)) := by omega
    have a4 : (2 * (s / 2) + 1 < s ∨ (2 * (s / 2) + 1 = s ∧ j < j + 1)) := by omega
    rw [if_pos a1, if_neg a2, if_pos a3, if_pos a4, hs2, hr]
    cases hv : vs y n k (2 * (s / 2)) with
    | none => exact .inl ⟨rfl, rfl⟩
    | some q =>
      refine .inr ⟨_, rfl, ?_⟩
      simp only [Option.map_some, pick]
      split <;> rfl

/-! ### in memory -/
def Ptr (w : World) (y : Nat → Int) (P : Nat → Prop) (g0 : Nat) (o : Option (List Int)) (v : Option Addr) : Prop :=
  match o with
  | none => v = none
  | some r => ∃ g, v = some ⟨g, 0, none⟩ ∧ Node w y P g0 r g
theorem Ptr.keep {w w' : World} {y : Nat → Int} {P R : Nat → Prop} {g0 : Nat} {o : Option (List Int)} {v : Option Addr} (hk : ∀ b, P b → w'.heap[b]? = w.heap[b]?) (hi : ∀ b, P b → R b) (h : Ptr w y P g0 o v) : Ptr w' y R g0 o v := by
  cases o with
  | none => exact h
  | some r =>
    obtain ⟨g, e, hn⟩ := h
    exact ⟨g, e, Node.imp hi (Node.keep hk hn)⟩
/-- a block of nodes: from L on, below S, none of the two arrays -/
def PP (L S gw gn : Nat) : Nat → Prop := fun b => L ≤ b ∧ b < S ∧ b ≠ gw ∧ b ≠ gn
/-- an array of four pointers to the ends of ways -/
def Arr (w : World) (y : Nat → Int) (P : Nat → Prop) (g0 g : Nat) (f : Nat → Option (List Int)) (nv : Nat → Option Addr) : Prop :=
  (∃ t, w.heap[g]? = some (.cells #[.pointer (nv 0), .pointer (nv 1), .pointer (nv 2), .pointer (nv 3)] t (0, 0))) ∧ ∀ t, t < 4 → Ptr w y P g0 (f t) (nv t)
theorem Arr.keep {w w' : World} {y : Nat → Int} {P R : Nat → Prop} {g0 g : Nat} {f : Nat → Option (List Int)} {nv : Nat → Option Addr} (h : Arr w y P g0 g f nv) (hk : ∀ b, P b → w'.heap[b]? = w.heap[b]?) (hi : ∀ b, P b → R b) (hg : w'.heap[g]? = w.heap[g]?) : Arr w' y R g0 g f nv := by
  obtain ⟨⟨t, h1⟩, h2⟩ := h
  exact ⟨⟨t, by rw [hg, h1]⟩, fun t ht => Ptr.keep hk hi (h2 t ht)⟩
theorem Arr.cell {w : World} {y : Nat → Int} {P : Nat → Prop} {g0 g : Nat} {f : Nat → Option (List Int)} {nv : Nat → Option Addr} (h : Arr w y P g0 g f nv) {t : Nat} (ht : t < 4) : w.cell? ⟨g, t, none⟩ = some (.pointer (nv t)) := by
  obtain ⟨⟨ty, h1⟩, _⟩ := h
  rw [cell_of_row w g t _ _ _ h1]
  rcases lt4 ht with rfl | rfl | rfl | rfl <;> rfl

theorem Arr.eqv {w : World} {y : Nat → Int} {P : Nat → Prop} {g0 g : Nat} {f f' : Nat → Option (List Int)} {nv : Nat → Option Addr} (h : Arr w y P g0 g f nv) (e : ∀ t, t < 4 → f t = f' t) : Arr w y P g0 g f' nv :=
  ⟨h.1, fun t ht => by rw [← e t ht]; exact h.2 t ht⟩
theorem Arr.grow {w w' : World} {y : Nat → Int} {L gw gn g0 g : Nat} {f : Nat → Option (List Int)} {nv : Nat → Option Addr} (h : Arr w y (PP L w.heap.size gw gn) g0 g f nv) (hb : Below w.heap.size w w') (hz : w'.heap.size = w.heap.size + 1) (hg : g < w.heap.size) : Arr w' y (PP L w'.heap.size gw gn) g0 g f nv :=
  h.keep (fun b hP => hb.block b hP.2.1) (fun b hP => ⟨hP.1, by have := hP.2.1; omega, hP.2.2⟩) (hb.block _ hg)
theorem Arr.drewN {w : World} {y : Nat → Int} {P : Nat → Prop} {g0 g : Nat} {f : Nat → Option (List Int)} {nv : Nat → Option Addr} (h : Arr w y P g0 g f nv) (q : Nat) : Arr (w.drewN q) y P g0 g f nv :=
  h.keep (fun _ _ => rfl) (fun _ h => h) rfl
theorem Arr.free {w : World} {y : Nat → Int} {P : Nat → Prop} {g0 g : Nat} {f : Nat → Option (List Int)} {nv : Nat → Option Addr} (h : Arr w y P g0 g f nv) (t : Nat) : w.frozen? ⟨g, t, none⟩ = false := by
  obtain ⟨⟨ty, h1⟩, _⟩ := h
  exact frozen_of_row w g t _ _ h1
theorem Ptr.other {w : World} {y : Nat → Int} {P : Nat → Prop} {g0 g i : Nat} {o : Option (List Int)} {v : Option Addr} (h : Ptr w y P g0 o v) (hP : ∀ b, P b → b ≠ g) (u : Value) : Ptr (w.setCell ⟨g, i, none⟩ u) y P g0 o v :=
  Ptr.keep (fun b hb => Below.heap_setCell w ⟨g, i, none⟩ u b (fun e => hP b hb e)) (fun _ h => h) h
theorem Arr.other {w : World} {y : Nat → Int} {S L gw gn g0 g1 g : Nat} {f : Nat → Option (List Int)} {nv : Nat → Option Addr} (h : Arr w y (PP L S gw gn) g0 g1 f nv) (hP : ∀ b, PP L S gw gn b → b ≠ g) (h1 : g1 ≠ g) (i : Nat) (u : Value) : Arr (w.setCell ⟨g, i, none⟩ u) y (PP L S gw gn) g0 g1 f nv :=
  h.keep (fun b hb => Below.heap_setCell w ⟨g, i, none⟩ u b (fun e => hP b hb e)) (fun _ h => h) (Below.heap_setCell w ⟨g, i, none⟩ u g1 h1)
theorem Arr.store {w : World} {y : Nat → Int} {P : Nat → Prop} {g0 g i : Nat} {f : Nat → Option (List Int)} {nv : Nat → Option Addr} {o : Option (List Int)} {u : Option Addr} (h : Arr w y P g0 g f nv) (hP : ∀ b, P b → b ≠ g) (hi : i < 4) (hu : Ptr w y P g0 o u) :
    Arr (w.setCell ⟨g, i, none⟩ (.pointer u)) y P g0 g (fun t => if t = i then o else f t) (fun t => if t = i then u else nv t) := by
  obtain ⟨⟨ty, h1⟩, h2⟩ := h
  refine ⟨⟨ty, ?_⟩, fun t ht => ?_⟩
  · rw [heap_setCell_same w g i _ _ _ h1]
    rcases lt4 hi with rfl | rfl | rfl | rfl <;> rfl
  · by_cases e : t = i
    · subst e; simp only [if_pos]; exact hu.other hP _
    · simp only [if_neg e]; exact (h2 t ht).other hP _
theorem vs_len {y : Nat → Int} {n k s : Nat} {r : List Int} (hs : s < 4) (h : vs y n k s = some r) : r.length = k :=
  ((vit_best y n k _ _ (by unfold Bit; omega) (by unfold Bit; omega)).1 r h).1
theorem Arr.copy {w : World} {y : Nat → Int} {P R : Nat → Prop} {g0 g gn : Nat} {f f' : Nat → Option (List Int)} {v nv : Nat → Option Addr} (h : Arr w y P g0 g f v) (k : Arr w y P g0 gn f' nv) (hP : ∀ b, P b → b ≠ g) (hi : ∀ b, P b → R b) :
    Arr ((((w.setCell ⟨g, 0, none⟩ (.pointer (nv 0))).setCell ⟨g, 1, none⟩ (.pointer (nv 1))).setCell ⟨g, 2, none⟩ (.pointer (nv 2))).setCell ⟨g, 3, none⟩ (.pointer (nv 3))) y R g0 g f' nv := by
  obtain ⟨⟨ty, h1⟩, _⟩ := h
  refine ⟨⟨ty, ?_⟩, fun t ht => ?_⟩
  · have e1 := heap_setCell_same w g 0 _ _ (.pointer (nv 0)) h1
    have e2 := heap_setCell_same _ g 1 _ _ (.pointer (nv 1)) e1
    have e3 := heap_setCell_same _ g 2 _ _ (.pointer (nv 2)) e2
    have e4 := heap_setCell_same _ g 3 _ _ (.pointer (nv 3)) e3
    rw [e4]; rfl
  · exact Ptr.keep (fun _ _ => rfl) hi (((((k.2 t ht).other hP _).other hP _).other hP _).other hP _)
theorem Arr.sz {w : World} {y : Nat → Int} {S L gw gn g0 g : Nat} {f : Nat → Option (List Int)} {nv : Nat → Option Addr} (h : Arr w y (PP L S gw gn) g0 g f nv) (e : w.heap.size = S) : Arr w y (PP L w.heap.size gw gn) g0 g f nv := by rw [e]; exact h
theorem nx_len {y : Nat → Int} {n k s j : Nat} {t : Nat} {p : List Int} (h : nx y n k s j t = some p) : p.length = k + 1 := by
  unfold nx at h
  split at h
  · cases h
  · rcases pick_some h with h | h
    · split at h
      · obtain ⟨q, hq, rfl⟩ := Option.map_eq_some_iff.1 h
        have := (vs_len (by omega) hq); simp [this]
      · cases h
    · split at h
      · obtain ⟨q, hq, rfl⟩ := Option.map_eq_some_iff.1 h
        have := (vs_len (by omega) hq); simp [this]
      · cases h
theorem vs_facts {y : Nat → Int} {n k s : Nat} (hs : s < 4) {r : List Int} (h : vs y n k s = some r) : r.length = k ∧ Ok n r ∧ sA r = ((s / 2 : Nat) : Int) ∧ sC r = ((s % 2 : Nat) : Int) :=
  (vit_best y n k _ _ (by unfold Bit; omega) (by unfold Bit; omega)).1 r h
theorem cost_step {y : Nat → Int} {k s j : Nat} {r : List Int} {O1 O2 : Int} (hl : r.length = k) (ha : sA r = ((s / 2 : Nat) : Int)) (hc : sC r = ((s % 2 : Nat) : Int)) (h1 : O1 = o1 ((j : Nat) : Int) ((s / 2 : Nat) : Int) ((s % 2 : Nat) : Int)) (h2 : O2 = o2 ((j : Nat) : Int) ((s % 2 : Nat) : Int)) :
    cost y ((j : Int) :: r) = cost y r + dx O1 (y (2 * k)) + dx O2 (y (2 * k + 1)) := by
  simp only [cost, ha, hc, hl, h1, h2]
theorem o1_bit {O b a c : Int} (h : O = o1 b a c) : O = 0 ∨ O = 1 := by unfold o1 at h; omega
theorem o2_bit {O b c : Int} (h : O = o2 b c) : O = 0 ∨ O = 1 := by unfold o2 at h; omega
theorem xor_dx {o l : Int} (ho : o = 0 ∨ o = 1) (hl : l = 0 ∨ l = 1) : bits BinOp.xor IntKind.i64 o l = dx o l := by
  rcases ho with rfl | rfl <;> rcases hl with rfl | rfl <;> decide
theorem out_tab : ∀ s < 4, ∀ j < 2, trellisOutL.getD (s * 4 + j * 2) 0 = o1 ((j : Nat) : Int) ((s / 2 : Nat) : Int) ((s % 2 : Nat) : Int) ∧ trellisOutL.getD (s * 4 + j * 2 + 1) 0 = o2 ((j : Nat) : Int) ((s % 2 : Nat) : Int) := by decide
theorem next_tab : ∀ s < 4, ∀ j < 2, trellisNextL.getD (s * 2 + j) 0 = ((2 * j + s / 2 : Nat) : Int) := by decide

theorem Below.below_drewN' {B : Nat} {a w : World} (h : Below B a w) (n : Nat) : Below B a (w.drewN n) := below_drewN h n
theorem agg4_idx (v : Nat → Option Addr) : ∀ s < 4, ∀ w, (Instr.index 62 (.agg #[.pointer (v 0), .pointer (v 1), .pointer (v 2), .pointer (v 3)]) (.int .i64 (s : Nat))).run Tryd.prog w = .ok (.pointer (v s)) w := by
  intro s hs
  rcases lt4 hs with rfl | rfl | rfl | rfl <;> intro w <;> kernel_rfl
def lOk (xs : List Int) : Bool := bitsOk xs && decide (xs.length % 2 = 0) && decide (4 ≤ xs.length) && decide (xs.length ≤ 84)
theorem lOk_iff {xs : List Int} : lOk xs = true ↔ bitsOk xs = true ∧ xs.length % 2 = 0 ∧ 4 ≤ xs.length ∧ xs.length ≤ 84 := by simp [lOk, and_assoc]
/-- the end of the best way -/
def SurvS (xs : List Int) (w : World) (e : Ending) (w' : World) : Prop :=
  Below w.heap.size w w' ∧ ((lOk xs = false ∧ e = .returned (.tuple #[.pointer none, .int .i64 0])) ∨
    ∃ n g g0, lOk xs = true ∧ xs.length = 2 * (n + 2) ∧ e = .returned (.tuple #[.pointer (some ⟨g, 0, none⟩), .int .i64 (n : Nat)]) ∧ Node w' (gx xs) (fun b => w.heap.size ≤ b ∧ b < w'.heap.size) g0 (way (bst (gx xs) n)) g)
set_option maxHeartbeats 4000000 in
set_option maxRecDepth 20000 in
theorem survivor_c {C : Nat} {v : Value} {xs : List Int} (w : World) (T1 : TtrellisNext w) (T2 : TtrellisOut w) (h : Rd C w v xs) (hC : C ≤ w.heap.size) :
    Calls Tryd.prog 37 #[v] w (SurvS xs w) := by
  have Q := implBits_c w h
  cases s1 : lOk xs with
  | false => as_aux_lemma =>
      by_cases hb : bitsOk xs = true
      · rw [hb] at Q
        have Q := hid Q
        have S1 := hid s1
        obtain ⟨A, m, c, rfl, h⟩ := h
        have hlen := h.len
        have hsm := h.sm
        have hor : m % 2 = 1 ∨ m < 4 ∨ 84 < m := by
          by_cases h1 : m % 2 = 0 ∧ 4 ≤ m ∧ m ≤ 84
          · have : lOk xs = true := lOk_iff.2 ⟨hb, by rw [hlen]; exact h1⟩
            rw [this] at s1; cases s1
          · omega
        clear T1 T2 h hlen hb s1
        by_cases h2 : m % 2 = 1
        · have n1 : (m : Int) % 2 = 1 := by omega
          clear hor h2
          go_enter Tryd.func37, Tryd.ntmps37
          go_wp2_with fail
          refine Q.out.mono ?_
          rintro e w' ⟨rfl, rfl⟩
          go_wp2_with fail
          go_ret2
          exact ⟨Below.refl _ _, .inl ⟨S1.out, rfl⟩⟩
        · have n1 : (m : Int) % 2 = 0 := by omega
          have hor2 : m < 4 ∨ 84 < m := by omega
          clear hor h2
          rcases hor2 with h4 | h84
          · have n2 : (m : Int) < 4 := by omega
            go_enter Tryd.func37, Tryd.ntmps37
            go_wp2_with fail
            refine Q.out.mono ?_
            rintro e w' ⟨rfl, rfl⟩
            go_wp2_with fail
            go_ret2
            exact ⟨Below.refl _ _, .inl ⟨S1.out, rfl⟩⟩
          · have n2 : (84 : Int) < (m : Int) := by omega
            go_enter Tryd.func37, Tryd.ntmps37
            go_wp2_with fail
            refine Q.out.mono ?_
            rintro e w' ⟨rfl, rfl⟩
            go_wp2_with fail
            go_ret2
            exact ⟨Below.refl _ _, .inl ⟨S1.out, rfl⟩⟩
      · have hb' : bitsOk xs = false := by simpa using hb
        rw [hb'] at Q
        have Q := hid Q
        have S1 := hid s1
        clear T1 T2 hb hb' s1
        go_enter Tryd.func37, Tryd.ntmps37
        go_wp2_with fail
        refine Q.out.mono ?_
        rintro e w' ⟨rfl, rfl⟩
        go_wp2_with fail
        go_ret2
        exact ⟨Below.refl _ _, .inl ⟨S1.out, rfl⟩⟩
  | true =>
    obtain ⟨hb, h2, h4, h84⟩ := lOk_iff.1 s1
    rw [hb] at Q
    have Q := hid Q
    have HB := hid hb
    have l1 := T1.lt
    have l2 := T2.lt
    obtain ⟨A, m, c, rfl, h⟩ := h
    have HL := hid h.len
    obtain ⟨n, hn⟩ : ∃ n, xs.length = 2 * (n + 2) := ⟨xs.length / 2 - 2, by omega⟩
    rw [h.len] at h2 h4 h84
    obtain rfl : m = 2 * (n + 2) := by rw [← h.len]; exact hn
    have S1 := hid s1
    have HN := hid hn
    have d1 : ((2 * (n + 2) : Nat) : Int) % 2 = 0 := by omega
    have d2 : ((2 * (n + 2) : Nat) : Int) / 2 = (n : Int) + 2 := by omega
    have n40 : n ≤ 40 := by omega
    have d3 : 4 ≤ ((2 * (n + 2) : Nat) : Int) := by omega
    have d4 : ((2 * (n + 2) : Nat) : Int) ≤ 84 := by omega
    generalize hm : 2 * (n + 2) = m at *
    have HM := hid hm
    clear s1 hb h2 h4 h84 hn hm
    go_enter Tryd.func37, Tryd.ntmps37
    go_wp2_with fail
    refine Q.out.mono ?_
    rintro e w' ⟨rfl, rfl⟩
    go_wp2_with fail
    have hz1 := World.size_alloc w (.cells #[.pointer none, .int .i64 0, .int .i64 0] 52)
    have G0 := heap_alloc_new w (.cells #[.pointer none, .int .i64 0, .int .i64 0] 52)
    generalize hw1 : w.alloc (.cells #[.pointer none, .int .i64 0, .int .i64 0] 52) = w1 at *
    have b1 : Below w.heap.size w w1 := by rw [← hw1]; exact (Below.refl w.heap.size w).alloc (Nat.le_refl _) _
    have hz2 := World.size_alloc w1 (.cells #[.pointer (some ⟨w.heap.size, 0, none⟩), .pointer none, .pointer none, .pointer none] 62)
    have G1 := heap_alloc_new w1 (.cells #[.pointer (some ⟨w.heap.size, 0, none⟩), .pointer none, .pointer none, .pointer none] 62)
    have G2 := heap_alloc_old w1 (.cells #[.pointer (some ⟨w.heap.size, 0, none⟩), .pointer none, .pointer none, .pointer none] 62) (r := w.heap.size) (by omega)
    generalize hw2 : w1.alloc (.cells #[.pointer (some ⟨w.heap.size, 0, none⟩), .pointer none, .pointer none, .pointer none] 62) = w2 at *
    have b2 : Below w.heap.size w w2 := by rw [← hw2]; exact b1.alloc (by omega) _
    rw [G0] at G2
    rw [hz1] at G1
    have A0 : Arr w2 (gx xs) (PP w.heap.size w2.heap.size (w.heap.size + 1) (w.heap.size + 1)) w.heap.size (w.heap.size + 1) (vs (gx xs) n 0) (fun t => if t = 0 then some ⟨w.heap.size, 0, none⟩ else none) := by
      refine ⟨⟨_, G1⟩, fun t ht => ?_⟩
      rcases lt4 ht with rfl | rfl | rfl | rfl
      · exact ⟨w.heap.size, rfl, rfl, ⟨by omega, by omega, by omega, by omega⟩, _, G2⟩
      · rfl
      · rfl
      · rfl
    clear hw1 hw2 b1 G0 G1 G2 d1 d2 d3 d4
    have hs2 : w2.heap.size = w.heap.size + 2 := by omega
    clear hz1 hz2
    go_loopw [6, 7, 8, 9, 10, 11, 12, 13, 42, 45, 46] (fun _ _ _ _ _ _ _ _ kk _ _ wr => ∃ (k : Nat) (v : Nat → Option Addr), k ≤ n + 2 ∧ kk = .int .i64 k ∧ Hid (Arr wr (gx xs) (PP w.heap.size wr.heap.size (w.heap.size + 1) (w.heap.size + 1)) w.heap.size (w.heap.size + 1) (vs (gx xs) n k) v) ∧ Below w.heap.size w wr ∧ w.heap.size + 2 ≤ wr.heap.size) (fun _ _ _ _ _ _ _ _ kk _ _ _ => n + 2 - (intOf kk).toNat)
    case atStart => exact ⟨0, _, by omega, rfl, A0, b2, by omega⟩
    case round =>
      obtain ⟨k, v, hk, rfl, hA, hb, hsz⟩ := hrel
      by_cases hlt : k < n + 2
      · have i1 : (k : Int) < (n : Int) + 2 := by omega
        have hAw := hA.out
        have bN : Below wr.heap.size wr (wr.alloc (.cells #[.pointer none, .pointer none, .pointer none, .pointer none] 62)) := (Below.refl wr.heap.size wr).alloc (Nat.le_refl _) _
        have hz := World.size_alloc wr (.cells #[.pointer none, .pointer none, .pointer none, .pointer none] 62)
        have GN := heap_alloc_new wr (.cells #[.pointer none, .pointer none, .pointer none, .pointer none] 62)
        have hv0 := (bN.cell (p := ⟨w.heap.size + 1, 0, none⟩) (by simp; omega)).trans (hAw.cell (t := 0) (by omega))
        have hv1 := (bN.cell (p := ⟨w.heap.size + 1, 1, none⟩) (by simp; omega)).trans (hAw.cell (t := 1) (by omega))
        have hv2 := (bN.cell (p := ⟨w.heap.size + 1, 2, none⟩) (by simp; omega)).trans (hAw.cell (t := 2) (by omega))
        have hv3 := (bN.cell (p := ⟨w.heap.size + 1, 3, none⟩) (by simp; omega)).trans (hAw.cell (t := 3) (by omega))
        have hA2 : Arr (wr.alloc (.cells #[.pointer none, .pointer none, .pointer none, .pointer none] 62)) (gx xs) (PP w.heap.size (wr.heap.size + 1) (w.heap.size + 1) wr.heap.size) w.heap.size (w.heap.size + 1) (vs (gx xs) n k) v :=
          hAw.keep (fun b hb => bN.block b hb.2.1) (fun b hb => ⟨hb.1, by have := hb.2.1; omega, hb.2.2.1, by have := hb.2.1; omega⟩) (bN.block _ (by omega))
        have hN : Arr (wr.alloc (.cells #[.pointer none, .pointer none, .pointer none, .pointer none] 62)) (gx xs) (PP w.heap.size (wr.heap.size + 1) (w.heap.size + 1) wr.heap.size) w.heap.size wr.heap.size (nx (gx xs) n k 0 0) (fun _ => none) :=
          ⟨⟨_, GN⟩, fun t ht => by rw [nx_start _ _ _ ht]; rfl⟩
        have hb2 := hb.trans (bN.mono (show w.heap.size ≤ wr.heap.size by omega))
        have HA := hid hA2
        have HN1 := hid hN
        clear hA hAw hA2 hN GN bN
        go_wp2_with fail
        clear hv0 hv1 hv2 hv3
        generalize wr.alloc (.cells #[.pointer none, .pointer none, .pointer none, .pointer none] 62) = wa at *
        generalize hgn : wr.heap.size = gn at *
        have hga : gn + 1 ≤ wa.heap.size := by omega
        have HA : Hid (Arr wa (gx xs) (PP w.heap.size wa.heap.size (w.heap.size + 1) gn) w.heap.size (w.heap.size + 1) (vs (gx xs) n k) v) := by rw [hz]; exact HA
        have HN1 : Hid (Arr wa (gx xs) (PP w.heap.size wa.heap.size (w.heap.size + 1) gn) w.heap.size gn (nx (gx xs) n k 0 0) (fun _ => none)) := by rw [hz]; exact HN1
        clear hz hgn hb
        go_loopw [8, 9, 10, 11, 12, 13, 46] (fun _ _ _ _ _ _ ss wr => ∃ (s : Nat) (nv : Nat → Option Addr), s ≤ 4 ∧ ss = .int .i64 s ∧ Hid (Arr wr (gx xs) (PP w.heap.size wr.heap.size (w.heap.size + 1) gn) w.heap.size (w.heap.size + 1) (vs (gx xs) n k) v) ∧ Hid (Arr wr (gx xs) (PP w.heap.size wr.heap.size (w.heap.size + 1) gn) w.heap.size gn (nx (gx xs) n k s 0) nv) ∧ Below w.heap.size w wr ∧ gn + 1 ≤ wr.heap.size) (fun _ _ _ _ _ _ ss _ => 4 - (intOf ss).toNat)
        case atStart => exact ⟨0, _, by omega, rfl, HA, HN1, hb2, hga⟩
        case round =>
          clear HA HN1 hb2 hga
          obtain ⟨s, nv, hs, rfl, HA, HN, hb, hg1⟩ := hrel
          by_cases hs4 : s < 4
          · have ix := agg4_idx v s hs4
            have is4 : (s : Int) < 4 := by omega
            have hp := HA.out.2 s hs4
            cases hvs : vs (gx xs) n k s with
            | none =>
              rw [hvs] at hp
              have hp : v s = none := hp
              rw [hp] at ix
              clear hp
              go_wp2_with fail
              go_loopw [10, 11, 12, 13] (fun b _ _ _ wr => b = .int .i64 0 ∧ Hid (Arr wr (gx xs) (PP w.heap.size wr.heap.size (w.heap.size + 1) gn) w.heap.size (w.heap.size + 1) (vs (gx xs) n k) v) ∧ Hid (Arr wr (gx xs) (PP w.heap.size wr.heap.size (w.heap.size + 1) gn) w.heap.size gn (nx (gx xs) n k s 0) nv) ∧ Below w.heap.size w wr ∧ gn + 1 ≤ wr.heap.size) (fun _ _ _ _ _ => 0)
              case atStart => exact ⟨rfl, HA, HN, hb, hg1⟩
              case round =>
                clear HA HN hb hg1
                obtain ⟨rfl, HA, HN, hb, hg1⟩ := hrel
                go_wp2_with fail
                go_roundw
                case rel => exact ⟨s + 1, nv, by omega, by go_num, HA, hid (HN.out.eqv fun t ht => nx_nil _ _ _ _ ht hvs), hb, hg1⟩
                case measure => simp [intOf]; omega
            | some r =>
              rw [hvs] at hp
              obtain ⟨h0, hp, hn0⟩ := hp
              have HP := hid hp
              rw [hp] at ix
              clear hp hn0
              go_wp2_with fail
              go_loopw [10, 11, 12, 13] (fun b _ _ _ wr => ∃ (j : Nat) (nv : Nat → Option Addr), j ≤ 2 ∧ b = .int .i64 j ∧ Hid (Arr wr (gx xs) (PP w.heap.size wr.heap.size (w.heap.size + 1) gn) w.heap.size (w.heap.size + 1) (vs (gx xs) n k) v) ∧ Hid (Arr wr (gx xs) (PP w.heap.size wr.heap.size (w.heap.size + 1) gn) w.heap.size gn (nx (gx xs) n k s j) nv) ∧ Below w.heap.size w wr ∧ gn + 1 ≤ wr.heap.size) (fun b _ _ _ _ => 2 - (intOf b).toNat)
              case atStart => exact ⟨0, nv, by omega, rfl, HA, HN, hb, hg1⟩
              case round =>
                clear HA HN hb hg1
                obtain ⟨j, nv, hj, rfl, HA, HN, hb, hg1⟩ := hrel
                by_cases hj2 : j < 2
                · have ij2 : (j : Int) < 2 := by omega
                  by_cases hskip : n ≤ k ∧ j = 1
                  · obtain ⟨hnk, rfl⟩ := hskip
                    have ink : (n : Int) ≤ (k : Int) := by omega
                    go_wp2_with fail
                    go_roundw
                    case rel => exact ⟨2, nv, by omega, by go_num, HA, hid (HN.out.eqv fun t ht => nx_skip _ _ _ _ ht hnk), hb, hg1⟩
                    case measure => simp [intOf]
                  · by_cases hkn : k < n
                    · have ink : (k : Int) < (n : Int) := by omega
                      as_aux_lemma =>
                        have T1' := T1.below hb l1
                        have T2' := T2.below hb l2
                        obtain ⟨O1, hO1⟩ : ∃ O1, O1 = o1 ((j : Nat) : Int) ((s / 2 : Nat) : Int) ((s % 2 : Nat) : Int) := ⟨_, rfl⟩
                        obtain ⟨O2, hO2⟩ : ∃ O2, O2 = o2 ((j : Nat) : Int) ((s % 2 : Nat) : Int) := ⟨_, rfl⟩
                        have ct1 := T2'.at_ (s * 4 + j * 2) (by have : trellisOutL.length = 16 := rfl; omega)
                        have ct2 := T2'.at_ (s * 4 + j * 2 + 1) (by have : trellisOutL.length = 16 := rfl; omega)
                        rw [(out_tab s hs4 j hj2).1, ← hO1] at ct1
                        rw [(out_tab s hs4 j hj2).2, ← hO2] at ct2
                        have HO1 := hid hO1
                        have HO2 := hid hO2
                        clear hO1 hO2
                        go_wp2_with fail
                        clear ct1 ct2 T1' T2'
                        have hz3 := World.size_alloc wr (.cells #[.int .i64 O1, .int .i64 O2] 41)
                        have GO := heap_alloc_new wr (.cells #[.int .i64 O1, .int .i64 O2] 41)
                        have bo := (Below.refl wr.heap.size wr).alloc (Nat.le_refl _) (.cells #[.int .i64 O1, .int .i64 O2] 41)
                        generalize wr.alloc (.cells #[.int .i64 O1, .int .i64 O2] 41) = w3 at *
                        have co1 : w3.cell? ⟨wr.heap.size, 0, none⟩ = some (.int .i64 O1) := by rw [cell_of_row w3 wr.heap.size 0 _ _ _ GO]; rfl
                        have co2 : w3.cell? ⟨wr.heap.size, 1, none⟩ = some (.int .i64 O2) := by rw [cell_of_row w3 wr.heap.size 1 _ _ _ GO]; rfl
                        have HA3 : Hid (Arr w3 (gx xs) (PP w.heap.size w3.heap.size (w.heap.size + 1) gn) w.heap.size (w.heap.size + 1) (vs (gx xs) n k) v) := HA.out.grow bo hz3 (by omega)
                        have HN3 : Hid (Arr w3 (gx xs) (PP w.heap.size w3.heap.size (w.heap.size + 1) gn) w.heap.size gn (nx (gx xs) n k s j) nv) := HN.out.grow bo hz3 (by omega)
                        have hb3 := hb.trans (bo.mono (by have := hb.size; omega))
                        have hg3 : gn + 1 ≤ w3.heap.size := by omega
                        obtain ⟨hrl, hok, hsa, hsc⟩ := vs_facts hs4 hvs
                        obtain ⟨h0', hp', hn3⟩ : ∃ g, v s = some ⟨g, 0, none⟩ ∧ Node w3 (gx xs) (PP w.heap.size w3.heap.size (w.heap.size + 1) gn) w.heap.size r g := by
                          have := HA3.out.2 s hs4
                          rwa [hvs] at this
                        obtain rfl : h0 = h0' := by have := HP.out.symm.trans hp'; simpa using this
                        clear hp'
                        have HN3' := hid hn3
                        have cc := hn3.cost
                        have hcin := cost_in (gx xs) r
                        have HCS := hid (cost_step (y := gx xs) (j := j) hrl hsa hsc HO1.out HO2.out)
                        have h3 := h.below hb3 hC
                        obtain ⟨bA, oA, rfl, hbC, hcl⟩ := h3.cells (by have := HM.out; omega)
                        have cl0 := hcl (2 * k) (by have := HM.out; omega)
                        have cl1 := hcl (2 * k + 1) (by have := HM.out; omega)
                        have hx0 := bitsOk_at HB.out (2 * k)
                        have hx1 := bitsOk_at HB.out (2 * k + 1)
                        have HCS : Hid (T.cost (gx xs) ((j : Int) :: r) = T.cost (gx xs) r + dx O1 (xs.getD (2 * k) 0) + dx O2 (xs.getD (2 * k + 1) 0)) := HCS.out
                        generalize xs.getD (2 * k) 0 = L0 at *
                        generalize xs.getD (2 * k + 1) 0 = L1 at *
                        have x1 := xor_dx (o1_bit HO1.out) hx0
                        have x2 := xor_dx (o2_bit HO2.out) hx1
                        have dd1 := dx_in O1 L0
                        have dd2 := dx_in O2 L1
                        generalize dx O1 L0 = D1 at *
                        generalize dx O2 L1 = D2 at *
                        generalize T.cost (gx xs) r = c0 at *
                        obtain ⟨E1, hE1⟩ : ∃ E1, c0 + D1 = E1 := ⟨_, rfl⟩
                        obtain ⟨NC, hNC⟩ : ∃ NC, E1 + D2 = NC := ⟨_, rfl⟩
                        obtain ⟨K2, hK2⟩ : ∃ K2, 2 * k = K2 := ⟨_, rfl⟩
                        obtain ⟨K3, hK3⟩ : ∃ K3, 2 * k + 1 = K3 := ⟨_, rfl⟩
                        rw [hK2] at cl0
                        rw [hK3] at cl1
                        have HCS := hid (show T.cost (gx xs) ((j : Int) :: r) = NC by rw [HCS.out, hE1, hNC])
                        have eK2 : 2 * (k : Int) = (K2 : Int) := by omega
                        have eK3 : (K2 : Int) + 1 = (K3 : Int) := by omega
                        have b1' : 0 ≤ E1 ∧ E1 ≤ 200 := by omega
                        have b2' : 0 ≤ NC ∧ NC ≤ 200 := by omega
                        have b3' : K2 < m := by have := HM.out; omega
                        have b4' : K3 < m := by have := HM.out; omega
                        have b5' : K3 ≤ 200 := by omega
                        have hk2 : k ≤ 50 := by omega
                        clear hcl hK2 hK3 hcin dd1 dd2 hx0 hx1 hsa hsc hn3 h3 GO bo HA HN hb hg1
                        go_region
                        have hz4 : ((w3.alloc (.cells #[.pointer (some ⟨h0, 0, none⟩), .int .i64 (j : Nat), .int .i64 NC] 52)).drew).heap.size = w3.heap.size + 1 := World.size_alloc w3 _
                        have GN4 : ((w3.alloc (.cells #[.pointer (some ⟨h0, 0, none⟩), .int .i64 (j : Nat), .int .i64 NC] 52)).drew).heap[w3.heap.size]? = _ := heap_alloc_new w3 _
                        have b4 : Below w3.heap.size w3 ((w3.alloc (.cells #[.pointer (some ⟨h0, 0, none⟩), .int .i64 (j : Nat), .int .i64 NC] 52)).drew) := below_drewN ((Below.refl w3.heap.size w3).alloc (Nat.le_refl _) _) 1
                        generalize (w3.alloc (.cells #[.pointer (some ⟨h0, 0, none⟩), .int .i64 (j : Nat), .int .i64 NC] 52)).drew = w4 at *
                        have HA4 : Hid (Arr w4 (gx xs) (PP w.heap.size w4.heap.size (w.heap.size + 1) gn) w.heap.size (w.heap.size + 1) (vs (gx xs) n k) v) := HA3.out.grow b4 hz4 (by omega)
                        have hN4 : Arr w4 (gx xs) (PP w.heap.size w4.heap.size (w.heap.size + 1) gn) w.heap.size gn (nx (gx xs) n k s j) nv := HN3.out.grow b4 hz4 (by omega)
                        have hb4 := hb3.trans (b4.mono (by omega))
                        have hg4 : gn + 1 ≤ w4.heap.size := by omega
                        have hnew : Node w4 (gx xs) (PP w.heap.size w4.heap.size (w.heap.size + 1) gn) w.heap.size ((j : Int) :: r) w3.heap.size :=
                          ⟨⟨by omega, by omega, by omega, by omega⟩, h0, _, by rw [HCS.out]; exact GN4, Node.imp (fun b hb => ⟨hb.1, by have := hb.2.1; omega, hb.2.2⟩) (Node.keep (fun b hb => b4.block b hb.2.1) HN3'.out)⟩
                        have T1' := T1.below hb4 l1
                        have ct := T1'.at_ (s * 2 + j) (by have : trellisNextL.length = 8 := rfl; omega)
                        rw [next_tab s hs4 j hj2] at ct
                        have hnx := nx_at (gx xs) n k s j hj2 hs4 hskip hvs
                        have HNE := hid (fun t (ht : t < 4) (h : t ≠ 2 * j + s / 2) => nx_else (gx xs) n k s j ht h hj2 hs4)
                        have hto : 2 * j + s / 2 < 4 := by omega
                        generalize 2 * j + s / 2 = to at *
                        have ito : (to : Int) < 4 := by omega
                        have cN := hN4.cell hto
                        have fN := hN4.free to
                        have hpt := hN4.2 to hto
                        rw [hz3] at hnew
                        have HN4 := hid hN4
                        have HNEW := hid hnew
                        have HB4 := hid hb4
                        have HG4 := hid hg4
                        have HGN := hid (show w.heap.size + 1 ≠ gn by omega)
                        have HLG := hid (show w.heap.size ≤ gn by omega)
                        have HRL := hid hrl
                        clear cc co1 co2 cl0 cl1 HA3 HN3 HN3' GN4 b4 b1' b2' b3' b4' b5' hb3 hg3 hz3 hz4 hN4 T1' x1 x2 hE1 hNC eK2 eK3 hg4 hrl hk2 ink hsz hk hlt i1 hs
                        rcases hnx with ⟨e1, e2⟩ | ⟨p, e1, e2⟩
                        · as_aux_lemma =>
                            have HE2 := hid e2
                            rw [e1] at hpt
                            have hpt : nv to = none := hpt
                            rw [hpt] at cN
                            clear e1 e2 hpt
                            go_wp2_with fail
                            refine (better_nil _ w4).mono ?_
                            rintro e w' ⟨rfl, q, rfl⟩
                            go_wp2_with fail
                            go_roundw
                            case rel =>
                              refine ⟨j + 1, fun t => if t = to then some ⟨wr.heap.size + 1, 0, none⟩ else nv t, by omega, by go_num, ?_, ?_, ?_, ?_⟩
                              · exact hid (((HA4.out.drewN q).other (g := gn) (fun b hb => hb.2.2.2) HGN.out _ _).sz (by simp))
                              · refine hid ((((HN4.out.drewN q).store (fun b hb => hb.2.2.2) hto (o := some ((j : Int) :: r)) ⟨_, rfl, HNEW.out.drewN q⟩).eqv fun t ht => ?_).sz (by simp))
                                by_cases h : t = to
                                · subst h; rw [if_pos rfl, HE2.out]
                                · rw [if_neg h, HNE.out t ht h]
                              · exact (below_drewN HB4.out q).setCell (p := ⟨gn, to, none⟩) HLG.out _
                              · simpa using HG4.out
                            case measure => simp [intOf]; omega
                        · have HE2 := hid e2
                          have hpl := hid (nx_len e1)
                          have HE1 := hid e1
                          rw [e1] at hpt
                          obtain ⟨hq, hpt, hnq⟩ := hpt
                          rw [hpt] at cN
                          have BC := hid (better_c w4 HNEW.out hnq (by rw [hpl.out]; simpa using HRL.out))
                          clear e1 e2 hpt hnq
                          cases hless : lessB (gx xs) ((j : Int) :: r) p with
                          | true => as_aux_lemma =>
                              rw [hless] at BC
                              have HE2 := hid (HE2.out.trans (by rw [if_pos hless]))
                              clear hless
                              go_wp2_with fail
                              refine BC.out.mono ?_
                              rintro e w' ⟨rfl, q, rfl⟩
                              go_wp2_with fail
                              go_roundw
                              case rel =>
                                refine ⟨j + 1, fun t => if t = to then some ⟨wr.heap.size + 1, 0, none⟩ else nv t, by omega, by go_num, ?_, ?_, ?_, ?_⟩
                                · exact hid (((HA4.out.drewN q).other (g := gn) (fun b hb => hb.2.2.2) HGN.out _ _).sz (by simp))
                                · refine hid ((((HN4.out.drewN q).store (fun b hb => hb.2.2.2) hto (o := some ((j : Int) :: r)) ⟨_, rfl, HNEW.out.drewN q⟩).eqv fun t ht => ?_).sz (by simp))
                                  by_cases h : t = to
                                  · subst h; rw [if_pos rfl, HE2.out]
                                  · rw [if_neg h, HNE.out t ht h]
                                · exact (below_drewN HB4.out q).setCell (p := ⟨gn, to, none⟩) HLG.out _
                                · simpa using HG4.out
                              case measure => simp [intOf]; omega
                          | false => as_aux_lemma =>
                              rw [hless] at BC
                              have HE2 := hid (HE2.out.trans (by rw [if_neg (by rw [hless]; decide)]))
                              clear hless
                              go_wp2_with fail
                              refine BC.out.mono ?_
                              rintro e w' ⟨rfl, q, rfl⟩
                              go_wp2_with fail
                              go_roundw
                              case rel =>
                                refine ⟨j + 1, nv, by omega, by go_num, HA4.out.drewN _, hid ((HN4.out.eqv fun t ht => ?_).drewN _), below_drewN HB4.out _, HG4.out⟩
                                by_cases h : t = to
                                · subst h; rw [HE2.out, HE1.out]
                                · exact (HNE.out t ht h).symm
                              case measure => simp [intOf]; omega
                    · have ink : (n : Int) ≤ (k : Int) := by omega
                      have bj : ((j : Int) == 1) = false := by simp; omega
                      as_aux_lemma =>
                        have T1' := T1.below hb l1
                        have T2' := T2.below hb l2
                        obtain ⟨O1, hO1⟩ : ∃ O1, O1 = o1 ((j : Nat) : Int) ((s / 2 : Nat) : Int) ((s % 2 : Nat) : Int) := ⟨_, rfl⟩
                        obtain ⟨O2, hO2⟩ : ∃ O2, O2 = o2 ((j : Nat) : Int) ((s % 2 : Nat) : Int) := ⟨_, rfl⟩
                        have ct1 := T2'.at_ (s * 4 + j * 2) (by have : trellisOutL.length = 16 := rfl; omega)
                        have ct2 := T2'.at_ (s * 4 + j * 2 + 1) (by have : trellisOutL.length = 16 := rfl; omega)
                        rw [(out_tab s hs4 j hj2).1, ← hO1] at ct1
                        rw [(out_tab s hs4 j hj2).2, ← hO2] at ct2
                        have HO1 := hid hO1
                        have HO2 := hid hO2
                        clear hO1 hO2
                        go_wp2_with fail
                        clear ct1 ct2 T1' T2'
                        have hz3 := World.size_alloc wr (.cells #[.int .i64 O1, .int .i64 O2] 41)
                        have GO := heap_alloc_new wr (.cells #[.int .i64 O1, .int .i64 O2] 41)
                        have bo := (Below.refl wr.heap.size wr).alloc (Nat.le_refl _) (.cells #[.int .i64 O1, .int .i64 O2] 41)
                        generalize wr.alloc (.cells #[.int .i64 O1, .int .i64 O2] 41) = w3 at *
                        have co1 : w3.cell? ⟨wr.heap.size, 0, none⟩ = some (.int .i64 O1) := by rw [cell_of_row w3 wr.heap.size 0 _ _ _ GO]; rfl
                        have co2 : w3.cell? ⟨wr.heap.size, 1, none⟩ = some (.int .i64 O2) := by rw [cell_of_row w3 wr.heap.size 1 _ _ _ GO]; rfl
                        have HA3 : Hid (Arr w3 (gx xs) (PP w.heap.size w3.heap.size (w.heap.size + 1) gn) w.heap.size (w.heap.size + 1) (vs (gx xs) n k) v) := HA.out.grow bo hz3 (by omega)
                        have HN3 : Hid (Arr w3 (gx xs) (PP w.heap.size w3.heap.size (w.heap.size + 1) gn) w.heap.size gn (nx (gx xs) n k s j) nv) := HN.out.grow bo hz3 (by omega)
                        have hb3 := hb.trans (bo.mono (by have := hb.size; omega))
                        have hg3 : gn + 1 ≤ w3.heap.size := by omega
                        obtain ⟨hrl, hok, hsa, hsc⟩ := vs_facts hs4 hvs
                        obtain ⟨h0', hp', hn3⟩ : ∃ g, v s = some ⟨g, 0, none⟩ ∧ Node w3 (gx xs) (PP w.heap.size w3.heap.size (w.heap.size + 1) gn) w.heap.size r g := by
                          have := HA3.out.2 s hs4
                          rwa [hvs] at this
                        obtain rfl : h0 = h0' := by have := HP.out.symm.trans hp'; simpa using this
                        clear hp'
                        have HN3' := hid hn3
                        have cc := hn3.cost
                        have hcin := cost_in (gx xs) r
                        have HCS := hid (cost_step (y := gx xs) (j := j) hrl hsa hsc HO1.out HO2.out)
                        have h3 := h.below hb3 hC
                        obtain ⟨bA, oA, rfl, hbC, hcl⟩ := h3.cells (by have := HM.out; omega)
                        have cl0 := hcl (2 * k) (by have := HM.out; omega)
                        have cl1 := hcl (2 * k + 1) (by have := HM.out; omega)
                        have hx0 := bitsOk_at HB.out (2 * k)
                        have hx1 := bitsOk_at HB.out (2 * k + 1)
                        have HCS : Hid (T.cost (gx xs) ((j : Int) :: r) = T.cost (gx xs) r + dx O1 (xs.getD (2 * k) 0) + dx O2 (xs.getD (2 * k + 1) 0)) := HCS.out
                        generalize xs.getD (2 * k) 0 = L0 at *
                        generalize xs.getD (2 * k + 1) 0 = L1 at *
                        have x1 := xor_dx (o1_bit HO1.out) hx0
                        have x2 := xor_dx (o2_bit HO2.out) hx1
                        have dd1 := dx_in O1 L0
                        have dd2 := dx_in O2 L1
                        generalize dx O1 L0 = D1 at *
                        generalize dx O2 L1 = D2 at *
                        generalize T.cost (gx xs) r = c0 at *
                        obtain ⟨E1, hE1⟩ : ∃ E1, c0 + D1 = E1 := ⟨_, rfl⟩
                        obtain ⟨NC, hNC⟩ : ∃ NC, E1 + D2 = NC := ⟨_, rfl⟩
                        obtain ⟨K2, hK2⟩ : ∃ K2, 2 * k = K2 := ⟨_, rfl⟩
                        obtain ⟨K3, hK3⟩ : ∃ K3, 2 * k + 1 = K3 := ⟨_, rfl⟩
                        rw [hK2] at cl0
                        rw [hK3] at cl1
                        have HCS := hid (show T.cost (gx xs) ((j : Int) :: r) = NC by rw [HCS.out, hE1, hNC])
                        have eK2 : 2 * (k : Int) = (K2 : Int) := by omega
                        have eK3 : (K2 : Int) + 1 = (K3 : Int) := by omega
                        have b1' : 0 ≤ E1 ∧ E1 ≤ 200 := by omega
                        have b2' : 0 ≤ NC ∧ NC ≤ 200 := by omega
                        have b3' : K2 < m := by have := HM.out; omega
                        have b4' : K3 < m := by have := HM.out; omega
                        have b5' : K3 ≤ 200 := by omega
                        have hk2 : k ≤ 50 := by omega
                        clear hcl hK2 hK3 hcin dd1 dd2 hx0 hx1 hsa hsc hn3 h3 GO bo HA HN hb hg1
                        go_region
                        have hz4 : ((w3.alloc (.cells #[.pointer (some ⟨h0, 0, none⟩), .int .i64 (j : Nat), .int .i64 NC] 52)).drew).heap.size = w3.heap.size + 1 := World.size_alloc w3 _
                        have GN4 : ((w3.alloc (.cells #[.pointer (some ⟨h0, 0, none⟩), .int .i64 (j : Nat), .int .i64 NC] 52)).drew).heap[w3.heap.size]? = _ := heap_alloc_new w3 _
                        have b4 : Below w3.heap.size w3 ((w3.alloc (.cells #[.pointer (some ⟨h0, 0, none⟩), .int .i64 (j : Nat), .int .i64 NC] 52)).drew) := below_drewN ((Below.refl w3.heap.size w3).alloc (Nat.le_refl _) _) 1
                        generalize (w3.alloc (.cells #[.pointer (some ⟨h0, 0, none⟩), .int .i64 (j : Nat), .int .i64 NC] 52)).drew = w4 at *
                        have HA4 : Hid (Arr w4 (gx xs) (PP w.heap.size w4.heap.size (w.heap.size + 1) gn) w.heap.size (w.heap.size + 1) (vs (gx xs) n k) v) := HA3.out.grow b4 hz4 (by omega)
                        have hN4 : Arr w4 (gx xs) (PP w.heap.size w4.heap.size (w.heap.size + 1) gn) w.heap.size gn (nx (gx xs) n k s j) nv := HN3.out.grow b4 hz4 (by omega)
                        have hb4 := hb3.trans (b4.mono (by omega))
                        have hg4 : gn + 1 ≤ w4.heap.size := by omega
                        have hnew : Node w4 (gx xs) (PP w.heap.size w4.heap.size (w.heap.size + 1) gn) w.heap.size ((j : Int) :: r) w3.heap.size :=
                          ⟨⟨by omega, by omega, by omega, by omega⟩, h0, _, by rw [HCS.out]; exact GN4, Node.imp (fun b hb => ⟨hb.1, by have := hb.2.1; omega, hb.2.2⟩) (Node.keep (fun b hb => b4.block b hb.2.1) HN3'.out)⟩
                        have T1' := T1.below hb4 l1
                        have ct := T1'.at_ (s * 2 + j) (by have : trellisNextL.length = 8 := rfl; omega)
                        rw [next_tab s hs4 j hj2] at ct
                        have hnx := nx_at (gx xs) n k s j hj2 hs4 hskip hvs
                        have HNE := hid (fun t (ht : t < 4) (h : t ≠ 2 * j + s / 2) => nx_else (gx xs) n k s j ht h hj2 hs4)
                        have hto : 2 * j + s / 2 < 4 := by omega
                        generalize 2 * j + s / 2 = to at *
                        have ito : (to : Int) < 4 := by omega
                        have cN := hN4.cell hto
                        have fN := hN4.free to
                        have hpt := hN4.2 to hto
                        rw [hz3] at hnew
                        have HN4 := hid hN4
                        have HNEW := hid hnew
                        have HB4 := hid hb4
                        have HG4 := hid hg4
                        have HGN := hid (show w.heap.size + 1 ≠ gn by omega)
                        have HLG := hid (show w.heap.size ≤ gn by omega)
                        have HRL := hid hrl
                        clear cc co1 co2 cl0 cl1 HA3 HN3 HN3' GN4 b4 b1' b2' b3' b4' b5' hb3 hg3 hz3 hz4 hN4 T1' x1 x2 hE1 hNC eK2 eK3 hg4 hrl hk2 ink hsz hk hlt i1 hs
                        rcases hnx with ⟨e1, e2⟩ | ⟨p, e1, e2⟩
                        · as_aux_lemma =>
                            have HE2 := hid e2
                            rw [e1] at hpt
                            have hpt : nv to = none := hpt
                            rw [hpt] at cN
                            clear e1 e2 hpt
                            go_wp2_with fail
                            refine (better_nil _ w4).mono ?_
                            rintro e w' ⟨rfl, q, rfl⟩
                            go_wp2_with fail
                            go_roundw
                            case rel =>
                              refine ⟨j + 1, fun t => if t = to then some ⟨wr.heap.size + 1, 0, none⟩ else nv t, by omega, by go_num, ?_, ?_, ?_, ?_⟩
                              · exact hid (((HA4.out.drewN q).other (g := gn) (fun b hb => hb.2.2.2) HGN.out _ _).sz (by simp))
                              · refine hid ((((HN4.out.drewN q).store (fun b hb => hb.2.2.2) hto (o := some ((j : Int) :: r)) ⟨_, rfl, HNEW.out.drewN q⟩).eqv fun t ht => ?_).sz (by simp))
                                by_cases h : t = to
                                · subst h; rw [if_pos rfl, HE2.out]
                                · rw [if_neg h, HNE.out t ht h]
                              · exact (below_drewN HB4.out q).setCell (p := ⟨gn, to, none⟩) HLG.out _
                              · simpa using HG4.out
                            case measure => simp [intOf]; omega
                        · have HE2 := hid e2
                          have hpl := hid (nx_len e1)
                          have HE1 := hid e1
                          rw [e1] at hpt
                          obtain ⟨hq, hpt, hnq⟩ := hpt
                          rw [hpt] at cN
                          have BC := hid (better_c w4 HNEW.out hnq (by rw [hpl.out]; simpa using HRL.out))
                          clear e1 e2 hpt hnq
                          cases hless : lessB (gx xs) ((j : Int) :: r) p with
                          | true => as_aux_lemma =>
                              rw [hless] at BC
                              have HE2 := hid (HE2.out.trans (by rw [if_pos hless]))
                              clear hless
                              go_wp2_with fail
                              refine BC.out.mono ?_
                              rintro e w' ⟨rfl, q, rfl⟩
                              go_wp2_with fail
                              go_roundw
                              case rel =>
                                refine ⟨j + 1, fun t => if t = to then some ⟨wr.heap.size + 1, 0, none⟩ else nv t, by omega, by go_num, ?_, ?_, ?_, ?_⟩
                                · exact hid (((HA4.out.drewN q).other (g := gn) (fun b hb => hb.2.2.2) HGN.out _ _).sz (by simp))
                                · refine hid ((((HN4.out.drewN q).store (fun b hb => hb.2.2.2) hto (o := some ((j : Int) :: r)) ⟨_, rfl, HNEW.out.drewN q⟩).eqv fun t ht => ?_).sz (by simp))
                                  by_cases h : t = to
                                  · subst h; rw [if_pos rfl, HE2.out]
                                  · rw [if_neg h, HNE.out t ht h]
                                · exact (below_drewN HB4.out q).setCell (p := ⟨gn, to, none⟩) HLG.out _
                                · simpa using HG4.out
                              case measure => simp [intOf]; omega
                          | false => as_aux_lemma =>
                              rw [hless] at BC
                              have HE2 := hid (HE2.out.trans (by rw [if_neg (by rw [hless]; decide)]))
                              clear hless
                              go_wp2_with fail
                              refine BC.out.mono ?_
                              rintro e w' ⟨rfl, q, rfl⟩
                              go_wp2_with fail
                              go_roundw
                              case rel =>
                                refine ⟨j + 1, nv, by omega, by go_num, HA4.out.drewN _, hid ((HN4.out.eqv fun t ht => ?_).drewN _), below_drewN HB4.out _, HG4.out⟩
                                by_cases h : t = to
                                · subst h; rw [HE2.out, HE1.out]
                                · exact (HNE.out t ht h).symm
                              case measure => simp [intOf]; omega
                · obtain rfl : j = 2 := by omega
                  go_wp2_with fail
                  go_roundw
                  case rel => exact ⟨s + 1, nv, by omega, by go_num, HA, hid (HN.out.eqv fun t ht => nx_state _ _ _ _ ht), hb, hg1⟩
                  case measure => simp [intOf]; omega
          · as_aux_lemma =>
              obtain rfl : s = 4 := by omega
              have e0 := HN.out.cell (t := 0) (by omega)
              have e1 := HN.out.cell (t := 1) (by omega)
              have e2 := HN.out.cell (t := 2) (by omega)
              have e3 := HN.out.cell (t := 3) (by omega)
              have f0 := HA.out.free 0
              have f1 := HA.out.free 1
              have f2 := HA.out.free 2
              have f3 := HA.out.free 3
              have c0 := HA.out.cell (t := 0) (by omega)
              have c1 := HA.out.cell (t := 1) (by omega)
              have c2 := HA.out.cell (t := 2) (by omega)
              have c3 := HA.out.cell (t := 3) (by omega)
              have HC := hid (HA.out.copy (R := PP w.heap.size wr.heap.size (w.heap.size + 1) (w.heap.size + 1)) (HN.out.eqv fun t ht => nx_end _ _ _ ht) (fun b hb => hb.2.2.1) (fun b hb => ⟨hb.1, hb.2.1, hb.2.2.1, hb.2.2.1⟩))
              have HB := hid ((((hb.setCell (p := ⟨w.heap.size + 1, 0, none⟩) (by simp) (.pointer (nv 0))).setCell (p := ⟨w.heap.size + 1, 1, none⟩) (by simp) (.pointer (nv 1))).setCell (p := ⟨w.heap.size + 1, 2, none⟩) (by simp) (.pointer (nv 2))).setCell (p := ⟨w.heap.size + 1, 3, none⟩) (by simp) (.pointer (nv 3)))
              clear HA HN
              go_wp2_with fail
              go_roundw
              case rel => exact ⟨k + 1, nv, by omega, by go_num, hid (HC.out.sz (by simp)), HB.out, by simp; omega⟩
              case measure => simp [intOf]; omega
      · as_aux_lemma =>
          obtain rfl : k = n + 2 := by omega
          obtain ⟨hv, hbl, hbb⟩ := bst_some (gx xs) n
          have hp := hA.out.2 0 (by omega)
          have hv' : vs (gx xs) n (n + 2) 0 = some (way (bst (gx xs) n)) := hv
          rw [hv'] at hp
          obtain ⟨g, hp, hn⟩ := hp
          have c0 := hA.out.cell (t := 0) (by omega)
          rw [hp] at c0
          have HNO := hid hn
          clear hp hn hv hv' hbl hbb hA
          go_wp2_with fail
          go_ret2
          exact ⟨hb, .inr ⟨n, g, w.heap.size, S1.out, HN.out.trans HM.out.symm, rfl, Node.imp (fun b h => ⟨h.1, h.2.1⟩) HNO.out⟩⟩

end Go.Proofs.YtnlacmbmmlmpjaaDoor
