/-
  The reader of the laws' drawn inputs: opening it and picking a number below a bound. What is picked is not told, only that it lies in range.
-/
import Derived.Test.YtokgonhfmidbeaaDoorHelp
import Derived.Laws.BitsAllLaws
import Derived.Laws.BitsLemmas
namespace Go.Proofs.YtokgonhfmidbeaaDoor
open Go.RowKit

/-- n bytes at A, below block C -/
structure RdB (C : Nat) (w : World) (A : Option Addr) (n c : Nat) : Prop where
  le : n ≤ c
  cap : c ≤ 9223372036854775807
  cells : 0 < n → ∃ b off, A = some ⟨b, off, none⟩ ∧ b < C ∧ ∀ i, i < n → ∃ y : Nat, y ≤ 255 ∧ w.cell? ⟨b, off + i, none⟩ = some (.int .u8 y)

theorem RdB.keep {C : Nat} {w w' : World} {A : Option Addr} {n c : Nat} (h : RdB C w A n c) (hk : ∀ b, b < C → w'.heap[b]? = w.heap[b]?) : RdB C w' A n c :=
  ⟨h.le, h.cap, fun hn => by
    obtain ⟨b, off, ha, hb, hc⟩ := h.cells hn
    refine ⟨b, off, ha, hb, fun i hi => ?_⟩
    obtain ⟨y, hy, hc⟩ := hc i hi
    exact ⟨y, hy, (World.cell?_of_block (w := w) (hk b hb)).trans hc⟩⟩

theorem IsRow.bytes {w : World} {a : Option Addr} {len cap : Nat} {zs : List Int} (h : IsRow .u8 w a len cap zs) : RdB w.heap.size w a len cap := by
  rcases h with ⟨rfl, rfl, rfl, rfl⟩ | ⟨x, rfl, h1, h2, h3, h4, h5⟩
  · exact ⟨Nat.le_refl _, by omega, fun h => by omega⟩
  · refine ⟨h1, by simpa [maxLen] using h2, fun hn => ?_⟩
    obtain ⟨b, off, spot⟩ := x
    have hc := h4 0 (by omega)
    have hspot : spot = none := by simpa [Addr.add] using World.cell?_spot hc
    subst hspot
    have hadd : ∀ j, (⟨b, off, none⟩ : Addr).add j = ⟨b, off + j, none⟩ := fun j => by unfold Addr.add; split <;> simp_all
    refine ⟨b, off, rfl, ?_, fun i hi => ?_⟩
    · rw [hadd] at hc
      exact World.block_lt_of_cell? w _ hc
    · have hm : zs.getD i 0 ∈ zs := mem_getD (by omega)
      have hb := Go.bounds_u8 (h5 _ hm)
      obtain ⟨y, hy⟩ := Int.eq_ofNat_of_zero_le hb.1
      refine ⟨y, by omega, ?_⟩
      rw [← hadd, h4 i (by omega), hy]

/-- the reader: block g holds the bytes' slice and the number of picks, at most p -/
def Rdr (B : Nat) (w : World) (g : Nat) (p : Nat) : Prop :=
  ∃ A n c k, w.heap[g]? = some (.cells #[.slice A n c, .int .i64 (k : Nat)] 44 (0, 0)) ∧ k ≤ p ∧ n ≤ 2000 ∧ B ≤ g ∧ RdB B w A n c

theorem Rdr.lt {B g p : Nat} {w : World} (h : Rdr B w g p) : g < w.heap.size := by
  obtain ⟨A, n, c, k, h, _⟩ := h
  exact (Array.getElem?_eq_some_iff.1 h).1
theorem Rdr.base {B g p : Nat} {w : World} (h : Rdr B w g p) : B ≤ g := by
  obtain ⟨A, n, c, k, _, _, _, h, _⟩ := h
  exact h
theorem Rdr.more {B g p q : Nat} {w : World} (h : Rdr B w g p) (hq : p ≤ q) : Rdr B w g q := by
  obtain ⟨A, n, c, k, h1, h2, h3⟩ := h
  exact ⟨A, n, c, k, h1, by omega, h3⟩
theorem Rdr.keep {B g p : Nat} {w w' : World} (h : Rdr B w g p) (hk : ∀ b, b ≤ g → w'.heap[b]? = w.heap[b]?) : Rdr B w' g p := by
  obtain ⟨A, n, c, k, h1, h2, h3, h4, h5⟩ := h
  exact ⟨A, n, c, k, (hk g (Nat.le_refl _)).trans h1, h2, h3, h4, h5.keep fun b hb => hk b (by omega)⟩
theorem Rdr.below {B g p E : Nat} {w w' : World} (h : Rdr B w g p) (hb : Below E w w') (hE : g < E) : Rdr B w' g p := h.keep fun b hbg => hb.block b (by omega)
theorem Rdr.grown {B g p : Nat} {w w' : World} {row : Option Nat} (h : Rdr B w g p) (hg : w.grownBy w' row) (hr : ∀ k, row = some k → g < k) : Rdr B w' g p :=
  h.keep fun b hbg => hg.block b (by have := h.lt; omega) (fun e => by have := hr b e.symm; omega)

set_option maxHeartbeats 400000 in
theorem l20Open_c {C : Nat} {A : Option Addr} {n c : Nat} (w : World) (h : RdB C w A n c) (hC : C ≤ w.heap.size) :
    Calls Tryd.prog 12 #[.slice A n c] w fun e w' => e = .returned (.pointer (some ⟨w.heap.size, 0, none⟩)) ∧ Rdr w.heap.size w' w.heap.size 0 ∧ Below w.heap.size w w' ∧ w.heap.size < w'.heap.size := by
  have e1 := h.le
  have e2 := h.cap
  by_cases hn : n ≤ 2000
  · go_enter Tryd.func12, Tryd.ntmps12
    go_wp2
    go_ret
    refine ⟨rfl, ⟨A, n, c, 0, heap_alloc_new w _, Nat.le_refl _, hn, Nat.le_refl _, ?_⟩, (Below.refl _ _).alloc (Nat.le_refl _) _, by simp⟩
    exact ⟨h.le, h.cap, fun h0 => by
      obtain ⟨b, off, ha, hb, hc⟩ := h.cells h0
      refine ⟨b, off, ha, by omega, fun i hi => ?_⟩
      obtain ⟨y, hy, hc⟩ := hc i hi
      exact ⟨y, hy, (World.cell?_of_block (w := w) (Below.heap_alloc w _ b (by omega))).trans hc⟩⟩
  · have hn' : 2000 < n := by omega
    go_enter Tryd.func12, Tryd.ntmps12
    go_wp2
    go_ret
    refine ⟨rfl, ⟨A, 2000, c, 0, heap_alloc_new w _, Nat.le_refl _, Nat.le_refl _, Nat.le_refl _, ?_⟩, (Below.refl _ _).alloc (Nat.le_refl _) _, by simp⟩
    exact ⟨by omega, h.cap, fun h0 => by
      obtain ⟨b, off, ha, hb, hc⟩ := h.cells (by omega)
      refine ⟨b, off, ha, by omega, fun i hi => ?_⟩
      obtain ⟨y, hy, hc⟩ := hc i (by omega)
      exact ⟨y, hy, (World.cell?_of_block (w := w) (Below.heap_alloc w _ b (by omega))).trans hc⟩⟩

/-- what a pick below n leaves -/
def Picked (n : Int) (B g p : Nat) (w : World) (e : Ending) (w' : World) : Prop :=
  ∃ x : Int, e = .returned (.int .i64 x) ∧ (0 ≤ x ∧ x < n) ∧ Rdr B w' g (p + 1) ∧ w.grownBy w' (some g) ∧ w'.heap.size = w.heap.size

theorem Rdr.picked {B g p k n c : Nat} {w : World} {A : Option Addr} (hh : w.heap[g]? = some (.cells #[.slice A n c, .int .i64 (k : Nat)] 44 (0, 0))) (hk : k ≤ p) (hn : n ≤ 2000) (hB : B ≤ g) (hr : RdB B w A n c) (q : Nat) {x m : Int} (h0 : 0 ≤ x) (h1 : x < m) :
    Picked m B g p w (.returned (.int .i64 x)) ((w.setCell ⟨g, 1, none⟩ (.int .i64 (k + 1))).drewN q) := by
  refine ⟨x, rfl, ⟨h0, h1⟩, ⟨A, n, c, k + 1, ?_, by omega, hn, hB, ?_⟩, ?_, by simp⟩
  · show (w.setCell ⟨g, 1, none⟩ (.int .i64 (k + 1))).heap[g]? = _
    rw [heap_setCell_same w g 1 _ _ _ hh]
    rfl
  · exact hr.keep fun b hb => Below.heap_setCell w ⟨g, 1, none⟩ _ b (by simp; omega)
  · exact grown_drewN (grown_set (World.grownBy.refl w (some g)) _) q

theorem ofInt_i64 (a : Nat) (ha : a < 9223372036854775808) : (BitVec.ofInt 64 (a : Int)).toNat = a := by
  rw [BitVec.ofInt_natCast, BitVec.toNat_ofNat]; exact Nat.mod_eq_of_lt (by omega)
theorem i64_xor_nat (a b : Nat) (ha : a < 9223372036854775808) (hb : b < 9223372036854775808) : bits .xor .i64 (a : Int) (b : Int) = ((a ^^^ b : Nat) : Int) := by
  have hx : a ^^^ b < 2 ^ 63 := Nat.xor_lt_two_pow (by omega) (by omega)
  show IntKind.i64.wrap ((BitVec.ofInt 64 (a : Int) ^^^ BitVec.ofInt 64 (b : Int)).toNat : Int) = _
  rw [BitVec.toNat_xor, ofInt_i64 a ha, ofInt_i64 b hb, IntKind.wrap_i64]
  omega
theorem xor64 {x : Nat} (h : x ≤ 1000000000) : bits .xor .i64 (x : Int) ((x : Int) / 64) = ((x ^^^ (x / 64) : Nat) : Int) := by
  have : (x : Int) / 64 = ((x / 64 : Nat) : Int) := by omega
  rw [this, i64_xor_nat _ _ (by omega) (by omega)]
theorem xor64_lt {x : Nat} (h : x ≤ 1000000000) : x ^^^ (x / 64) < 1073741824 := Nat.xor_lt_two_pow (n := 30) (by omega) (by omega)
theorem tdiv_nat (a b : Nat) : Int.tdiv (a : Int) (b : Int) = ((a / b : Nat) : Int) := by
  rw [Int.tdiv_eq_ediv_of_nonneg (by omega)]; simp
theorem tmod_nat (a b : Nat) : Int.tmod (a : Int) (b : Int) = ((a % b : Nat) : Int) := by
  rw [Int.tmod_eq_emod_of_nonneg (by omega)]; simp
theorem ediv_nat (a b : Nat) : (a : Int) / (b : Int) = ((a / b : Nat) : Int) := by simp
theorem emod_nat (a b : Nat) : (a : Int) % (b : Int) = ((a % b : Nat) : Int) := by simp

set_option maxHeartbeats 1000000 in
theorem pick_c {B g p : Nat} (n : Int) (w : World) (h : Rdr B w g p) (hp : p ≤ 1000000) (h1 : 1 ≤ n) (h2 : n ≤ 1000000) :
    Calls Tryd.prog 14 #[.pointer (some ⟨g, 0, none⟩), .int .i64 n] w (Picked n B g p w) := by
  obtain ⟨A, L, c, k, hh, hk, hL, hB, hr⟩ := h
  have c0 : w.cell? ⟨g, 0, none⟩ = some (.slice A L c) := by rw [cell_of_row w g 0 _ _ _ hh]; rfl
  have c1 : w.cell? ⟨g, 1, none⟩ = some (.int .i64 (k : Nat)) := by rw [cell_of_row w g 1 _ _ _ hh]; rfl
  have f1 : w.frozen? ⟨g, 1, none⟩ = false := frozen_of_row w g 1 _ _ hh
  have DONE := hid (fun q x h0 h1 => Rdr.picked (m := n) hh hk hL hB hr q (x := x) h0 h1)
  have e2 := hr.cap
  have e3 := hr.le
  by_cases h0 : L = 0
  · subst h0
    clear hh
    go_enter Tryd.func14, Tryd.ntmps14
    go_wp2
    go_ret
    exact DONE.out 0 0 (by omega) (by omega)
  · have z0 : ((L : Int) == 0) = false := by simp; omega
    obtain ⟨b, off, rfl, hb, hcell⟩ := hr.cells (by omega)
    clear hh hr
    by_cases hlt : k < L
    · obtain ⟨y, hy, hc⟩ := hcell k hlt
      clear hcell
      have hx : Int.tmod (y : Int) n = (y : Int) % n := Int.tmod_eq_emod_of_nonneg (by omega)
      have b0 := Int.emod_nonneg (y : Int) (show n ≠ 0 by omega)
      have b1 := Int.emod_lt_of_pos (y : Int) (show 0 < n by omega)
      have cc : ∀ q u, ((w.setCell ⟨g, 1, none⟩ u).drewN q).cell? ⟨b, off + k, none⟩ = some (.int .u8 y) := fun q u => (World.cell?_setCell_other w ⟨g, 1, none⟩ ⟨b, off + k, none⟩ u (by intro e; injection e; omega)).trans hc
      have cc1 := cc 0 (.int .i64 (k + 1))
      clear cc hx
      go_enter Tryd.func14, Tryd.ntmps14
      go_wp2
      go_ret
      exact DONE.out 0 _ b0 b1
    · have hge : L ≤ k := by omega
      have m1 := Nat.mod_lt k (show 0 < L by omega)
      have m2 := Nat.mod_lt (k * 7 + 3) (show 0 < L by omega)
      have m3 : k / L ≤ 1000000 := Nat.le_trans (Nat.div_le_self k L) (by omega)
      have q1 := tmod_nat k L
      have q2 : Int.tmod ((k : Int) * 7 + 3) (L : Int) = (((k * 7 + 3) % L : Nat) : Int) := by
        have := tmod_nat (k * 7 + 3) L
        rw [← this]; congr 1
      have q3 := tdiv_nat k L
      obtain ⟨y1, hy1, hc1⟩ := hcell (k % L) m1
      obtain ⟨y2, hy2, hc2⟩ := hcell ((k * 7 + 3) % L) m2
      generalize k % L = i1 at m1 q1 hc1
      generalize (k * 7 + 3) % L = i2 at m2 q2 hc2
      generalize k / L = d at m3 q3
      have cc1 : (w.setCell ⟨g, 1, none⟩ (.int .i64 (k + 1))).cell? ⟨b, off + i1, none⟩ = some (.int .u8 y1) := (World.cell?_setCell_other w ⟨g, 1, none⟩ ⟨b, off + i1, none⟩ _ (by intro e; injection e; omega)).trans hc1
      have cc2 : (w.setCell ⟨g, 1, none⟩ (.int .i64 (k + 1))).cell? ⟨b, off + i2, none⟩ = some (.int .u8 y2) := (World.cell?_setCell_other w ⟨g, 1, none⟩ ⟨b, off + i2, none⟩ _ (by intro e; injection e; omega)).trans hc2
      obtain ⟨X, hX⟩ : ∃ X : Nat, X = y1 * 131 + y2 * 1117 + k * 29 + d * 53 := ⟨_, rfl⟩
      have hXb : X ≤ 1000000000 := by omega
      have hXe : (y1 : Int) * 131 + y2 * 1117 + k * 29 + d * 53 = (X : Int) := by omega
      have x1 := xor64 hXb
      have x2 := xor64_lt hXb
      generalize X ^^^ (X / 64) = Z at x1 x2
      have b0 := Int.emod_nonneg (Z : Int) (show n ≠ 0 by omega)
      have b1 := Int.emod_lt_of_pos (Z : Int) (show 0 < n by omega)
      clear hcell hc1 hc2 hX
      have w1 : IntKind.i64.wrap ((k : Int) * 7) = (k : Int) * 7 := IntWalk.i64_in _ (by omega)
      have w2 : IntKind.i64.wrap ((k : Int) * 7 + 3) = (k : Int) * 7 + 3 := IntWalk.i64_in _ (by omega)
      have w3 : IntKind.i64.wrap ((i1 : Int)) = (i1 : Int) := IntWalk.i64_in _ (by omega)
      have w4 : IntKind.i64.wrap ((i2 : Int)) = (i2 : Int) := IntWalk.i64_in _ (by omega)
      have w5 : IntKind.i64.wrap ((d : Int)) = (d : Int) := IntWalk.i64_in _ (by omega)
      have w6 : IntKind.i64.wrap ((y1 : Int) * 131) = (y1 : Int) * 131 := IntWalk.i64_in _ (by omega)
      have w7 : IntKind.i64.wrap ((y2 : Int) * 1117) = (y2 : Int) * 1117 := IntWalk.i64_in _ (by omega)
      have w8 : IntKind.i64.wrap ((k : Int) * 29) = (k : Int) * 29 := IntWalk.i64_in _ (by omega)
      have w9 : IntKind.i64.wrap ((d : Int) * 53) = (d : Int) * 53 := IntWalk.i64_in _ (by omega)
      have w10 : IntKind.i64.wrap ((y1 : Int) * 131 + y2 * 1117) = (y1 : Int) * 131 + y2 * 1117 := IntWalk.i64_in _ (by omega)
      have w11 : IntKind.i64.wrap ((y1 : Int) * 131 + y2 * 1117 + k * 29) = (y1 : Int) * 131 + y2 * 1117 + k * 29 := IntWalk.i64_in _ (by omega)
      have w12 : IntKind.i64.wrap ((y1 : Int) * 131 + y2 * 1117 + k * 29 + d * 53) = (X : Int) := by rw [hXe]; exact IntWalk.i64_in _ (by omega)
      have w13 : IntKind.i64.wrap ((y1 : Int)) = (y1 : Int) := IntWalk.i64_in _ (by omega)
      have w14 : IntKind.i64.wrap ((y2 : Int)) = (y2 : Int) := IntWalk.i64_in _ (by omega)
      have i3 : (i1 : Int) < (L : Int) := by omega
      have i4 : (i2 : Int) < (L : Int) := by omega
      have HXe := hid hXe
      clear hXe
      go_enter Tryd.func14, Tryd.ntmps14
      go_wp2
      go_quiet (fail)
      clear w1 w2 w3 w4 w5 w6 w7 w8 w9 w10 w11 w12 w13 w14 q1 q2 q3
      go_wp2
      go_ret
      exact DONE.out _ _ b0 b1

set_option maxHeartbeats 400000 in
theorem odd_c {B g p : Nat} (n : Int) (w : World) (h : Rdr B w g p) (hp : p ≤ 1000000) (h1 : 0 ≤ n) (h2 : n ≤ 1000000) :
    Calls Tryd.prog 13 #[.pointer (some ⟨g, 0, none⟩), .int .i64 n] w fun e w' => ∃ b : Bool, e = .returned (.bool b) ∧ Rdr B w' g (p + 1) ∧ w.grownBy w' (some g) ∧ w'.heap.size = w.heap.size := by
  by_cases h0 : n = 0
  · subst h0
    have h' := hid h
    clear h
    go_enter Tryd.func13, Tryd.ntmps13
    go_wp2
    go_ret
    exact ⟨false, rfl, h'.out.more (by omega), World.grownBy.refl _ _, rfl⟩
  · have h3 : 1 ≤ n := by omega
    have h4 : 0 < n := by omega
    have C := hid (pick_c n w h hp h3 h2)
    clear h
    go_enter Tryd.func13, Tryd.ntmps13
    go_wp2_with (go_at_call 14; (with_reducible refine C.out.mono ?_); rintro e w' ⟨x, rfl, ⟨x0, x1⟩, r, gr, sz⟩)
    go_ret
    exact ⟨_, rfl, r, gr, sz⟩

end Go.Proofs.YtokgonhfmidbeaaDoor
