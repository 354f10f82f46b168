/-
  What the small functions return that nearly all laws call: the range test, and the copying, comparing, marking and re-reading of a list of ints.
-/
import Derived.Test.YtokgonhfmidbeaaDoorBase
import Derived.Test.YtokgonhfmidbeaaDoorRows
import Derived.OpenShut
namespace Go.Proofs.YtokgonhfmidbeaaDoor
open Go.RowKit

theorem intSl : IntSl Tryd.prog 23 := ⟨Tryd.underlying23, by kernel_rfl⟩

theorem ret_bool {a b : Bool} (h : a = b) : Ending.returned (.bool a) = .returned (.bool b) := by rw [h]
theorem ret_int {a b : Int} (h : a = b) : Ending.returned (.int .i64 a) = .returned (.int .i64 b) := by rw [h]
theorem drawn_add (w : World) (a b : Nat) : (w.drewN a).drewN b = w.drewN (a + b) := World.drewN_drewN w a b

def inB (n lo hi : Int) : Bool := decide (lo ≤ n) && decide (n ≤ hi)
theorem inB_yes {n lo hi : Int} (h1 : lo ≤ n) (h2 : n ≤ hi) : inB n lo hi = true := by simp [inB, h1, h2]
theorem inB_lo {n lo hi : Int} (h1 : ¬ lo ≤ n) : inB n lo hi = false := by simp [inB, h1]
theorem inB_hi {n lo hi : Int} (h1 : ¬ n ≤ hi) : inB n lo hi = false := by simp [inB, h1]
theorem inB_iff {n lo hi : Int} : inB n lo hi = true ↔ lo ≤ n ∧ n ≤ hi := by simp [inB]

set_option maxHeartbeats 400000 in
theorem l1In_c (n lo hi : Int) (w : World) :
    Calls Tryd.prog 24 #[.int .i64 n, .int .i64 lo, .int .i64 hi] w fun e w' => e = .returned (.bool (inB n lo hi)) ∧ w = w' := by
  by_cases h1 : lo ≤ n
  · by_cases h2 : n ≤ hi
    · have H := hid (inB_yes h1 h2)
      go_enter Tryd.func24, Tryd.ntmps24
      go_wp2
      go_ret
      exact ⟨ret_bool H.out.symm, rfl⟩
    · have H := hid (inB_hi (lo := lo) h2)
      go_enter Tryd.func24, Tryd.ntmps24
      go_wp2
      go_ret
      exact ⟨ret_bool H.out.symm, rfl⟩
  · have H := hid (inB_lo (hi := hi) h1)
    go_enter Tryd.func24, Tryd.ntmps24
    go_wp2
    go_ret
    exact ⟨ret_bool H.out.symm, rfl⟩

/-! ### toIntS: a copy -/
theorem copy_step {n k : Nat} {f : Nat → Int} {x : Int} (hx : f k = x) : (rg n fun i => if i < k then f i else 0).set k x = rg n fun i => if i < k + 1 then f i else 0 := by
  rw [rg_set]
  apply rg_congr
  intro i _
  by_cases h : i = k
  · subst h; simp [hx]
  · by_cases h2 : i < k
    · rw [if_neg h, if_pos h2, if_pos (by omega)]
    · rw [if_neg h, if_neg h2, if_neg (by omega)]

/-! ### eqIntS, sameInts: equality -/
def eqB (xs ys : List Int) : Bool := decide (xs = ys)
theorem eqB_self (xs : List Int) : eqB xs xs = true := by simp [eqB]
theorem eqB_ne {xs ys : List Int} (h : xs ≠ ys) : eqB xs ys = false := by simp [eqB, h]
theorem eqB_iff {xs ys : List Int} : eqB xs ys = true ↔ xs = ys := by simp [eqB]

set_option maxHeartbeats 400000 in
theorem sameInts_c {C D : Nat} {v1 v2 : Value} {xs ys : List Int} (w : World) (h1 : Rd C w v1 xs) (h2 : Rd D w v2 ys) :
    Calls Tryd.prog 6 #[v1, v2] w fun e w' => e = .returned (.bool (eqB xs ys)) ∧ ∃ q, w' = w.drewN q := by
  obtain ⟨A, n, c, rfl, h1⟩ := h1
  obtain ⟨B, m, d, rfl, h2⟩ := h2
  have l1 := hid h1.len
  have l2 := hid h2.len
  have hm := h1.sm
  by_cases hl : n = m
  · subst hl
    go_enter Tryd.func6, Tryd.ntmps6
    go_wp2
    go_loopw [5] (fun i wr => ∃ k : Nat, k ≤ n ∧ i = .int .i64 k ∧ Hid (∀ j, j < k → xs.getD j 0 = ys.getD j 0) ∧ ∃ q, wr = w.drewN q) (fun i _ => n - (intOf i).toNat)
    case atStart => exact ⟨0, Nat.zero_le _, rfl, fun j hj => absurd hj (by omega), 0, rfl⟩
    case round =>
      obtain ⟨k, hk, rfl, heq, q, rfl⟩ := hrel
      by_cases hlt : k < n
      · obtain ⟨b, off, x, rfl, _, c1, hx⟩ := h1.at_ hlt
        obtain ⟨b', off', y, rfl, _, c2, hy⟩ := h2.at_ hlt
        have i1 : (k : Int) < (n : Int) := by omega
        by_cases hne : x = y
        · subst hne
          go_wp2
          go_quiet (fail)
          go_wp2
          go_roundw
          case rel =>
            refine ⟨k + 1, by omega, by go_num, fun j hj => ?_, _, rfl⟩
            by_cases h : j < k
            · exact heq.out j h
            · obtain rfl : j = k := by omega
              exact hx.out.trans hy.out.symm
          case measure => simp [intOf]; omega
        · have hno : Hid (xs ≠ ys) := by rintro rfl; exact hne (hx.out.symm.trans hy.out)
          go_wp2
          go_quiet (fail)
          go_wp2
          go_ret
          exact ⟨ret_bool (eqB_ne hno.out).symm, _, drawn_add _ _ _⟩
      · obtain rfl : k = n := by omega
        go_wp2
        go_ret
        refine ⟨ret_bool ?_, _, rfl⟩
        have e : xs = ys := list_ext_getD (l1.out.trans l2.out.symm) (fun i hi => heq.out i (by have := l1.out; omega))
        rw [e, eqB_self]
  · have hno : Hid (xs ≠ ys) := by rintro rfl; exact hl (l1.out.symm.trans l2.out)
    go_enter Tryd.func6, Tryd.ntmps6
    go_wp2
    go_ret
    exact ⟨ret_bool (eqB_ne hno.out).symm, 0, rfl⟩

/-! ### markIntS, heldIntS: the numbers k, k + 1, .. are written, and read again -/
def marks (k : Int) (n : Nat) : List Int := rg n fun i => k + i
theorem marks_length (k : Int) (n : Nat) : (marks k n).length = n := rg_length _ _
theorem mark_step {n j : Nat} {f : Nat → Int} {k : Int} : (rg n fun i => if i < j then k + i else f i).set j (k + j) = rg n fun i => if i < j + 1 then k + i else f i := by
  rw [rg_set]
  apply rg_congr
  intro i _
  by_cases h : i = j
  · subst h; simp
  · by_cases h2 : i < j
    · rw [if_neg h, if_pos h2, if_pos (by omega)]
    · rw [if_neg h, if_neg h2, if_neg (by omega)]



/-! ### the slices that come in -/
/-- A slice of integers that came in: it is nil; or it leads to a row of 'cap' cells, the numbers 'zs' (the first 'len' are its elements), each fitting its kind. -/
def IsRow (k : IntKind) (w : World) (a : Option Addr) (len cap : Nat) (zs : List Int) : Prop :=
  (a = none ∧ len = 0 ∧ cap = 0 ∧ zs = []) ∨
  ∃ x, a = some x ∧ len ≤ cap ∧ cap ≤ maxLen ∧ zs.length = cap ∧ (∀ i, i < zs.length → w.cell? (x.add i) = some (.int k (zs.getD i 0))) ∧ ∀ n ∈ zs, (Lit.int k n).wf = true

def I64 (xs : List Int) : Prop := ∀ x ∈ xs, -9223372036854775808 ≤ x ∧ x ≤ 9223372036854775807

theorem IsRow.ok {w : World} {a : Option Addr} {len cap : Nat} {zs : List Int} (h : IsRow .i64 w a len cap zs) (hl : len ≤ 4194304) :
    RdA w.heap.size w a len cap (zs.take len) ∧ I64 (zs.take len) := by
  rcases h with ⟨rfl, rfl, rfl, rfl⟩ | ⟨x, rfl, h1, h2, h3, h4, h5⟩
  · exact ⟨⟨rfl, Nat.le_refl _, by omega, by omega, fun h => by omega⟩, fun x hx => by simp at hx⟩
  · refine ⟨⟨by simp; omega, h1, by simpa [maxLen] using h2, hl, fun hn => ?_⟩, fun n hn => ?_⟩
    · obtain ⟨b, off, spot⟩ := x
      have hc := h4 0 (by omega)
      have hspot : spot = none := by simpa [Addr.add] using World.cell?_spot hc
      subst hspot
      have hadd : ∀ j, (⟨b, off, none⟩ : Addr).add j = ⟨b, off + j, none⟩ := fun j => by unfold Addr.add; split <;> simp_all
      refine ⟨b, off, rfl, ?_, fun i hi => ?_⟩
      · rw [hadd] at hc
        exact World.block_lt_of_cell? w _ hc
      · rw [← hadd, h4 i (by omega)]
        congr 2
        simp [List.getD, hi]
    · have := h5 n (List.mem_of_mem_take hn)
      have := Go.bounds_i64 this
      omega

/-! ### the same contracts, as a law uses them: a new world, of which only what was there is known -/
theorem b_same {P : Program} {f : FuncId} {args : Array Value} {w : World} {v : Value} (h : Calls P f args w fun e w' => e = .returned v ∧ w = w') :
    Calls P f args w fun e w' => e = .returned v ∧ Below w.heap.size w w' := h.mono fun _ _ ⟨h1, h2⟩ => ⟨h1, h2 ▸ Below.refl _ _⟩
theorem b_drew {P : Program} {f : FuncId} {args : Array Value} {w : World} {v : Value} (h : Calls P f args w fun e w' => e = .returned v ∧ ∃ q, w' = w.drewN q) :
    Calls P f args w fun e w' => e = .returned v ∧ Below w.heap.size w w' := h.mono fun _ _ ⟨h1, q, h2⟩ => ⟨h1, h2 ▸ below_drewN (Below.refl _ _) q⟩
theorem sameInts_t {C D : Nat} {v1 v2 : Value} {xs : List Int} (w : World) (h1 : Rd C w v1 xs) (h2 : Rd D w v2 xs) :
    Calls Tryd.prog 6 #[v1, v2] w fun e w' => e = .returned (.bool true) ∧ Below w.heap.size w w' := by
  have := b_drew (sameInts_c w h1 h2)
  rw [eqB_self] at this
  exact this

end Go.Proofs.YtokgonhfmidbeaaDoor
