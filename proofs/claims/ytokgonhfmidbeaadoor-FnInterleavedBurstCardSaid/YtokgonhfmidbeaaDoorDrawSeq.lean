/-
  The drawn sequences of the laws on filters: some list of numbers in -1001..1001, of at most 65 numbers.
-/
import Derived.Test.YtokgonhfmidbeaaDoorDraw
namespace Go.Proofs.YtokgonhfmidbeaaDoor
open Go.RowKit

theorem Rdr.alloc {B g p : Nat} {w : World} (h : Rdr B w g p) (o : Obj) : Rdr B (w.alloc o) g p := h.keep fun b hb => Below.heap_alloc w o b (by have := h.lt; omega)

/-- a drawn list: numbers between -c and c, at most m; the reader has gone on -/
def DrawnL (m : Nat) (c : Int) (B g p : Nat) (w : World) (e : Ending) (w' : World) : Prop :=
  ∃ v o, e = .returned v ∧ Own w.heap.size w'.heap.size w' v o ∧ (o.length ≤ m ∧ ∀ x ∈ o, -c ≤ x ∧ x ≤ c) ∧ Rdr B w' g p ∧ w.grownBy w' (some g)

theorem grown_trans {a b c : World} {g : Nat} (h : a.grownBy b (some g)) (k : b.grownBy c (some g)) : a.grownBy c (some g) :=
  ⟨k.os.trans h.os, k.tape.trans h.tape, k.output.trans h.output, Nat.le_trans h.size k.size, fun i hi hne => (k.block i (Nat.lt_of_lt_of_le hi h.size) hne).trans (h.block i hi hne)⟩
theorem grown_alloc {a b : World} {g : Nat} (h : a.grownBy b (some g)) (o : Obj) : a.grownBy (b.alloc o) (some g) :=
  ⟨h.os, h.tape, h.output, Nat.le_trans h.size (by simp), fun i hi hne => (Below.heap_alloc b o i (Nat.lt_of_lt_of_le hi h.size)).trans (h.block i hi hne)⟩
/-- behind a law that wrote one of the call's own rows -/
theorem grown_own {a b c : World} {g : Nat} {row : Option Nat} (h : a.grownBy b (some g)) (k : b.grownBy c row) (hr : ∀ i, row = some i → a.heap.size ≤ i) : a.grownBy c (some g) :=
  ⟨k.os.trans h.os, k.tape.trans h.tape, k.output.trans h.output, Nat.le_trans h.size k.size, fun i hi hne => (k.block i (Nat.lt_of_lt_of_le hi h.size) (fun e => by have := hr i e.symm; omega)).trans (h.block i hi hne)⟩
theorem below_of_grown {a b : World} {g E : Nat} (h : a.grownBy b (some g)) (hE : E ≤ g) (hg : g < a.heap.size) : Below E a b :=
  ⟨h.os, h.tape, h.output, h.size, fun k hk => h.block k (by omega) (fun e => by injection e; omega)⟩

theorem tab8 {k : Nat} (h : k < 8) : 0 ≤ ([0, 0, 0, 0, 1, 1, 2, 3] : List Int).getD k 0 ∧ ([0, 0, 0, 0, 1, 1, 2, 3] : List Int).getD k 0 ≤ 3 := by
  match k, h with
  | 0, _ => decide
  | 1, _ => decide
  | 2, _ => decide
  | 3, _ => decide
  | 4, _ => decide
  | 5, _ => decide
  | 6, _ => decide
  | 7, _ => decide
theorem tab4 {k : Nat} {x y z : Int} (h : k < 4) (hx : -z ≤ x ∧ x ≤ z) (hy : -z ≤ y ∧ y ≤ z) (hz : 0 ≤ z) : -z ≤ ([x, y, z, -z] : List Int).getD k 0 ∧ ([x, y, z, -z] : List Int).getD k 0 ≤ z := by
  match k, h with
  | 0, _ => exact hx
  | 1, _ => exact hy
  | 2, _ => simp; omega
  | 3, _ => simp; omega

theorem snoc_in {o : List Int} {z c : Int} (h : ∀ x ∈ o, -c ≤ x ∧ x ≤ c) (hz : -c ≤ z ∧ z ≤ c) : ∀ x ∈ o ++ [z], -c ≤ x ∧ x ≤ c := by
  intro x hx
  rcases List.mem_append.1 hx with hx | hx
  · exact h x hx
  · rw [List.mem_singleton.1 hx]; exact hz

theorem set_in' {o : List Int} {z c : Int} {k : Nat} (h : ∀ x ∈ o, -c ≤ x ∧ x ≤ c) (hz : -c ≤ z ∧ z ≤ c) : ∀ x ∈ o.set k z, -c ≤ x ∧ x ≤ c := by
  intro x hx
  rcases List.mem_or_eq_of_mem_set hx with hx | hx
  · exact h x hx
  · rw [hx]; exact hz




end Go.Proofs.YtokgonhfmidbeaaDoor
