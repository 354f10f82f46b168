/-
  The drawn sequences of the laws on filters: some list of numbers in -1001..1001, of at most 65 numbers.
-/
import Derived.Test.YtokgonhfmidbeaaDraw
namespace Go.Proofs.Ytokgonhfmidbeaa
open Go.RowKit

theorem Rdr.alloc {B g p : Nat} {w : World} (h : Rdr B w g p) (o : Obj) : Rdr B (w.alloc o) g p := h.keep fun b hb => Below.heap_alloc w o b (by have := h.lt; omega)

/-- a drawn list: numbers between -c and c, at most m; the reader has gone on -/
def DrawnL (m : Nat) (c : Int) (B g p : Nat) (w : World) (e : Ending) (w' : World) : Prop :=
  ∃ v o, e = .returned v ∧ Own w.heap.size w'.heap.size w' v o ∧ (o.length ≤ m ∧ ∀ x ∈ o, -c ≤ x ∧ x ≤ c) ∧ Rdr B w' g p ∧ w.grownBy w' (some g)

theorem grown_trans {a b c : World} {g : Nat} (h : a.grownBy b (some g)) (k : b.grownBy c (some g)) : a.grownBy c (some g) :=
  ⟨k.os.trans h.os, k.tape.trans h.tape, k.output.trans h.output, Nat.le_trans h.size k.size, fun i hi hne => (k.block i (Nat.lt_of_lt_of_le hi h.size) hne).trans (h.block i hi hne)⟩
theorem grown_alloc {a b : World} {g : Nat} (h : a.grownBy b (some g)) (o : Obj) : a.grownBy (b.alloc o) (some g) :=
  ⟨h.os, h.tape, h.output, Nat.le_trans h.size (by simp), fun i hi hne => (Below.heap_alloc b o i (Nat.lt_of_lt_of_le hi h.size)).trans (h.block i hi hne)⟩
/-- behind a law that wrote one of the call's own rows -/
theorem grown_own {a b c : World} {g : Nat} {row : Option Nat} (h : a.grownBy b (some g)) (k : b.grownBy c row) (hr : ∀ i, row = some i → a.heap.size ≤ i) : a.grownBy c (some g) :=
  ⟨k.os.trans h.os, k.tape.trans h.tape, k.output.trans h.output, Nat.le_trans h.size k.size, fun i hi hne => (k.block i (Nat.lt_of_lt_of_le hi h.size) (fun e => by have := hr i e.symm; omega)).trans (h.block i hi hne)⟩
theorem below_of_grown {a b : World} {g E : Nat} (h : a.grownBy b (some g)) (hE : E ≤ g) (hg : g < a.heap.size) : Below E a b :=
  ⟨h.os, h.tape, h.output, h.size, fun k hk => h.block k (by omega) (fun e => by injection e; omega)⟩

theorem tab8 {k : Nat} (h : k < 8) : 0 ≤ ([0, 0, 0, 0, 1, 1, 2, 3] : List Int).getD k 0 ∧ ([0, 0, 0, 0, 1, 1, 2, 3] : List Int).getD k 0 ≤ 3 := by
  match k, h with
  | 0, _ => decide
  | 1, _ => decide
  | 2, _ => decide
  | 3, _ => decide
  | 4, _ => decide
  | 5, _ => decide
  | 6, _ => decide
  | 7, _ => decide
theorem tab4 {k : Nat} {x y z : Int} (h : k < 4) (hx : -z ≤ x ∧ x ≤ z) (hy : -z ≤ y ∧ y ≤ z) (hz : 0 ≤ z) : -z ≤ ([x, y, z, -z] : List Int).getD k 0 ∧ ([x, y, z, -z] : List Int).getD k 0 ≤ z := by
  match k, h with
  | 0, _ => exact hx
  | 1, _ => exact hy
  | 2, _ => simp; omega
  | 3, _ => simp; omega

theorem snoc_in {o : List Int} {z c : Int} (h : ∀ x ∈ o, -c ≤ x ∧ x ≤ c) (hz : -c ≤ z ∧ z ≤ c) : ∀ x ∈ o ++ [z], -c ≤ x ∧ x ≤ c := by
  intro x hx
  rcases List.mem_append.1 hx with hx | hx
  · exact h x hx
  · rw [List.mem_singleton.1 hx]; exact hz

theorem set_in' {o : List Int} {z c : Int} {k : Nat} (h : ∀ x ∈ o, -c ≤ x ∧ x ≤ c) (hz : -c ≤ z ∧ z ≤ c) : ∀ x ∈ o.set k z, -c ≤ x ∧ x ≤ c := by
  intro x hx
  rcases List.mem_or_eq_of_mem_set hx with hx | hx
  · exact h x hx
  · rw [hx]; exact hz

set_option maxHeartbeats 1000000 in
theorem l20Sequence_c {B g p : Nat} (m : Nat) (n : Int) (w : World) (h : Rdr B w g p) (hp : p ≤ 900000) (hm : m ≤ 60) (h0 : 0 ≤ n) (h1 : n ≤ 1000) :
    Calls Try.prog 22 #[.pointer (some ⟨g, 0, none⟩), .int .i64 m, .int .i64 n] w (DrawnL 65 1001 B g (p + 3 * m + 3) w) := by
  have hg := h.lt
  have r0 := h.alloc (.cells #[] 3)
  have hown := Own.empty w
  have hgr := grown_alloc (World.grownBy.refl w (some g)) (.cells #[] 3)
  clear h
  go_enter Try.func22, Try.ntmps22
  go_wp2_with fail
  refine (pick_c _ _ r0 (by omega) (by omega) (by omega)).mono ?_
  rintro e w1 ⟨x, rfl, ⟨x0, x1⟩, r1, g1, s1⟩
  have ho := hown.apart g1 (fun k hk => by injection hk; omega)
  have hgr1 := grown_trans hgr g1
  have ho' : Own w.heap.size w1.heap.size w1 (.slice (some ⟨w.heap.size, 0, none⟩) 0 0) [] := ho.more (by rw [s1]; simp)
  obtain ⟨J, rfl⟩ := Int.eq_ofNat_of_zero_le x0
  clear r0 hown hgr g1 ho s1 x0
  go_wp2_with fail
  go_loopw [7, 8] (fun out i wr => ∃ (j : Nat) (o : List Int) (q : Nat), j ≤ m ∧ i = .int .i64 j ∧ o.length + j ≤ m ∧ q + 3 * j ≤ p + 1 + 3 * m ∧ Hid (∀ x ∈ o, (-1001 : Int) ≤ x ∧ x ≤ 1001) ∧ Own w.heap.size wr.heap.size wr out o ∧ Rdr B wr g q ∧ w.grownBy wr (some g)) (fun _ i _ => (intOf i).toNat)
  case atStart => exact ⟨J, [], p + 1, by omega, rfl, by simp; omega, by omega, fun x hx => by simp at hx, ho', r1, hgr1⟩
  case round =>
    obtain ⟨j, o, q, hj, rfl, hlen, hq, hall, ho, hr, hgr⟩ := hrel
    clear r1 ho' hgr1
    have hsz := hgr.size
    by_cases hj0 : 0 < j
    · go_wp2_with fail
      refine (pick_c _ _ hr (by omega) (by omega) (by omega)).mono ?_
      rintro e w2 ⟨a, rfl, ⟨a0, a1⟩, r2, g2, s2⟩
      have ho2 := (ho.apart g2 (fun k hk => by injection hk; omega)).more (Nat.le_of_eq s2.symm)
      have hgr2 := grown_trans hgr g2
      clear ho hr hgr g2 s2 hsz
      go_wp2_with fail
      refine (pick_c _ _ r2 (by omega) (by omega) (by omega)).mono ?_
      rintro e w3 ⟨b, rfl, ⟨b0, b1⟩, r3, g3, s3⟩
      have ho3 := (ho2.apart g3 (fun k hk => by injection hk; omega)).more (Nat.le_of_eq s3.symm)
      have hgr3 := grown_trans hgr2 g3
      have hsz3 := hgr3.size
      clear ho2 r2 hgr2 g3 s3
      have oa := Own.made w3 #[.int .i64 (a - 4), .int .i64 (b - 100), .int .i64 1000, .int .i64 (-1000)] [a - 4, b - 100, 1000, -1000] rfl rfl (by omega : 4 ≤ 4194304)
      have ob := Own.made (w3.alloc (.cells #[.int .i64 (a - 4), .int .i64 (b - 100), .int .i64 1000, .int .i64 (-1000)] 3)) #[.int .i64 0, .int .i64 0, .int .i64 0, .int .i64 0, .int .i64 1, .int .i64 1, .int .i64 2, .int .i64 3] [0, 0, 0, 0, 1, 1, 2, 3] rfl rfl (by omega : 8 ≤ 4194304)
      have oa2 := oa.alloc (by simp) (.cells #[.int .i64 0, .int .i64 0, .int .i64 0, .int .i64 0, .int .i64 1, .int .i64 1, .int .i64 2, .int .i64 3] 3)
      have r4 := (r3.alloc (.cells #[.int .i64 (a - 4), .int .i64 (b - 100), .int .i64 1000, .int .i64 (-1000)] 3)).alloc (.cells #[.int .i64 0, .int .i64 0, .int .i64 0, .int .i64 0, .int .i64 1, .int .i64 1, .int .i64 2, .int .i64 3] 3)
      have ho4 := (ho3.alloc (Nat.le_refl _) (.cells #[.int .i64 (a - 4), .int .i64 (b - 100), .int .i64 1000, .int .i64 (-1000)] 3)).alloc (by simp) (.cells #[.int .i64 0, .int .i64 0, .int .i64 0, .int .i64 0, .int .i64 1, .int .i64 1, .int .i64 2, .int .i64 3] 3)
      have hgr4 := grown_alloc (grown_alloc hgr3 (.cells #[.int .i64 (a - 4), .int .i64 (b - 100), .int .i64 1000, .int .i64 (-1000)] 3)) (.cells #[.int .i64 0, .int .i64 0, .int .i64 0, .int .i64 0, .int .i64 1, .int .i64 1, .int .i64 2, .int .i64 3] 3)
      clear oa r3 ho3 hgr3
      go_wp2_with fail
      refine (pick_c _ _ r4 (by omega) (by omega) (by omega)).mono ?_
      rintro e w5 ⟨c, rfl, ⟨c0, c1⟩, r5, g5, s5⟩
      have s5' : w3.heap.size + 2 = w5.heap.size := by rw [s5]; simp
      have ho5 := (ho4.apart g5 (fun k hk => by injection hk; omega)).more (show w3.heap.size ≤ w5.heap.size by omega)
      have oa5 := oa2.apart g5 (fun k hk => by injection hk; omega)
      have ob5 := ob.apart g5 (fun k hk => by injection hk; simp; omega)
      have hgr5 := grown_trans hgr4 g5
      clear ho4 oa2 ob r4 hgr4 g5 s5
      simp only [World.size_alloc] at ob5
      obtain ⟨c, rfl⟩ := Int.eq_ofNat_of_zero_le c0
      have cc := ob5.cell (k := c) (by simp; omega)
      have t8 := tab8 (k := c) (by omega)
      generalize ([0, 0, 0, 0, 1, 1, 2, 3] : List Int).getD c 0 = d at cc t8
      obtain ⟨d, rfl⟩ := Int.eq_ofNat_of_zero_le t8.1
      have cd := oa5.cell (k := d) (by simp; omega)
      have t4 := tab4 (k := d) (x := a - 4) (y := b - 100) (z := 1000) (by omega) (by omega) (by omega) (by omega)
      generalize ([a - 4, b - 100, 1000, -1000] : List Int).getD d 0 = z at cd t4
      clear oa5 ob5
      have hall2 := hid (snoc_in hall.out (show (-1001 : Int) ≤ z ∧ z ≤ 1001 by omega))
      have hsz5 : w.heap.size ≤ w5.heap.size := by omega
      go_wp2_with (at_builtin; refine wpl_appl intSl _ rfl (.tmp 18) (.tmp 33) rfl w.heap.size w5.heap.size _ _ _ [z] 1 rfl rfl rfl rfl ho5 (Nat.le_refl _) (by omega) hsz5 ?_; intro v' w6 ho6 g6)
      have r6 := r5.grown g6 (fun k hk => by have := ho5.lt k hk; omega)
      have hgr6 := grown_own hgr5 g6 (fun k hk => by have := ho5.lt k hk; omega)
      clear ho5 r5 hgr5 g6 cc cd
      go_wp2
      go_roundw
      case rel => exact ⟨j - 1, o ++ [z], _, by omega, by first | rfl | go_num | (congr 1; omega), by simp; omega, by omega, hall2, ho6, r6, hgr6⟩
      case measure => simp [intOf]; omega
    · obtain rfl : j = 0 := by omega
      clear hj0
      go_wp2_with fail
      refine (odd_c _ _ hr (by omega) (by omega) (by omega)).mono ?_
      rintro e w2 ⟨bo, rfl, r2, g2, s2⟩
      have ho2 := (ho.apart g2 (fun k hk => by injection hk; omega)).more (Nat.le_of_eq s2.symm)
      have hgr2 := grown_trans hgr g2
      clear ho hr hgr g2 s2 hsz
      cases bo
      · go_wp2_with fail
        go_ret
        exact ⟨_, _, rfl, ho2, ⟨by omega, hall.out⟩, r2.more (by omega), hgr2⟩
      · go_wp2_with fail
        refine (pick_c _ _ r2 (by omega) (by omega) (by omega)).mono ?_
        rintro e w3 ⟨b, rfl, ⟨b0, b1⟩, r3, g3, s3⟩
        have ho3 := (ho2.apart g3 (fun k hk => by injection hk; omega)).more (Nat.le_of_eq s3.symm)
        have hgr3 := grown_trans hgr2 g3
        have hsz3 := hgr3.size
        clear ho2 r2 hgr2 g3 s3
        have hall2 := hid (snoc_in hall.out (show (-1001 : Int) ≤ 1001 ∧ (1001 : Int) ≤ 1001 by omega))
        by_cases hb : b = 0
        · subst hb
          go_wp2_with (at_builtin; refine wpl_appl intSl _ rfl (.tmp 41) (.tmp 42) rfl w.heap.size w3.heap.size _ _ _ [1001] 1 rfl rfl rfl rfl ho3 (Nat.le_refl _) (by omega) hsz3 ?_; intro v' w6 ho6 g6)
          have r6 := r3.grown g6 (fun k hk => by have := ho3.lt k hk; omega)
          have hgr6 := grown_own hgr3 g6 (fun k hk => by have := ho3.lt k hk; omega)
          clear ho3 r3 hgr3 g6
          go_wp2
          go_ret
          exact ⟨_, _, rfl, ho6, ⟨by simp; omega, hall2.out⟩, r6.more (by omega), hgr6⟩
        · have hb' : (b == 0) = false := by simpa using hb
          clear hb ho3
          go_wp2_with (refine wpl_make intSl _ rfl (.const (.int .i64 65)) (.const (.int .i64 65)) rfl _ _ 65 rfl rfl rfl rfl (by omega) ?_; intro w4 ho4 hb4 hlt4)
          have hgr4 := grown_own hgr3 (row := none) ⟨hb4.os, hb4.tape, hb4.output, hb4.size, fun k hk _ => hb4.block k hk⟩ (fun i hi => by cases hi)
          go_wp2
          go_ret
          refine ⟨_, _, rfl, ho4.less hsz3, ⟨by simp, fun x hx => ?_⟩, (r3.below hb4 r3.lt).more (by omega), hgr4⟩
          rw [List.eq_of_mem_replicate hx]; omega



end Go.Proofs.Ytokgonhfmidbeaa
