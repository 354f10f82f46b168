/-
  Drawn lists for the laws on the transform: some list of at most 17 numbers in -257..257.
-/
import Derived.Test.YtmjghkpijphfbaaDrawSeq
import Derived.Test.YtmjghkpijphfbaaStep
namespace Go.Proofs.Ytmjghkpijphfbaa
open Go.RowKit

/-- a drawn list that is only read: numbers between -c and c, at most m; the reader has gone on -/
def DrawnR (m : Nat) (c : Int) (B g p : Nat) (w : World) (e : Ending) (w' : World) : Prop :=
  ∃ v o, e = .returned v ∧ (∀ w'', w'.grownBy w'' (some g) → Rd w'.heap.size w'' v o) ∧ (o.length ≤ m ∧ ∀ x ∈ o, -c ≤ x ∧ x ≤ c) ∧ Rdr B w' g p ∧ w.grownBy w' (some g)
/-- a row that the call made, read while the reader goes on -/
theorem Own.while {B C g : Nat} {w : World} {v : Value} {o : List Int} (h : Own B C w v o) (hC : C ≤ w.heap.size) (hg : g < B) : ∀ w'', w.grownBy w'' (some g) → Rd w.heap.size w'' v o :=
  fun _ hw => ((h.apart hw (fun k hk => by injection hk; omega)).rd).more hC
theorem Own.while1 {B C g n c : Nat} {a : Addr} {w : World} {o : List Int} (h : Own B C w (.slice (some a) n c) o) (hC : C ≤ w.heap.size) (hg : g < B) (hn : 1 ≤ n) (hc : c ≠ 1) : ∀ w'', w.grownBy w'' (some g) → Rd w.heap.size w'' (.slice ((some a).map (·.add 1)) (n - 1) (c - 1)) (o.drop 1) := by
  intro w2 hw
  obtain ⟨A9, n9, c9, e9, R9⟩ := (h.apart hw (fun k hk => by injection hk; omega)).rd
  injection e9 with e1 e2 e3
  subst e1 e2 e3
  have R10 := R9.from (k := 1) hn
  rw [if_neg hc] at R10
  exact ⟨_, _, _, rfl, R10.more hC⟩
theorem tab5 {k : Nat} {x y : Int} (h : k < 5) (hx : 0 ≤ x ∧ x < 256) (hy : 0 ≤ y ∧ y < 256) : -257 ≤ ([0, 1, 256, x, y] : List Int).getD k 0 ∧ ([0, 1, 256, x, y] : List Int).getD k 0 ≤ 257 := by
  rcases (by omega : k = 0 ∨ k = 1 ∨ k = 2 ∨ k = 3 ∨ k = 4) with rfl | rfl | rfl | rfl | rfl <;> simp <;> omega
theorem tab2 {k : Nat} {x y c : Int} (h : k < 2) (hx : -c ≤ x ∧ x ≤ c) (hy : -c ≤ y ∧ y ≤ c) : -c ≤ ([x, y] : List Int).getD k 0 ∧ ([x, y] : List Int).getD k 0 ≤ c := by
  rcases (by omega : k = 0 ∨ k = 1) with rfl | rfl <;> simp <;> omega

set_option maxHeartbeats 1000000 in
theorem l20Points_c {B g p : Nat} (n : Int) (w : World) (h : Rdr B w g p) (hp : p ≤ 900000) (h0 : 0 ≤ n) (h1 : n ≤ 1000) :
    Calls Try.prog 36 #[.pointer (some ⟨g, 0, none⟩), .int .i64 n] w (DrawnR 17 257 B g (p + 60) w) := by
  have hg := h.lt
  have r0 := h.alloc (.cells #[] 3)
  have hown := (Own.empty w).more (show w.heap.size + 1 ≤ (w.alloc (.cells #[] 3)).heap.size by simp)
  have hgr := grown_alloc (World.grownBy.refl w (some g)) (.cells #[] 3)
  clear h
  go_enter Try.func36, Try.ntmps36
  go_wp2_with fail
  go_loopw [5, 6] (fun out i wr => ∃ (j : Nat) (o : List Int) (q : Nat), j ≤ 16 ∧ i = .int .i64 j ∧ o.length = j ∧ q ≤ p + 3 * j ∧ Hid (∀ x ∈ o, (-257 : Int) ≤ x ∧ x ≤ 257) ∧ Own w.heap.size wr.heap.size wr out o ∧ Rdr B wr g q ∧ w.grownBy wr (some g)) (fun _ i _ => 16 - (intOf i).toNat)
  case atStart => exact ⟨0, [], p, by omega, rfl, rfl, by omega, fun x hx => by simp at hx, hown, r0, hgr⟩
  case round =>
    obtain ⟨j, o, q, hj, rfl, hlen, hq, hall, ho, hr, hgr⟩ := hrel
    have HL := hid hlen
    clear r0 hown hlen
    have hsz := hgr.size
    by_cases hlt : j < 16
    · go_wp2_with fail
      refine (pick_c _ _ hr (by omega) (by omega) (by omega)).mono ?_
      rintro e w2 ⟨a, rfl, ⟨a0, a1⟩, r2, g2, s2⟩
      have ho2 := (ho.apart g2 (fun k hk => by injection hk; omega)).more (Nat.le_of_eq s2.symm)
      have hgr2 := grown_trans hgr g2
      clear ho hr hgr g2 s2 hsz
      go_wp2_with fail
      refine (pick_c _ _ r2 (by omega) (by omega) (by omega)).mono ?_
      rintro e w3 ⟨b, rfl, ⟨b0, b1⟩, r3, g3, s3⟩
      have ho3 := (ho2.apart g3 (fun k hk => by injection hk; omega)).more (Nat.le_of_eq s3.symm)
      have hgr3 := grown_trans hgr2 g3
      have hsz3 := hgr3.size
      clear ho2 r2 hgr2 g3 s3
      have oa := Own.made w3 #[.int .i64 0, .int .i64 1, .int .i64 256, .int .i64 a, .int .i64 b] [0, 1, 256, a, b] rfl rfl (by omega : 5 ≤ 4194304)
      have r4 := r3.alloc (.cells #[.int .i64 0, .int .i64 1, .int .i64 256, .int .i64 a, .int .i64 b] 3)
      have ho4 := ho3.alloc (Nat.le_refl _) (.cells #[.int .i64 0, .int .i64 1, .int .i64 256, .int .i64 a, .int .i64 b] 3)
      have hgr4 := grown_alloc hgr3 (.cells #[.int .i64 0, .int .i64 1, .int .i64 256, .int .i64 a, .int .i64 b] 3)
      clear r3 ho3 hgr3
      go_wp2_with fail
      refine (pick_c _ _ r4 (by omega) (by omega) (by omega)).mono ?_
      rintro e w5 ⟨c, rfl, ⟨c0, c1⟩, r5, g5, s5⟩
      have s5' : w3.heap.size + 1 = w5.heap.size := by rw [s5]; simp
      have ho5 := (ho4.apart g5 (fun k hk => by injection hk; omega)).more (show w3.heap.size ≤ w5.heap.size by omega)
      have oa5 := oa.apart g5 (fun k hk => by injection hk; omega)
      have hgr5 := grown_trans hgr4 g5
      clear ho4 oa r4 hgr4 g5 s5
      obtain ⟨c, rfl⟩ := Int.eq_ofNat_of_zero_le c0
      have cd := oa5.cell (k := c) (by simp; omega)
      have t4 := tab5 (k := c) (x := a) (y := b) (by omega) ⟨a0, a1⟩ ⟨b0, b1⟩
      generalize ([0, 1, 256, a, b] : List Int).getD c 0 = z at cd t4
      clear oa5
      have hall2 := hid (snoc_in hall.out (show (-257 : Int) ≤ z ∧ z ≤ 257 from t4))
      have hsz5 : w.heap.size ≤ w5.heap.size := by omega
      go_wp2_with (at_builtin; refine wpl_appl intSl _ rfl (.tmp 12) (.tmp 22) rfl w.heap.size w5.heap.size _ _ _ [z] 1 rfl rfl rfl rfl ho5 (Nat.le_refl _) (by rw [HL.out]; omega) hsz5 ?_; intro v' w6 ho6 g6)
      have r6 := r5.grown g6 (fun k hk => by have := ho5.lt k hk; omega)
      have hgr6 := grown_own hgr5 g6 (fun k hk => by have := ho5.lt k hk; omega)
      clear ho5 r5 hgr5 g6 cd
      go_wp2
      go_roundw
      case rel => exact ⟨j + 1, o ++ [z], _, by omega, by go_num, by simp [HL.out], by omega, hall2, ho6, r6, hgr6⟩
      case measure => simp [intOf]; omega
    · obtain rfl : j = 16 := by omega
      go_wp2_with fail
      refine (odd_c _ _ hr (by omega) (by omega) (by omega)).mono ?_
      rintro e w2 ⟨bo, rfl, r2, g2, s2⟩
      have ho2 := (ho.apart g2 (fun k hk => by injection hk; omega)).more g2.size
      have hgr2 := grown_trans hgr g2
      have hsz2 := hgr2.size
      clear ho hr hgr g2 s2 hsz
      cases bo
      · go_wp2_with fail
        go_ret
        exact ⟨_, _, rfl, ho2.while (Nat.le_refl _) hg, ⟨by rw [HL.out]; omega, hall.out⟩, r2.more (by omega), hgr2⟩
      rcases ho2.form with ⟨hnil, _⟩ | ⟨gf, cf, rfl, gB, gC, gl, gm⟩
      · rw [hnil] at HL; have := HL.out; simp at this
      have hl16 := HL.out
      rw [hl16] at ho2 gl ⊢
      clear hl16
      go_wp2_with fail
      refine (pick_c _ _ r2 (by omega) (by omega) (by omega)).mono ?_
      rintro e w3 ⟨x, rfl, ⟨x0, x1⟩, r3, g3, s3⟩
      have ho3 := (ho2.apart g3 (fun k hk => by injection hk; omega)).more g3.size
      have hgr3 := grown_trans hgr2 g3
      have hsz3 := hgr3.size
      clear ho2 r2 hgr2 g3 s3
      rcases (by omega : x = 0 ∨ x = 1 ∨ x = 2) with rfl | rfl | rfl
      · go_wp2_with fail
        refine (pick_c _ _ r3 (by omega) (by omega) (by omega)).mono ?_
        rintro e w4 ⟨i, rfl, ⟨i0, i1⟩, r4, g4, s4⟩
        have ho4 := (ho3.apart g4 (fun k hk => by injection hk; omega)).more g4.size
        have hgr4 := grown_trans hgr3 g4
        have hsz4 := hgr4.size
        clear ho3 r3 hgr3 g4 s4
        have oa := Own.made w4 #[.int .i64 (-1), .int .i64 257] [-1, 257] rfl rfl (by omega : 2 ≤ 4194304)
        have r5 := r4.alloc (.cells #[.int .i64 (-1), .int .i64 257] 3)
        have ho5 := ho4.alloc (Nat.le_refl _) (.cells #[.int .i64 (-1), .int .i64 257] 3)
        have hgr5 := grown_alloc hgr4 (.cells #[.int .i64 (-1), .int .i64 257] 3)
        clear r4 ho4 hgr4
        go_wp2_with fail
        refine (pick_c _ _ r5 (by omega) (by omega) (by omega)).mono ?_
        rintro e w6 ⟨c, rfl, ⟨c0, c1⟩, r6, g6, s6⟩
        have s6' : w4.heap.size + 1 = w6.heap.size := by rw [s6]; simp
        have ho6 := (ho5.apart g6 (fun k hk => by injection hk; omega)).more (show w4.heap.size ≤ w6.heap.size by omega)
        have oa6 := oa.apart g6 (fun k hk => by injection hk; omega)
        have hgr6 := grown_trans hgr5 g6
        clear ho5 oa r5 hgr5 g6 s6
        obtain ⟨c, rfl⟩ := Int.eq_ofNat_of_zero_le c0
        obtain ⟨i, rfl⟩ := Int.eq_ofNat_of_zero_le i0
        have cd := oa6.cell (k := c) (by simp; omega)
        have t4 := tab2 (k := c) (x := -1) (y := 257) (c := 257) (by omega) (by omega) (by omega)
        generalize ([-1, 257] : List Int).getD c 0 = z at cd t4
        clear oa6
        have cF := ho6.cell (k := i) (by rw [HL.out]; omega)
        have fF := ho6.free i
        have ho7 := ho6.store i z
        have hall4 := hid (set_in' (k := i) hall.out (show (-257 : Int) ≤ z ∧ z ≤ 257 from t4))
        have r7 := r6.keep (w' := w6.setCell ⟨gf, i, none⟩ (.int .i64 z)) (fun b hb => Below.heap_setCell w6 ⟨gf, i, none⟩ _ b (by simp; omega))
        have hgr7 := grown_own hgr6 (row := some gf) (c := w6.setCell ⟨gf, i, none⟩ (.int .i64 z)) (grown_set (World.grownBy.refl w6 (some gf)) _) (fun i hi => by injection hi; omega)
        clear ho6 r6 hgr6
        have i16 : (i : Int) < 16 := by omega
        go_wp2
        go_ret
        exact ⟨_, _, rfl, ho7.while (by simp) hg, ⟨by rw [List.length_set, HL.out]; omega, hall4.out⟩, r7.more (by omega), hgr7⟩
      · have R10 := ho3.while1 (Nat.le_refl _) hg (by omega) (by omega)
        have hall5 := hid (fun x (hx : x ∈ o.drop 1) => hall.out x (List.mem_of_mem_drop hx))
        go_wp2
        go_ret
        refine ⟨_, _, rfl, R10, ⟨by rw [List.length_drop, HL.out]; omega, hall5.out⟩, r3.more (by omega), hgr3⟩
      · have hall4 := hid (snoc_in hall.out (show (-257 : Int) ≤ 0 ∧ (0 : Int) ≤ 257 by omega))
        go_wp2_with (at_builtin; refine wpl_appl intSl _ rfl (.tmp 29) (.tmp 30) rfl w.heap.size w3.heap.size _ _ _ [0] 1 rfl rfl rfl rfl ho3 (Nat.le_refl _) (by rw [HL.out]; omega) hsz3 ?_; intro v' w6 ho6 g6)
        have r6 := r3.grown g6 (fun k hk => by have := ho3.lt k hk; omega)
        have hgr6 := grown_own hgr3 g6 (fun k hk => by have := ho3.lt k hk; omega)
        clear ho3 r3 hgr3 g6
        go_wp2
        go_ret
        exact ⟨_, _, rfl, ho6.while (Nat.le_refl _) hg, ⟨by simp [HL.out], hall4.out⟩, r6.more (by omega), hgr6⟩

def DrawnFwd (w : World) (e : Ending) (w' : World) : Prop :=
  ∃ v o, e = .returned v ∧ Rd w'.heap.size w' v o ∧ Below w.heap.size w w'
set_option maxHeartbeats 400000 in
theorem DrawForwardTransform_c {C : Nat} {A : Option Addr} {n c : Nat} (w : World) (h : RdB C w A n c) (hC : C ≤ w.heap.size) :
    Calls Try.prog 28 #[.slice A n c] w (DrawnFwd w) := by
  have H := hid (l20Open_c w h hC)
  clear h
  go_enter Try.func28, Try.ntmps28
  go_wp2_with fail
  refine H.out.mono ?_
  rintro e w1 ⟨rfl, r1, b1, l1⟩
  go_wp2_with fail
  refine (l20Points_c 9 _ r1 (by omega) (by omega) (by omega)).mono ?_
  rintro e w2 ⟨v, o, rfl, ho, _, r2, g2⟩
  have hb := b1.trans (below_of_grown g2 (Nat.le_refl _) l1)
  go_wp2_with fail
  go_ret
  exact ⟨_, _, rfl, ho _ (World.grownBy.refl _ _), hb⟩

def DrawnPfx (w : World) (e : Ending) (w' : World) : Prop :=
  ∃ v o n, e = .returned (.tuple #[v, .int .i64 n]) ∧ Rd w'.heap.size w' v o ∧ (-1 ≤ n ∧ n ≤ 17) ∧ Below w.heap.size w w'
set_option maxHeartbeats 400000 in
theorem DrawAddPrefix_c {C : Nat} {A : Option Addr} {n c : Nat} (w : World) (h : RdB C w A n c) (hC : C ≤ w.heap.size) :
    Calls Try.prog 20 #[.slice A n c] w (DrawnPfx w) := by
  have H := hid (l20Open_c w h hC)
  clear h
  go_enter Try.func20, Try.ntmps20
  go_wp2_with fail
  refine H.out.mono ?_
  rintro e w1 ⟨rfl, r1, b1, l1⟩
  go_wp2_with fail
  refine (l20Points_c 12 _ r1 (by omega) (by omega) (by omega)).mono ?_
  rintro e w2 ⟨v, o, rfl, ho, _, r2, g2⟩
  have t2 := g2.size
  have hb := b1.trans (below_of_grown g2 (Nat.le_refl _) l1)
  have gb := hid (r2.base)
  go_wp2_with fail
  refine (pick_c _ _ r2 (by omega) (by omega) (by omega)).mono ?_
  rintro e w3 ⟨x, rfl, ⟨x0, x1⟩, r3, g3, s3⟩
  have hb3 := hb.trans (below_of_grown g3 (Nat.le_refl _) (by omega))
  go_wp2_with fail
  go_ret2
  exact ⟨v, o, x - 1, rfl, (ho _ g3).more g3.size, ⟨by omega, by omega⟩, hb3⟩

end Go.Proofs.Ytmjghkpijphfbaa
