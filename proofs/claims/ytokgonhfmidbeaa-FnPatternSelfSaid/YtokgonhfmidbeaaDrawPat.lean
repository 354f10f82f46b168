/-
  FnPatternSelf's draw: as DrawFindPattern's of the text DrawFilt, with what is known of the pattern's length.
-/
import Derived.Test.YtokgonhfmidbeaaDrawFilt
namespace Go.Proofs.Ytokgonhfmidbeaa
open Go.RowKit

def DrawnLS (k m : Nat) (c : Int) (B g p : Nat) (w : World) (e : Ending) (w' : World) : Prop :=
  ∃ v o, e = .returned v ∧ Own w.heap.size w'.heap.size w' v o ∧ (o.length ≤ m ∧ (o.length ≤ k + 1 ∨ o.length = m) ∧ ∀ x ∈ o, -c ≤ x ∧ x ≤ c) ∧ Rdr B w' g p ∧ w.grownBy w' (some g)

set_option maxHeartbeats 1000000 in
theorem l20Sequence_r {B g p : Nat} (m : Nat) (n : Int) (w : World) (h : Rdr B w g p) (hp : p ≤ 900000) (hm : m ≤ 60) (h0 : 0 ≤ n) (h1 : n ≤ 1000) :
    Calls Try.prog 22 #[.pointer (some ⟨g, 0, none⟩), .int .i64 m, .int .i64 n] w (DrawnLS m 65 1001 B g (p + 3 * m + 3) w) := by
  have hg := h.lt
  have r0 := h.alloc (.cells #[] 3)
  have hown := Own.empty w
  have hgr := grown_alloc (World.grownBy.refl w (some g)) (.cells #[] 3)
  clear h
  go_enter Try.func22, Try.ntmps22
  go_wp2_with fail
  refine (pick_c _ _ r0 (by omega) (by omega) (by omega)).mono ?_
  rintro e w1 ⟨x, rfl, ⟨x0, x1⟩, r1, g1, s1⟩
  have ho := hown.apart g1 (fun k hk => by injection hk; omega)
  have hgr1 := grown_trans hgr g1
  have ho' : Own w.heap.size w1.heap.size w1 (.slice (some ⟨w.heap.size, 0, none⟩) 0 0) [] := ho.more (by rw [s1]; simp)
  obtain ⟨J, rfl⟩ := Int.eq_ofNat_of_zero_le x0
  clear r0 hown hgr g1 ho s1 x0
  go_wp2_with fail
  go_loopw [7, 8] (fun out i wr => ∃ (j : Nat) (o : List Int) (q : Nat), j ≤ m ∧ i = .int .i64 j ∧ o.length + j ≤ m ∧ q + 3 * j ≤ p + 1 + 3 * m ∧ Hid (∀ x ∈ o, (-1001 : Int) ≤ x ∧ x ≤ 1001) ∧ Own w.heap.size wr.heap.size wr out o ∧ Rdr B wr g q ∧ w.grownBy wr (some g)) (fun _ i _ => (intOf i).toNat)
  case atStart => exact ⟨J, [], p + 1, by omega, rfl, by simp; omega, by omega, fun x hx => by simp at hx, ho', r1, hgr1⟩
  case round =>
    obtain ⟨j, o, q, hj, rfl, hlen, hq, hall, ho, hr, hgr⟩ := hrel
    clear r1 ho' hgr1
    have hsz := hgr.size
    by_cases hj0 : 0 < j
    · go_wp2_with fail
      refine (pick_c _ _ hr (by omega) (by omega) (by omega)).mono ?_
      rintro e w2 ⟨a, rfl, ⟨a0, a1⟩, r2, g2, s2⟩
      have ho2 := (ho.apart g2 (fun k hk => by injection hk; omega)).more (Nat.le_of_eq s2.symm)
      have hgr2 := grown_trans hgr g2
      clear ho hr hgr g2 s2 hsz
      go_wp2_with fail
      refine (pick_c _ _ r2 (by omega) (by omega) (by omega)).mono ?_
      rintro e w3 ⟨b, rfl, ⟨b0, b1⟩, r3, g3, s3⟩
      have ho3 := (ho2.apart g3 (fun k hk => by injection hk; omega)).more (Nat.le_of_eq s3.symm)
      have hgr3 := grown_trans hgr2 g3
      have hsz3 := hgr3.size
      clear ho2 r2 hgr2 g3 s3
      have oa := Own.made w3 #[.int .i64 (a - 4), .int .i64 (b - 100), .int .i64 1000, .int .i64 (-1000)] [a - 4, b - 100, 1000, -1000] rfl rfl (by omega : 4 ≤ 4194304)
      have ob := Own.made (w3.alloc (.cells #[.int .i64 (a - 4), .int .i64 (b - 100), .int .i64 1000, .int .i64 (-1000)] 3)) #[.int .i64 0, .int .i64 0, .int .i64 0, .int .i64 0, .int .i64 1, .int .i64 1, .int .i64 2, .int .i64 3] [0, 0, 0, 0, 1, 1, 2, 3] rfl rfl (by omega : 8 ≤ 4194304)
      have oa2 := oa.alloc (by simp) (.cells #[.int .i64 0, .int .i64 0, .int .i64 0, .int .i64 0, .int .i64 1, .int .i64 1, .int .i64 2, .int .i64 3] 3)
      have r4 := (r3.alloc (.cells #[.int .i64 (a - 4), .int .i64 (b - 100), .int .i64 1000, .int .i64 (-1000)] 3)).alloc (.cells #[.int .i64 0, .int .i64 0, .int .i64 0, .int .i64 0, .int .i64 1, .int .i64 1, .int .i64 2, .int .i64 3] 3)
      have ho4 := (ho3.alloc (Nat.le_refl _) (.cells #[.int .i64 (a - 4), .int .i64 (b - 100), .int .i64 1000, .int .i64 (-1000)] 3)).alloc (by simp) (.cells #[.int .i64 0, .int .i64 0, .int .i64 0, .int .i64 0, .int .i64 1, .int .i64 1, .int .i64 2, .int .i64 3] 3)
      have hgr4 := grown_alloc (grown_alloc hgr3 (.cells #[.int .i64 (a - 4), .int .i64 (b - 100), .int .i64 1000, .int .i64 (-1000)] 3)) (.cells #[.int .i64 0, .int .i64 0, .int .i64 0, .int .i64 0, .int .i64 1, .int .i64 1, .int .i64 2, .int .i64 3] 3)
      clear oa r3 ho3 hgr3
      go_wp2_with fail
      refine (pick_c _ _ r4 (by omega) (by omega) (by omega)).mono ?_
      rintro e w5 ⟨c, rfl, ⟨c0, c1⟩, r5, g5, s5⟩
      have s5' : w3.heap.size + 2 = w5.heap.size := by rw [s5]; simp
      have ho5 := (ho4.apart g5 (fun k hk => by injection hk; omega)).more (show w3.heap.size ≤ w5.heap.size by omega)
      have oa5 := oa2.apart g5 (fun k hk => by injection hk; omega)
      have ob5 := ob.apart g5 (fun k hk => by injection hk; simp; omega)
      have hgr5 := grown_trans hgr4 g5
      clear ho4 oa2 ob r4 hgr4 g5 s5
      simp only [World.size_alloc] at ob5
      obtain ⟨c, rfl⟩ := Int.eq_ofNat_of_zero_le c0
      have cc := ob5.cell (k := c) (by simp; omega)
      have t8 := tab8 (k := c) (by omega)
      generalize ([0, 0, 0, 0, 1, 1, 2, 3] : List Int).getD c 0 = d at cc t8
      obtain ⟨d, rfl⟩ := Int.eq_ofNat_of_zero_le t8.1
      have cd := oa5.cell (k := d) (by simp; omega)
      have t4 := tab4 (k := d) (x := a - 4) (y := b - 100) (z := 1000) (by omega) (by omega) (by omega) (by omega)
      generalize ([a - 4, b - 100, 1000, -1000] : List Int).getD d 0 = z at cd t4
      clear oa5 ob5
      have hall2 := hid (snoc_in hall.out (show (-1001 : Int) ≤ z ∧ z ≤ 1001 by omega))
      have hsz5 : w.heap.size ≤ w5.heap.size := by omega
      go_wp2_with (at_builtin; refine wpl_appl intSl _ rfl (.tmp 18) (.tmp 33) rfl w.heap.size w5.heap.size _ _ _ [z] 1 rfl rfl rfl rfl ho5 (Nat.le_refl _) (by omega) hsz5 ?_; intro v' w6 ho6 g6)
      have r6 := r5.grown g6 (fun k hk => by have := ho5.lt k hk; omega)
      have hgr6 := grown_own hgr5 g6 (fun k hk => by have := ho5.lt k hk; omega)
      clear ho5 r5 hgr5 g6 cc cd
      go_wp2
      go_roundw
      case rel => exact ⟨j - 1, o ++ [z], _, by omega, by first | rfl | go_num | (congr 1; omega), by simp; omega, by omega, hall2, ho6, r6, hgr6⟩
      case measure => simp [intOf]; omega
    · obtain rfl : j = 0 := by omega
      clear hj0
      go_wp2_with fail
      refine (odd_c _ _ hr (by omega) (by omega) (by omega)).mono ?_
      rintro e w2 ⟨bo, rfl, r2, g2, s2⟩
      have ho2 := (ho.apart g2 (fun k hk => by injection hk; omega)).more (Nat.le_of_eq s2.symm)
      have hgr2 := grown_trans hgr g2
      clear ho hr hgr g2 s2 hsz
      cases bo
      · go_wp2_with fail
        go_ret
        exact ⟨_, _, rfl, ho2, ⟨by omega, by omega, hall.out⟩, r2.more (by omega), hgr2⟩
      · go_wp2_with fail
        refine (pick_c _ _ r2 (by omega) (by omega) (by omega)).mono ?_
        rintro e w3 ⟨b, rfl, ⟨b0, b1⟩, r3, g3, s3⟩
        have ho3 := (ho2.apart g3 (fun k hk => by injection hk; omega)).more (Nat.le_of_eq s3.symm)
        have hgr3 := grown_trans hgr2 g3
        have hsz3 := hgr3.size
        clear ho2 r2 hgr2 g3 s3
        have hall2 := hid (snoc_in hall.out (show (-1001 : Int) ≤ 1001 ∧ (1001 : Int) ≤ 1001 by omega))
        by_cases hb : b = 0
        · subst hb
          go_wp2_with (at_builtin; refine wpl_appl intSl _ rfl (.tmp 41) (.tmp 42) rfl w.heap.size w3.heap.size _ _ _ [1001] 1 rfl rfl rfl rfl ho3 (Nat.le_refl _) (by omega) hsz3 ?_; intro v' w6 ho6 g6)
          have r6 := r3.grown g6 (fun k hk => by have := ho3.lt k hk; omega)
          have hgr6 := grown_own hgr3 g6 (fun k hk => by have := ho3.lt k hk; omega)
          clear ho3 r3 hgr3 g6
          go_wp2
          go_ret
          exact ⟨_, _, rfl, ho6, ⟨by simp; omega, by simp; omega, hall2.out⟩, r6.more (by omega), hgr6⟩
        · have hb' : (b == 0) = false := by simpa using hb
          clear hb ho3
          go_wp2_with (refine wpl_make intSl _ rfl (.const (.int .i64 65)) (.const (.int .i64 65)) rfl _ _ 65 rfl rfl rfl rfl (by omega) ?_; intro w4 ho4 hb4 hlt4)
          have hgr4 := grown_own hgr3 (row := none) ⟨hb4.os, hb4.tape, hb4.output, hb4.size, fun k hk _ => hb4.block k hk⟩ (fun i hi => by cases hi)
          go_wp2
          go_ret
          refine ⟨_, _, rfl, ho4.less hsz3, ⟨by simp, by simp, fun x hx => ?_⟩, (r3.below hb4 r3.lt).more (by omega), hgr4⟩
          rw [List.eq_of_mem_replicate hx]; omega

def DrawFindPatternr (w : World) (e : Ending) (w' : World) : Prop :=
  ∃ v o v2 o2, e = .returned (.tuple #[v, v2]) ∧ Own w.heap.size w'.heap.size w' v o ∧ (o.length ≤ 200 ∧ ∀ x ∈ o, (-1001 : Int) ≤ x ∧ x ≤ 1001) ∧ Own w.heap.size w'.heap.size w' v2 o2 ∧ (o2.length ≤ 65 ∧ (o2.length ≤ 6 ∨ o2.length = 65) ∧ ∀ x ∈ o2, (-1001 : Int) ≤ x ∧ x ≤ 1001) ∧ Below w.heap.size w w'

set_option maxHeartbeats 1000000 in
theorem DrawFindPattern_r {C : Nat} {A : Option Addr} {n c : Nat} (w : World) (h : RdB C w A n c) (hC : C ≤ w.heap.size) :
    Calls Try.prog 6 #[.slice A n c] w (DrawFindPatternr w) := by
  have H := hid (l20Open_c w h hC)
  clear h
  go_enter Try.func6, Try.ntmps6
  go_wp2_with fail
  refine H.out.mono ?_
  rintro e w1 ⟨rfl, r, b1, l1⟩
  clear H
  have gr := World.grownBy.refl w1 (some w.heap.size)
  go_wp2_with fail
  refine (l20Sequence_r 5 14 _ r (by omega) (by omega) (by omega) (by omega)).mono ?_
  rintro e w2 ⟨v2, q, rfl, Oq, ⟨lq, kq, hq⟩, r2, g2⟩
  have t2 := g2.size
  have gr := grown_trans gr g2
  clear g2 r
  have r := r2
  clear r2
  go_wp2_with fail
  refine (l20Sequence_r 6 14 _ r (by omega) (by omega) (by omega) (by omega)).mono ?_
  rintro e w3 ⟨v3, o, rfl, Oo, ⟨lo, _, ho⟩, r3, g3⟩
  have t3 := g3.size
  have Oq := Oq.apart g3 (fun k hk => by injection hk; omega)
  have gr := grown_trans gr g3
  clear g3 r
  have r := r3
  clear r3
  go_wp2_with fail
  refine (pick_c 2 _ r (by omega) (by omega) (by omega)).mono ?_
  rintro e w4 ⟨z, rfl, ⟨za, zb⟩, r4, g4, s4⟩
  have t4 := g4.size
  have Oq := Oq.apart g4 (fun k hk => by injection hk; omega)
  have Oo := Oo.apart g4 (fun k hk => by injection hk; omega)
  have gr := grown_trans gr g4
  clear g4 r
  have r := r4
  clear r4
  by_cases hz : z = 0
  case neg =>
    have hz' : (z == 0) = false := by simpa using hz
    clear hz
    have bb := b1.trans (below_of_grown gr (Nat.le_refl _) l1)
    go_wp2_with fail
    go_ret2
    exact ⟨_, _, _, _, rfl, Oo.fit (by omega) (by omega), ⟨by omega, ho⟩, Oq.fit (by omega) (by omega), ⟨lq, kq, hq⟩, bb⟩
  subst hz
  go_wp2_with (at_builtin; refine wpl_append intSl _ rfl (.tmp 16) (.tmp 17) rfl _ _ _ _ _ _ _ rfl rfl Oo Oq.rd (by first | omega | (simp only [List.length_append]; omega)) (by omega) ?_; intro vx wx Ox gx hxx)
  have txwx := gx.size
  have r := r.grown gx (fun k hk => by have := Oo.lt k hk; omega)
  have Oq := Oq.apart gx (fun k hk => by have := Oo.lt k hk; omega)
  have gr := grown_own gr gx (fun k hk => by have := Oo.lt k hk; omega)
  clear Oo gx hxx
  go_wp2_with fail
  refine (l20Sequence_r 5 0 _ r (by omega) (by omega) (by omega) (by omega)).mono ?_
  rintro e w5 ⟨v5, s, rfl, Os, ⟨ls, _, hs⟩, r5, g5⟩
  have t5 := g5.size
  have Oq := Oq.apart g5 (fun k hk => by injection hk; omega)
  have Ox := Ox.apart g5 (fun k hk => by injection hk; omega)
  have gr := grown_trans gr g5
  clear g5 r
  have r := r5
  clear r5
  go_wp2_with (at_builtin; refine wpl_append intSl _ rfl (.tmp 18) (.tmp 20) rfl _ _ _ _ _ _ _ rfl rfl Ox Os.rd (by first | omega | (simp only [List.length_append]; omega)) (by omega) ?_; intro vx wy Oy gx hxx)
  have txwy := gx.size
  have r := r.grown gx (fun k hk => by have := Ox.lt k hk; omega)
  have Oq := Oq.apart gx (fun k hk => by have := Ox.lt k hk; omega)
  have Os := Os.apart gx (fun k hk => by have := Ox.lt k hk; omega)
  have gr := grown_own gr gx (fun k hk => by have := Ox.lt k hk; omega)
  clear Ox gx hxx
  have bb := b1.trans (below_of_grown gr (Nat.le_refl _) l1)
  have hin : ∀ x ∈ o ++ q ++ s, (-1001 : Int) ≤ x ∧ x ≤ 1001 := by
    intro x hx
    simp only [List.mem_append] at hx
    rcases hx with (hx | hx) | hx
    · exact ho x hx
    · exact hq x hx
    · exact hs x hx
  go_wp2_with fail
  go_ret2
  exact ⟨_, _, _, _, rfl, Oy.fit (by omega) (by omega), ⟨by simp only [List.length_append]; omega, hin⟩, Oq.fit (by omega) (by omega), ⟨lq, kq, hq⟩, bb⟩

end Go.Proofs.Ytokgonhfmidbeaa
