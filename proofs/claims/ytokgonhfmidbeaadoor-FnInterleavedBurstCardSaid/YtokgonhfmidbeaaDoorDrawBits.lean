/-
  Drawn lists of bits: some list of numbers in range; the reader has gone on.
-/
import Derived.Test.YtokgonhfmidbeaaDoorDrawSeq
namespace Go.Proofs.YtokgonhfmidbeaaDoor
open Go.RowKit

set_option maxHeartbeats 1000000 in
theorem l20Fixed_c {B g p : Nat} (m : Nat) (n : Int) (w : World) (h : Rdr B w g p) (hp : p ≤ 900000) (hm : m ≤ 2000) (h0 : 0 ≤ n) (h1 : n ≤ 1000) :
    Calls Tryd.prog 15 #[.pointer (some ⟨g, 0, none⟩), .int .i64 m, .int .i64 n] w (DrawnL (m + 1) 1001 B g (p + m + 2) w) := by
  have hg := h.lt
  have r0 := h.alloc (.cells #[] 3)
  have hown := (Own.empty w).more (show w.heap.size + 1 ≤ (w.alloc (.cells #[] 3)).heap.size by simp)
  have hgr := grown_alloc (World.grownBy.refl w (some g)) (.cells #[] 3)
  clear h
  go_enter Tryd.func15, Tryd.ntmps15
  go_wp2_with fail
  go_loopw [7, 8] (fun out i wr => ∃ (j : Nat) (o : List Int) (q : Nat), j ≤ m ∧ i = .int .i64 j ∧ o.length = j ∧ q ≤ p + j ∧ Hid (∀ x ∈ o, (-1001 : Int) ≤ x ∧ x ≤ 1001) ∧ Own w.heap.size wr.heap.size wr out o ∧ Rdr B wr g q ∧ w.grownBy wr (some g)) (fun _ i _ => m - (intOf i).toNat)
  case atStart => exact ⟨0, [], p, by omega, rfl, rfl, by omega, fun x hx => by simp at hx, hown, r0, hgr⟩
  case round =>
    obtain ⟨j, o, q, hj, rfl, hlen, hq, hall, ho, hr, hgr⟩ := hrel
    have HL := hid hlen
    clear r0 hown hlen
    have hsz := hgr.size
    by_cases hlt : j < m
    · go_wp2_with fail
      refine (pick_c _ _ hr (by omega) (by omega) (by omega)).mono ?_
      rintro e w2 ⟨a, rfl, ⟨a0, a1⟩, r2, g2, s2⟩
      have ho2 := (ho.apart g2 (fun k hk => by injection hk; omega)).more g2.size
      have hgr2 := grown_trans hgr g2
      have hsz2 := hgr2.size
      clear ho hr hgr g2 s2 hsz
      have hall2 := hid (snoc_in hall.out (show (-1001 : Int) ≤ a ∧ a ≤ 1001 by omega))
      go_wp2_with (at_builtin; refine wpl_appl intSl _ rfl (.tmp 15) (.tmp 18) rfl w.heap.size w2.heap.size _ _ _ [a] 1 rfl rfl rfl rfl ho2 (Nat.le_refl _) (by rw [HL.out]; omega) hsz2 ?_; intro v' w6 ho6 g6)
      have r6 := r2.grown g6 (fun k hk => by have := ho2.lt k hk; omega)
      have hgr6 := grown_own hgr2 g6 (fun k hk => by have := ho2.lt k hk; omega)
      clear ho2 r2 hgr2 g6
      go_wp2
      go_roundw
      case rel => exact ⟨j + 1, o ++ [a], _, by omega, by go_num, by simp [HL.out], by omega, hall2, ho6, r6, hgr6⟩
      case measure => simp [intOf]; omega
    · obtain rfl : m = j := by omega
      go_wp2_with fail
      refine (odd_c _ _ hr (by omega) (by omega) (by omega)).mono ?_
      rintro e w2 ⟨bo, rfl, r2, g2, s2⟩
      have ho2 := (ho.apart g2 (fun k hk => by injection hk; omega)).more g2.size
      have hgr2 := grown_trans hgr g2
      have hsz2 := hgr2.size
      clear ho hr hgr g2 s2 hsz
      cases bo
      · go_wp2_with fail
        go_ret
        exact ⟨_, _, rfl, ho2, ⟨by rw [HL.out]; omega, hall.out⟩, r2.more (by omega), hgr2⟩
      · have hall2 := hid (snoc_in hall.out (show (-1001 : Int) ≤ 0 ∧ (0 : Int) ≤ 1001 by omega))
        by_cases hm0 : 0 < m
        · rcases ho2.form with ⟨hnil, _⟩ | ⟨gf, cf, rfl, gB, gC, gl, gm⟩
          · rw [hnil] at HL; have := HL.out; simp at this; omega
          have hlp : 0 < o.length := by rw [HL.out]; exact hm0
          have hlp2 : (0 : Int) < (o.length : Int) := by omega
          go_wp2_with fail
          refine (pick_c _ _ r2 (by omega) (by omega) (by omega)).mono ?_
          rintro e w3 ⟨b, rfl, ⟨b0, b1⟩, r3, g3, s3⟩
          have ho3 := (ho2.apart g3 (fun k hk => by injection hk; omega)).more g3.size
          have hgr3 := grown_trans hgr2 g3
          have hsz3 := hgr3.size
          clear ho2 r2 hgr2 g3 s3
          by_cases hb : b = 0
          · subst hb
            have cF := ho3.cell (k := 0) hlp
            have fF := ho3.free 0
            have ho4 := ho3.store 0 2
            have hall4 := hid (set_in' (k := 0) hall.out (show (-1001 : Int) ≤ 2 ∧ (2 : Int) ≤ 1001 by omega))
            have r4 := r3.keep (w' := w3.setCell ⟨gf, 0, none⟩ (.int .i64 2)) (fun b hb => Below.heap_setCell w3 ⟨gf, 0, none⟩ _ b (by simp; omega))
            have hgr4 := grown_own hgr3 (row := some gf) (c := w3.setCell ⟨gf, 0, none⟩ (.int .i64 2)) (grown_set (World.grownBy.refl w3 (some gf)) _) (fun i hi => by injection hi; omega)
            clear ho3 r3 hgr3
            go_wp2
            go_ret
            exact ⟨_, _, rfl, ho4.fit (Nat.le_refl _) (by simp), ⟨by rw [List.length_set, HL.out]; omega, hall4.out⟩, r4.more (by omega), hgr4⟩
          · have hb' : (b == 0) = false := by simpa using hb
            clear hb
            go_wp2_with (at_builtin; refine wpl_appl intSl _ rfl (.tmp 33) (.tmp 34) rfl w.heap.size w3.heap.size _ _ _ [0] 1 rfl rfl rfl rfl ho3 (Nat.le_refl _) (by rw [HL.out]; omega) hsz3 ?_; intro v' w6 ho6 g6)
            have r6 := r3.grown g6 (fun k hk => by have := ho3.lt k hk; omega)
            have hgr6 := grown_own hgr3 g6 (fun k hk => by have := ho3.lt k hk; omega)
            clear ho3 r3 hgr3 g6
            go_wp2
            go_ret
            exact ⟨_, _, rfl, ho6, ⟨by simp [HL.out], hall2.out⟩, r6.more (by omega), hgr6⟩
        · obtain rfl : m = 0 := by omega
          obtain rfl : o = [] := List.eq_nil_of_length_eq_zero HL.out
          obtain ⟨A', n', c', rfl, R⟩ := ho2.rd
          obtain rfl : n' = 0 := by rw [← R.len]; rfl
          clear R
          go_wp2_with (at_builtin; refine wpl_appl intSl _ rfl (.tmp 33) (.tmp 34) rfl w.heap.size w2.heap.size _ _ _ [0] 1 rfl rfl rfl rfl ho2 (Nat.le_refl _) (by simp) hsz2 ?_; intro v' w6 ho6 g6)
          have r6 := r2.grown g6 (fun k hk => by have := ho2.lt k hk; omega)
          have hgr6 := grown_own hgr2 g6 (fun k hk => by have := ho2.lt k hk; omega)
          clear ho2 r2 hgr2 g6
          go_wp2
          go_ret
          exact ⟨_, _, rfl, ho6, ⟨by simp, hall2.out⟩, r6.more (by omega), hgr6⟩

end Go.Proofs.YtokgonhfmidbeaaDoor
