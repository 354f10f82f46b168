/-
  The drawn input of the laws on UndoFilter: two lists of numbers in range.
-/
import Derived.Test.YtebbljgmliikfaaDrawFilt
namespace Go.Proofs.Ytebbljgmliikfaa
open Go.RowKit

def DrawUndoFilterd (w : World) (e : Ending) (w' : World) : Prop :=
  ∃ v o v2 o2, e = .returned (.tuple #[v, v2]) ∧ Own w.heap.size w'.heap.size w' v o ∧ (o.length ≤ 65 ∧ ∀ x ∈ o, (-1001 : Int) ≤ x ∧ x ≤ 1001) ∧ Own w.heap.size w'.heap.size w' v2 o2 ∧ (o2.length ≤ 65 ∧ ∀ x ∈ o2, (-1001 : Int) ≤ x ∧ x ≤ 1001) ∧ Below w.heap.size w w'

theorem tab3 {k : Nat} (h : k < 3) : -1001 ≤ ([0, 2, -1] : List Int).getD k 0 ∧ ([0, 2, -1] : List Int).getD k 0 ≤ 1001 := by
  match k, h with
  | 0, _ => decide
  | 1, _ => decide
  | 2, _ => decide
theorem set_in {o : List Int} {z c : Int} {k : Nat} (h : ∀ x ∈ o, -c ≤ x ∧ x ≤ c) (hz : -c ≤ z ∧ z ≤ c) : ∀ x ∈ o.set k z, -c ≤ x ∧ x ≤ c := by
  intro x hx
  rcases List.mem_or_eq_of_mem_set hx with hx | hx
  · exact h x hx
  · rw [hx]; exact hz


set_option maxHeartbeats 2000000 in
theorem DrawUndoFilter_c {C : Nat} {A : Option Addr} {n c : Nat} (w : World) (h : RdB C w A n c) (hC : C ≤ w.heap.size) :
    Calls Try.prog 30 #[.slice A n c] w (DrawUndoFilterd w) := by
  have H := hid (l20Open_c w h hC)
  clear h
  go_enter Try.func30, Try.ntmps30
  go_wp2_with fail
  refine H.out.mono ?_
  rintro e w1 ⟨rfl, r, b1, l1⟩
  clear H
  have gr := grown_alloc (World.grownBy.refl w1 (some w.heap.size)) (.cells #[.int .i64 1] 3)
  have OF := Own.made w1 #[.int .i64 1] [1] rfl rfl (by omega : 1 ≤ 4194304)
  have r := r.alloc (.cells #[.int .i64 1] 3)
  go_wp2_with fail
  refine (pick_c 4 _ r (by omega) (by omega) (by omega)).mono ?_
  rintro e w2 ⟨y, rfl, ⟨ya, yb⟩, r2, g2, s2⟩
  have t2 := g2.size
  simp only [World.size_alloc] at t2
  have OF := OF.apart g2 (fun k hk => by injection hk; omega)
  have gr := grown_trans gr g2
  obtain ⟨J, rfl⟩ := Int.eq_ofNat_of_zero_le ya
  clear g2 r s2
  go_wp2_with fail
  go_loopw [5, 6] (fun out i wr => ∃ (j : Nat) (o : List Int) (q : Nat), j ≤ 3 ∧ i = .int .i64 j ∧ (q + j ≤ 100 ∧ o.length + j ≤ 4 ∧ 1 ≤ o.length) ∧ Hid (∀ x ∈ o, (-1001 : Int) ≤ x ∧ x ≤ 1001) ∧ Own w1.heap.size wr.heap.size wr out o ∧ Rdr w.heap.size wr w.heap.size q ∧ w1.heap.size ≤ wr.heap.size ∧ w1.grownBy wr (some w.heap.size)) (fun _ i _ => (intOf i).toNat)
  case atStart => exact ⟨J, [1], _, by omega, rfl, ⟨by omega, by simp; omega, by simp⟩, fun x hx => by simp at hx; omega, OF.more (by omega), r2, by omega, gr⟩
  case round =>
    obtain ⟨j, of, q, hj, rfl, ⟨hq, hlen, hne⟩, hall, OF1, hr, hsz, hgr⟩ := hrel
    clear OF r2 gr
    by_cases hj0 : 0 < j
    · go_wp2_with fail
      refine (pick_c 3 _ hr (by omega) (by omega) (by omega)).mono ?_
      rintro e w11 ⟨a, rfl, ⟨a0, a1⟩, r11, g11, s11⟩
      have t11 := g11.size
      have ho2 := OF1.apart g11 (fun k hk => by injection hk; omega)
      have hgr2 := grown_trans hgr g11
      have hall2 := hid (snoc_in hall.out (show (-1001 : Int) ≤ a - 1 ∧ a - 1 ≤ 1001 by omega))
      clear OF1 hr hgr g11 s11
      go_wp2_with (at_builtin; refine wpl_appl intSl _ rfl (.tmp 18) (.tmp 22) rfl w1.heap.size wr.heap.size _ _ _ [a - 1] 1 rfl rfl rfl rfl ho2 t11 (by omega) (by omega) ?_; intro v' w12 ho3 g12)
      have t12 := g12.size
      have hr3 := r11.grown g12 (fun k hk => by have := ho2.lt k hk; omega)
      have hgr3 := grown_own hgr2 g12 (fun k hk => by have := ho2.lt k hk; omega)
      clear ho2 r11 hgr2 g12
      go_wp2
      go_roundw
      case rel => exact ⟨j - 1, of ++ [a - 1], _, by omega, by first | rfl | go_num | (congr 1; omega), ⟨by omega, by simp; omega, by simp⟩, hall2, ho3, hr3, by omega, hgr3⟩
      case measure => simp [intOf]; omega
    · obtain rfl : j = 0 := by omega
      obtain ⟨w3, rfl⟩ : ∃ x, x = wr := ⟨_, rfl⟩
      go_wp2_with fail
      refine (odd_c 9 _ hr (by omega) (by omega) (by omega)).mono ?_
      rintro e w4 ⟨bo, rfl, r, g4, s4⟩
      have t4 := g4.size
      have OF := OF1.apart g4 (fun k hk => by injection hk; omega)
      have gr := grown_trans hgr g4
      clear OF1 hr hgr g4 s4
      rcases OF.form with ⟨h0, _⟩ | ⟨gf, cf, rfl, gB, gC, gl, gm⟩
      · subst h0; simp at hne
      have hN1 : 0 < of.length := by omega
      have hN4 : of.length ≤ 4 := by omega
      clear hlen hne
      cases bo
      · obtain ⟨ol, rfl⟩ : ∃ x, x = of := ⟨_, rfl⟩
        have hallf := hall
        have hlf : ol.length ≤ 4 := hN4
        go_wp2_with fail
        refine (l20Sequence_c 9 14 _ r (by omega) (by omega) (by omega) (by omega)).mono ?_
        rintro e w8 ⟨v8, o8, rfl, O8, ⟨l8, h8⟩, r8, g8⟩
        have t8 := g8.size
        have OF := OF.apart g8 (fun k hk => by injection hk; omega)
        have gr := grown_trans gr g8
        clear g8 r
        go_wp2_with fail
        refine (pick_c 2 _ r8 (by omega) (by omega) (by omega)).mono ?_
        rintro e w9 ⟨z, rfl, ⟨za, zb⟩, r, g9, s9⟩
        have t9 := g9.size
        have OF := OF.apart g9 (fun k hk => by injection hk; omega)
        have O8 := O8.apart g9 (fun k hk => by injection hk; omega)
        have gr := grown_trans gr g9
        clear g9 r8 s9
        by_cases hz : z = 0
        case neg =>
          have hz' : (z == 0) = false := by simpa using hz
          have bb := b1.trans (below_of_grown gr (Nat.le_refl _) l1)
          clear hz
          go_wp2_with fail
          go_ret2
          exact ⟨_, _, _, _, rfl, O8.fit (by omega) (by omega), ⟨l8, h8⟩, OF.fit (by omega) (by omega), ⟨by omega, hallf.out⟩, bb⟩
        subst hz
        clear O8
        have OE := Own.empty w9
        have OF := OF.alloc (by omega) (.cells #[] 3)
        have r := r.alloc (.cells #[] 3)
        have gr := grown_alloc gr (.cells #[] 3)
        go_wp2_with fail
        refine (pick_c 9 _ r (by omega) (by omega) (by omega)).mono ?_
        rintro e w10 ⟨y, rfl, ⟨ya, yb⟩, r10, g10, s10⟩
        have t10 := g10.size
        simp only [World.size_alloc] at t10
        have OF := OF.apart g10 (fun k hk => by injection hk; omega)
        have OE := OE.apart g10 (fun k hk => by injection hk; omega)
        have gr := grown_trans gr g10
        obtain ⟨J, rfl⟩ := Int.eq_ofNat_of_zero_le ya
        clear g10 r s10
        go_wp2_with fail
        go_loopw [7, 8] (fun out i wr => ∃ (j : Nat) (o : List Int) (q : Nat), j ≤ 8 ∧ i = .int .i64 j ∧ (q + j ≤ 1000 ∧ o.length + j ≤ 60) ∧ Hid (∀ x ∈ o, (-1001 : Int) ≤ x ∧ x ≤ 1001) ∧ Own w9.heap.size wr.heap.size wr out o ∧ Own w1.heap.size w9.heap.size wr (.slice (some ⟨gf, 0, none⟩) ol.length cf) ol ∧ Rdr w.heap.size wr w.heap.size q ∧ w9.heap.size ≤ wr.heap.size ∧ w1.grownBy wr (some w.heap.size)) (fun _ i _ => (intOf i).toNat)
        case atStart => exact ⟨J, [], _, by omega, rfl, ⟨by omega, by simp; omega⟩, fun x hx => by simp at hx, OE.more (by omega), OF.more (by omega), r10, by omega, gr⟩
        case round =>
          obtain ⟨j, o, q, hj, rfl, ⟨hq, hlen⟩, hallo, ho, hof, hr, hsz, hgr⟩ := hrel
          clear OE OF r10 gr
          by_cases hj0 : 0 < j
          · go_wp2_with fail
            refine (pick_c 21 _ hr (by omega) (by omega) (by omega)).mono ?_
            rintro e w11 ⟨a, rfl, ⟨a0, a1⟩, r11, g11, s11⟩
            have t11 := g11.size
            have ho2 := ho.apart g11 (fun k hk => by injection hk; omega)
            have hof2 := hof.apart g11 (fun k hk => by injection hk; omega)
            have hgr2 := grown_trans hgr g11
            have hall2 := hid (snoc_in hallo.out (show (-1001 : Int) ≤ a - 10 ∧ a - 10 ≤ 1001 by omega))
            clear ho hof hr hgr g11 s11
            go_wp2_with (at_builtin; refine wpl_appl intSl _ rfl (.tmp 45) (.tmp 49) rfl w9.heap.size wr.heap.size _ _ _ [a - 10] 1 rfl rfl rfl rfl ho2 t11 (by omega) (by omega) ?_; intro v' w12 ho3 g12)
            have t12 := g12.size
            have hr3 := r11.grown g12 (fun k hk => by have := ho2.lt k hk; omega)
            have hof3 := hof2.apart g12 (fun k hk => by have := ho2.lt k hk; omega)
            have hgr3 := grown_own hgr2 g12 (fun k hk => by have := ho2.lt k hk; omega)
            clear ho2 hof2 r11 hgr2 g12
            go_wp2
            go_roundw
            case rel => exact ⟨j - 1, o ++ [a - 10], _, by omega, by first | rfl | go_num | (congr 1; omega), ⟨by omega, by simp; omega⟩, hall2, ho3, hof3, hr3, by omega, hgr3⟩
            case measure => simp [intOf]; omega
          · obtain rfl : j = 0 := by omega
            have bb := b1.trans (below_of_grown hgr (Nat.le_refl _) l1)
            go_wp2
            go_ret2
            exact ⟨_, _, _, _, rfl, ho.fit (by omega) (by omega), ⟨by omega, hallo.out⟩, hof.fit (by omega) (by omega), ⟨by omega, hallf.out⟩, bb⟩
      · have OT := Own.made w4 #[.int .i64 0, .int .i64 2, .int .i64 (-1)] [0, 2, -1] rfl rfl (by omega : 3 ≤ 4194304)
        have OF := OF.alloc (by omega) (.cells #[.int .i64 0, .int .i64 2, .int .i64 (-1)] 3)
        have r := r.alloc (.cells #[.int .i64 0, .int .i64 2, .int .i64 (-1)] 3)
        have gr := grown_alloc gr (.cells #[.int .i64 0, .int .i64 2, .int .i64 (-1)] 3)
        go_wp2_with fail
        refine (pick_c 3 _ r (by omega) (by omega) (by omega)).mono ?_
        rintro e w5 ⟨c, rfl, ⟨c0, c1⟩, r5, g5, s5⟩
        have t5 := g5.size
        simp only [World.size_alloc] at t5
        have OF := OF.apart g5 (fun k hk => by injection hk; omega)
        have OT := OT.apart g5 (fun k hk => by injection hk; omega)
        have gr := grown_trans gr g5
        obtain ⟨c, rfl⟩ := Int.eq_ofNat_of_zero_le c0
        clear g5 r s5
        have cc := OT.cell (k := c) (by simp; omega)
        have t3 := tab3 (k := c) (by omega)
        generalize ([0, 2, -1] : List Int).getD c 0 = z at cc t3
        have cF := OF.cell (k := 0) hN1
        have fF := OF.free 0
        have OF := OF.store 0 z
        have hallf := hid (set_in (k := 0) hall.out t3)
        have r := r5.keep (w' := w5.setCell ⟨gf, 0, none⟩ (.int .i64 z)) (fun b hb => Below.heap_setCell w5 ⟨gf, 0, none⟩ _ b (by simp; omega))
        have gr := grown_own gr (row := some gf) (c := w5.setCell ⟨gf, 0, none⟩ (.int .i64 z)) (grown_set (World.grownBy.refl w5 (some gf)) _) (fun i hi => by injection hi; omega)
        obtain ⟨ol, hol⟩ : ∃ ol, of.set 0 z = ol := ⟨_, rfl⟩
        have hlf : ol.length ≤ 4 := by rw [← hol, List.length_set]; exact hN4
        rw [hol] at OF hallf
        clear r5 OT hol
        have hs6 : (w5.setCell ⟨gf, 0, none⟩ (.int .i64 z)).heap.size = w5.heap.size := by simp
        go_wp2_with fail
        refine (l20Sequence_c 9 14 _ r (by omega) (by omega) (by omega) (by omega)).mono ?_
        rintro e w8 ⟨v8, o8, rfl, O8, ⟨l8, h8⟩, r8, g8⟩
        have t8 := g8.size
        have OF := OF.apart g8 (fun k hk => by injection hk; omega)
        have gr := grown_trans gr g8
        clear g8 r
        go_wp2_with fail
        refine (pick_c 2 _ r8 (by omega) (by omega) (by omega)).mono ?_
        rintro e w9 ⟨z, rfl, ⟨za, zb⟩, r, g9, s9⟩
        have t9 := g9.size
        have OF := OF.apart g9 (fun k hk => by injection hk; omega)
        have O8 := O8.apart g9 (fun k hk => by injection hk; omega)
        have gr := grown_trans gr g9
        clear g9 r8 s9
        by_cases hz : z = 0
        case neg =>
          have hz' : (z == 0) = false := by simpa using hz
          have bb := b1.trans (below_of_grown gr (Nat.le_refl _) l1)
          clear hz
          go_wp2_with fail
          go_ret2
          exact ⟨_, _, _, _, rfl, O8.fit (by omega) (by omega), ⟨l8, h8⟩, OF.fit (by omega) (by omega), ⟨by omega, hallf.out⟩, bb⟩
        subst hz
        clear O8
        have OE := Own.empty w9
        have OF := OF.alloc (by omega) (.cells #[] 3)
        have r := r.alloc (.cells #[] 3)
        have gr := grown_alloc gr (.cells #[] 3)
        go_wp2_with fail
        refine (pick_c 9 _ r (by omega) (by omega) (by omega)).mono ?_
        rintro e w10 ⟨y, rfl, ⟨ya, yb⟩, r10, g10, s10⟩
        have t10 := g10.size
        simp only [World.size_alloc] at t10
        have OF := OF.apart g10 (fun k hk => by injection hk; omega)
        have OE := OE.apart g10 (fun k hk => by injection hk; omega)
        have gr := grown_trans gr g10
        obtain ⟨J, rfl⟩ := Int.eq_ofNat_of_zero_le ya
        clear g10 r s10
        go_wp2_with fail
        go_loopw [7, 8] (fun out i wr => ∃ (j : Nat) (o : List Int) (q : Nat), j ≤ 8 ∧ i = .int .i64 j ∧ (q + j ≤ 1000 ∧ o.length + j ≤ 60) ∧ Hid (∀ x ∈ o, (-1001 : Int) ≤ x ∧ x ≤ 1001) ∧ Own w9.heap.size wr.heap.size wr out o ∧ Own w1.heap.size w9.heap.size wr (.slice (some ⟨gf, 0, none⟩) of.length cf) ol ∧ Rdr w.heap.size wr w.heap.size q ∧ w9.heap.size ≤ wr.heap.size ∧ w1.grownBy wr (some w.heap.size)) (fun _ i _ => (intOf i).toNat)
        case atStart => exact ⟨J, [], _, by omega, rfl, ⟨by omega, by simp; omega⟩, fun x hx => by simp at hx, OE.more (by omega), OF.more (by omega), r10, by omega, gr⟩
        case round =>
          obtain ⟨j, o, q, hj, rfl, ⟨hq, hlen⟩, hallo, ho, hof, hr, hsz, hgr⟩ := hrel
          clear OE OF r10 gr
          by_cases hj0 : 0 < j
          · go_wp2_with fail
            refine (pick_c 21 _ hr (by omega) (by omega) (by omega)).mono ?_
            rintro e w11 ⟨a, rfl, ⟨a0, a1⟩, r11, g11, s11⟩
            have t11 := g11.size
            have ho2 := ho.apart g11 (fun k hk => by injection hk; omega)
            have hof2 := hof.apart g11 (fun k hk => by injection hk; omega)
            have hgr2 := grown_trans hgr g11
            have hall2 := hid (snoc_in hallo.out (show (-1001 : Int) ≤ a - 10 ∧ a - 10 ≤ 1001 by omega))
            clear ho hof hr hgr g11 s11
            go_wp2_with (at_builtin; refine wpl_appl intSl _ rfl (.tmp 45) (.tmp 49) rfl w9.heap.size wr.heap.size _ _ _ [a - 10] 1 rfl rfl rfl rfl ho2 t11 (by omega) (by omega) ?_; intro v' w12 ho3 g12)
            have t12 := g12.size
            have hr3 := r11.grown g12 (fun k hk => by have := ho2.lt k hk; omega)
            have hof3 := hof2.apart g12 (fun k hk => by have := ho2.lt k hk; omega)
            have hgr3 := grown_own hgr2 g12 (fun k hk => by have := ho2.lt k hk; omega)
            clear ho2 hof2 r11 hgr2 g12
            go_wp2
            go_roundw
            case rel => exact ⟨j - 1, o ++ [a - 10], _, by omega, by first | rfl | go_num | (congr 1; omega), ⟨by omega, by simp; omega⟩, hall2, ho3, hof3, hr3, by omega, hgr3⟩
            case measure => simp [intOf]; omega
          · obtain rfl : j = 0 := by omega
            have bb := b1.trans (below_of_grown hgr (Nat.le_refl _) l1)
            go_wp2
            go_ret2
            exact ⟨_, _, _, _, rfl, ho.fit (by omega) (by omega), ⟨by omega, hallo.out⟩, hof.fit (by omega) (by omega), ⟨by omega, hallf.out⟩, bb⟩

end Go.Proofs.Ytebbljgmliikfaa
