/-
  The drawn inputs of the law on distances of words: two lists.
-/
import Derived.Test.YtemokfjnbmncbaaDoorDrawWord
namespace Go.Proofs.YtemokfjnbmncbaaDoor
open Go.RowKit

def DrawnO2 (m : Nat) (w : World) (e : Ending) (w' : World) : Prop :=
  ∃ v u o q, e = .returned (.tuple #[v, u]) ∧ Own w.heap.size w'.heap.size w' v o ∧ Own w.heap.size w'.heap.size w' u q ∧ (o.length ≤ m ∧ q.length ≤ m) ∧ Below w.heap.size w w'
set_option maxHeartbeats 2000000 in
theorem DrawWordDistance_c {C : Nat} {A : Option Addr} {n c : Nat} (w : World) (h : RdB C w A n c) (hC : C ≤ w.heap.size) :
    Calls Tryd.prog 29 #[.slice A n c] w (DrawnO2 16 w) := by
  have H := hid (l20Open_c w h hC)
  clear h
  go_enter Tryd.func29, Tryd.ntmps29
  go_wp2_with fail
  refine H.out.mono ?_
  rintro e w1 ⟨rfl, r1, b1, l1⟩
  go_wp2_with fail
  refine (l20Word_c _ _ r1 (by omega) (by omega) (by omega)).mono ?_
  rintro e w2 ⟨v, o, rfl, o2, l2, r2, g2⟩
  have s2 := g2.size
  have hE := (Own.empty w2).more (show w2.heap.size + 1 ≤ (w2.alloc (.cells #[] 3)).heap.size by simp)
  have bE := (Below.refl w2.heap.size w2).alloc (Nat.le_refl _) (.cells #[] 3)
  have oE := o2.below bE (Nat.le_refl _)
  have rE := r2.alloc (.cells #[] 3)
  have gE := grown_alloc g2 (.cells #[] 3)
  clear o2 r2 g2 H
  go_wp2_with (at_builtin; refine wpl_append intSl _ rfl (.tmp 12) (.tmp 13) rfl w2.heap.size _ w2.heap.size _ _ [] _ rfl rfl hE oE.rd (by simp; omega) (by simp) ?_; intro v3 w3 o3 g3 _; rw [List.nil_append] at o3; have s3 := g3.size; have oA := oE.apart g3 (fun k hk => .inr (hE.lt k hk).1); have r3 := rE.grown g3 (fun k hk => by have := hE.lt k hk; omega); have gr3 := grown_own gE g3 (fun k hk => by have := hE.lt k hk; omega); clear hE bE oE rE gE g3)
  have s3' : w2.heap.size ≤ w3.heap.size := by simp at s3; omega
  refine (pick_c _ _ r3 (by omega) (by omega) (by omega)).mono ?_
  rintro e w4 ⟨a, rfl, ⟨a0, a1⟩, r4, g4, s4⟩
  have o4 := (o3.apart g4 (fun k hk => by injection hk; omega)).more g4.size
  have oA4 := oA.apart g4 (fun k hk => by injection hk; omega)
  have gr4 := grown_trans gr3 g4
  obtain ⟨a, rfl⟩ := Int.eq_ofNat_of_zero_le a0
  have S4 := hid s4
  have z4 := g4.size
  clear o3 oA r3 gr3 g4 s4
  go_wp2_with fail
  go_loopw [7] (fun i wr => ∃ (j : Nat) (zs : List Int) (q : Nat), j ≤ 6 ∧ i = .int .i64 j ∧ q + 2 * j ≤ 100 ∧ Hid (zs.length = o.length) ∧ Own w2.heap.size wr.heap.size wr v3 zs ∧ Own w1.heap.size w2.heap.size wr v o ∧ Rdr w.heap.size wr w.heap.size q ∧ w1.grownBy wr (some w.heap.size) ∧ w2.heap.size ≤ wr.heap.size) (fun i _ => (intOf i).toNat)
  case atStart => exact ⟨a, o, _, by omega, rfl, by omega, rfl, o4, oA4, r4, gr4, by omega⟩
  case round =>
    rename_i wr
    obtain ⟨j, zs, q, hj, rfl, hq, hL, ho, hoA, hr, hgr, hs2⟩ := hrel
    clear o4 oA4 r4 gr4
    have hsz := hgr.size
    by_cases hgo : 0 < j ∧ 0 < zs.length
    · obtain ⟨hj0, hz0⟩ := hgo
      rcases ho.form with ⟨hnil, _⟩ | ⟨gf, cf, rfl, gB, gC, gl, gm'⟩
      · rw [hnil] at hz0; simp at hz0
      have hz0' : (0 : Int) < (zs.length : Int) := by omega
      have hzl : zs.length ≤ 16 := by have := hL.out; omega
      go_wp2_with fail
      refine (pick_c _ _ hr (by omega) (by omega) (by omega)).mono ?_
      rintro e w4 ⟨x, rfl, ⟨x0, x1⟩, r4, g4, s4⟩
      obtain ⟨x, rfl⟩ := Int.eq_ofNat_of_zero_le x0
      have o4 := (ho.apart g4 (fun k hk => by injection hk; omega)).more g4.size
      have oA4 := hoA.apart g4 (fun k hk => by injection hk; omega)
      have gr4 := grown_trans hgr g4
      have S4 := hid s4
      clear ho hoA hr hgr g4 s4
      go_wp2_with fail
      refine (pick_c _ _ r4 (by omega) (by omega) (by omega)).mono ?_
      rintro e w5 ⟨y, rfl, ⟨y0, y1⟩, r5, g5, s5⟩
      have o5 := (o4.apart g5 (fun k hk => by injection hk; omega)).more g5.size
      have oA5 := oA4.apart g5 (fun k hk => by injection hk; omega)
      have gr5 := grown_trans gr4 g5
      have S5 := hid s5
      clear o4 oA4 r4 gr4 g5 s5
      have hx15 : x < zs.length := by omega
      have cF := o5.cell (k := x) hx15
      have fF := o5.free x
      have o6 := o5.store x y
      have gst := grown_set (World.grownBy.refl w5 (some gf)) (i := x) (.int .i64 y)
      have oA6 := oA5.apart gst (fun k hk => by injection hk; omega)
      have r6 := r5.keep (w' := w5.setCell ⟨gf, x, none⟩ (.int .i64 y)) (fun b hb => Below.heap_setCell w5 ⟨gf, x, none⟩ _ b (by simp; omega))
      have gr6 := grown_own gr5 (row := some gf) (c := w5.setCell ⟨gf, x, none⟩ (.int .i64 y)) gst (fun i hi => by injection hi; omega)
      have hl6 : Hid ((zs.set x y).length = o.length) := by show _ = _; rw [List.length_set]; exact hL.out
      rw [show (zs.set x y).length = zs.length from List.length_set ..] at hl6
      have o6' : Own w2.heap.size (w5.setCell ⟨gf, x, none⟩ (.int .i64 y)).heap.size (w5.setCell ⟨gf, x, none⟩ (.int .i64 y)) (.slice (some ⟨gf, 0, none⟩) zs.length cf) (zs.set x y) := o6.fit (Nat.le_refl _) (by simp)
      clear o5 oA5 r5 gr5 gst
      go_wp2
      go_roundw
      case rel => exact ⟨j - 1, _, _, by omega, by go_num, by omega, by show _ = _; rw [List.length_set]; exact hL.out, o6', oA6, r6, gr6, by rw [World.size_setCell]; have := S5.out; have := S4.out; omega⟩
      case measure => simp [intOf]; omega
    · have fin : ∀ wq : World, Own w2.heap.size wq.heap.size wq v3 zs → Own w1.heap.size w2.heap.size wq v o → w1.grownBy wq (some w.heap.size) → w2.heap.size ≤ wq.heap.size → DrawnO2 16 w (.returned (.tuple #[v, v3])) wq := fun wq k1 k2 k3 k4 =>
        ⟨v, v3, o, zs, rfl, k2.fit (by omega) (by have := k3.size; omega), k1.fit (by omega) (Nat.le_refl _), ⟨l2, by rw [hL.out]; exact l2⟩, b1.trans (below_of_grown k3 (Nat.le_refl _) l1)⟩
      have FIN := hid fin
      have hv3 : ∃ A3 n3 c3, v3 = .slice A3 n3 c3 ∧ n3 = zs.length := by
        obtain ⟨A3, n3, c3, e, R3⟩ := ho.rd
        exact ⟨A3, n3, c3, e, R3.len.symm⟩
      obtain ⟨A3, n3, c3, rfl, hn3⟩ := hv3
      have hcase : j = 0 ∨ (0 < j ∧ n3 = 0) := by omega
      have HN3 := hid hn3
      clear fin hgo hn3
      rcases hcase with rfl | ⟨hj0, rfl⟩
      all_goals
        go_wp2_with fail
        refine (odd_c _ _ hr (by omega) (by omega) (by omega)).mono ?_
        rintro e w4 ⟨bo, rfl, r4, g4, s4⟩
        have o4 := (ho.apart g4 (fun k hk => by injection hk; omega)).more g4.size
        have oA4 := hoA.apart g4 (fun k hk => by injection hk; omega)
        have gr4 := grown_trans hgr g4
        have S4 := hid s4
        have sz4 := gr4.size
        clear ho hoA hr hgr g4 s4
        cases bo
        · go_wp2_with fail
          go_ret2
          exact FIN.out _ o4 oA4 gr4 (by have := S4.out; omega)
        · clear FIN
          go_wp2_with fail
          refine (l20Word_c _ _ r4 (by omega) (by omega) (by omega)).mono ?_
          rintro e w5 ⟨v5, ws, rfl, o5, l5, r5, g5⟩
          have gr5 := grown_trans gr4 g5
          have oA5 := oA4.apart g5 (fun k hk => by injection hk; omega)
          go_wp2_with fail
          go_ret2
          exact ⟨v, v5, o, ws, rfl, oA5.fit (by omega) (by have := g5.size; have := S4.out; omega), o5.fit (by omega) (Nat.le_refl _), ⟨l2, l5⟩, b1.trans (below_of_grown gr5 (Nat.le_refl _) l1)⟩

end Go.Proofs.YtemokfjnbmncbaaDoor
