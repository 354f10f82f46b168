/-
  The law FnInterleavedBurst, walked: for every input the call returns true, and nothing that was there has changed.
-/
import Derived.Test.YtokgonhfmidbeaaDoorBlockL
import Derived.Test.YtokgonhfmidbeaaDoorDrawBlock
namespace Go.Proofs.YtokgonhfmidbeaaDoor
open Go.RowKit

theorem specEncB {C : Nat} {v : Value} {xs : List Int} (w : World) (h : Rd C w v xs) (hC : C ≤ w.heap.size) :
    Calls Tryd.prog 7 #[v] w fun e w' => ∃ v', e = .returned v' ∧ Own w.heap.size w'.heap.size w' v' (encB xs) ∧ Below w.heap.size w w' := by
  cases hok : blOk xs with
  | false => exact specEncB_no w h hC hok
  | true => exact specEncB_c w h hC hok
theorem encB_count (xs : List Int) : ∃ G, (encB xs).length = 7 * G ∧ (1 ≤ G → blOk xs = true ∧ xs.length = 4 * G ∧ encB xs = encTo xs G) ∧ G ≤ 128 := by
  cases hok : blOk xs with
  | false => exact ⟨0, by rw [encB_no hok]; rfl, by omega, by omega⟩
  | true =>
    have := (blOk_iff.1 hok).2
    exact ⟨xs.length / 4, by rw [encB_yes hok, encTo_length], fun _ => ⟨rfl, by omega, encB_yes hok⟩, by omega⟩

set_option maxHeartbeats 4000000 in
theorem FnInterleavedBurst_walk (a0 : Option Addr) (len0 cap0 : Nat) (z0 : List Int) (a1 : Option Addr) (len1 cap1 : Nat) (z1 : List Int) (w : World) (T0 : TdataPlaces w) (T1 : TcheckMasks w) (w0 : IsRow .u8 w a0 len0 cap0 z0) (w1 : IsRow .u8 w a1 len1 cap1 z1) :
    Calls Tryd.prog 3 #[.slice a0 len0 cap0, .slice a1 len1 cap1] w fun e w' => e = .returned (.bool true) ∧ Below w.heap.size w w' := by
  by_cases hl0 : len0 ≤ 1048576
  case neg =>
    have hl0' : 1048576 < len0 := by omega
    go_enter Tryd.func3, Tryd.ntmps3
    go_wp2
    go_ret
    exact ⟨rfl, Below.refl _ _⟩
  by_cases hl1 : len1 ≤ 1048576
  case neg =>
    have hl1' : 1048576 < len1 := by omega
    go_enter Tryd.func3, Tryd.ntmps3
    go_wp2
    go_ret
    exact ⟨rfl, Below.refl _ _⟩
  have B0 := w0.bytes
  have hc0 := B0.le
  have hm0 := B0.cap
  clear w0
  have B1 := w1.bytes
  have hc1 := B1.le
  have hm1 := B1.cap
  clear w1
  have z0_ := T0.lt
  have z1_ := T1.lt
  go_enter Tryd.func3, Tryd.ntmps3
  go_wp2_with fail
  refine (DrawEncodeBlocks_c _ B0 (Nat.le_refl _)).mono ?_
  rintro e w1 ⟨v1, xs, rfl, O, hxl, bb⟩
  have t1 := bb.size
  go_wp2_with fail
  refine (implEncB_c w1 (T0.below bb z0_) (T1.below bb z1_) O.rd (Nat.le_refl _)).mono ?_
  rintro e w2 ⟨v2, rfl, X, b2⟩
  have t2 := b2.size
  have O := O.below b2 (Nat.le_refl _)
  have bb := bb.trans (b2.mono (by omega))
  go_wp2_with fail
  refine (specEncB w2 O.rd (by omega)).mono ?_
  rintro e w3 ⟨v3, rfl, Y, b3⟩
  have t3 := b3.size
  have O := O.below b3 (by omega)
  have X := X.below b3 (by omega)
  have bb := bb.trans (b3.mono (by omega))
  go_wp2_with fail
  refine (sameInts_t _ X.rd Y.rd).mono ?_
  rintro e w4 ⟨rfl, b4⟩
  have t4 := b4.size
  have O := O.below b4 (by omega)
  have X := X.below b4 (by omega)
  have bb := bb.trans (b4.mono (by omega))
  clear b2 b3 b4 Y
  obtain ⟨G, hG, hok, hG128⟩ := encB_count xs
  obtain ⟨A, m, c, rfl, Q⟩ := X.rd
  obtain rfl : m = 7 * G := by rw [← Q.len]; exact hG
  have e7 : ((7 * G : Nat) : Int) = 7 * (G : Int) := by omega
  have d7 : Int.tdiv (7 * (G : Int)) 7 = (G : Int) := by have := tdiv_nat (7 * G) 7; rw [show 7 * G / 7 = G by omega] at this; rw [← e7]; exact this
  have hQle := Q.le
  have hQc := Q.cap
  clear Q
  by_cases hG1 : 1 ≤ G
  case neg =>
    obtain rfl : G = 0 := by omega
    clear hok hG X O e7 d7 hQle hQc hG128 hG1
    rw [Nat.mul_zero]
    go_wp2_with fail
    refine (alive_c _).mono ?_
    rintro e w5 ⟨rfl, b5⟩
    have bb := bb.trans (b5.mono (by omega))
    go_wp2_with fail
    go_ret
    exact ⟨rfl, bb⟩
  by_cases hG2 : G ≤ 32
  case neg =>
    have g1 : ¬ ((G : Int) < 1) := by omega
    have g2 : (32 : Int) < (G : Int) := by omega
    clear hok hG X O
    go_wp2_with fail
    refine (alive_c _).mono ?_
    rintro e w5 ⟨rfl, b5⟩
    have bb := bb.trans (b5.mono (by omega))
    go_wp2_with fail
    go_ret
    exact ⟨rfl, bb⟩
  obtain ⟨hok, hx4, hE⟩ := hok hG1
  have hbits := (blOk_iff.1 hok).1
  rw [hE] at X
  have ITB := enc_tab hbits hG1 hG2
  have H5 := implInter_c w4 (G : Int) X.rd (by omega)
  rw [inter_yes ITB, Int.toNat_natCast] at H5
  have H5 := hid H5
  have HBT := hid hbits
  have g1 : ¬ ((G : Int) < 1) := by omega
  have g2 : ¬ ((32 : Int) < (G : Int)) := by omega
  clear hok hE ITB hG hbits X
  go_wp2_with fail
  refine H5.out.mono ?_
  rintro e w5 ⟨v5, rfl, Y, b5⟩
  have t5 := b5.size
  have O := O.below b5 (by omega)
  have bb := bb.trans (b5.mono (by omega))
  clear H5 b5
  have hyl : (interN (encTo xs G) G).length = 7 * G := by rw [interN_length, encTo_length]
  rcases Y.form with ⟨hn, _⟩ | ⟨g, cap, rfl, gB, gC, gl, gm⟩
  · rw [hn] at hyl; simp at hyl; omega
  rw [hyl] at Y gl ⊢
  obtain ⟨a, ha, hale⟩ : ∃ a : Nat, Int.tmod (len1 : Int) (7 * (G : Int) - (G : Int) + 1) = (a : Int) ∧ a ≤ 6 * G := by
    have e : (7 * (G : Int) - (G : Int) + 1) = ((6 * G + 1 : Nat) : Int) := by omega
    refine ⟨len1 % (6 * G + 1), by rw [e]; exact tmod_nat _ _, ?_⟩
    have := Nat.mod_lt len1 (show 0 < 6 * G + 1 by omega)
    omega
  have ne0 : (7 * (G : Int) - (G : Int) + 1 == 0) = false := by simp; omega
  have ne1 : ¬ (7 * (G : Int) - (G : Int) + 1 = 0) := by omega
  go_wp2_with fail
  clear ha ne0 ne1
  have HX4 := hid hx4
  have hYL := hid hyl
  have hYO := Y.more (Nat.le_refl _)
  rw [← fl_start (interN (encTo xs G) G) a] at Y
  clear hYO hx4 hyl hQle hQc
  go_loopw [10] (fun i wr => ∃ k : Nat, a ≤ k ∧ k ≤ a + G ∧ i = .int .i64 k ∧ Own w4.heap.size w5.heap.size wr (.slice (some ⟨g, 0, none⟩) (7 * G) cap) (fl (interN (encTo xs G) G) a k) ∧ w5.grownBy wr (some g)) (fun i _ => a + G - (intOf i).toNat)
  case atStart => exact ⟨a, Nat.le_refl _, by omega, rfl, Y, World.grownBy.refl _ _⟩
  case round =>
    obtain ⟨k, hk1, hk2, rfl, ho, hg⟩ := hrel
    clear Y
    by_cases hlt : k < a + G
    · have c1 := ho.cell (k := k) (by rw [fl_length, hYL.out]; omega)
      rw [fl_at _ (by rw [hYL.out]; omega)] at c1
      have c3 := ho.free k
      have ho2 := ho.store k (1 - (interN (encTo xs G) G).getD k 0)
      rw [fl_step _ hk1] at ho2
      have hg2 := grown_set hg (i := k) (.int .i64 (1 - (interN (encTo xs G) G).getD k 0))
      have hx01 : (interN (encTo xs G) G).getD k 0 = 0 ∨ (interN (encTo xs G) G).getD k 0 = 1 := by
        have := fl_tab HBT.out hG1 hG2 (a := k) k
        rw [fl_start] at this
        exact bitsOk_at (tab_parts this).choose_spec.choose_spec.2.2.2.2.2 k
      generalize (interN (encTo xs G) G).getD k 0 = x at *
      have i1 : (k : Int) < (a : Int) + (G : Int) := by omega
      have i2 : (k : Int) < 7 * (G : Int) := by omega
      clear ho hg O
      go_wp2
      go_roundw
      case rel => exact ⟨k + 1, by omega, by omega, by go_num, ho2, hg2⟩
      case measure => simp [intOf]; omega
    · obtain rfl : k = a + G := by omega
      have hsz := hg.size
      have O := O.apart hg (fun i hi => by injection hi; omega)
      have bb := bb.trans (below_of_grown hg (by omega) (by omega))
      have H6 := implDeint_c wr (G : Int) ho.rd (by omega)
      rw [deinter_yes (fl_tab HBT.out hG1 hG2 _), Int.toNat_natCast] at H6
      have H6 := hid H6
      have i1 : ¬ ((a : Int) + (G : Int) < (a : Int) + (G : Int)) := by omega
      clear ho hg
      go_wp2_with fail
      refine H6.out.mono ?_
      rintro e w6 ⟨v6, rfl, Z, b6⟩
      have t6 := b6.size
      have O := O.below b6 (by omega)
      have bb := bb.trans (b6.mono (by omega))
      have H7 := hid (DecodeBlocks_c w6 (T0.below bb z0_) (show Rd _ w6 v6 (bu xs G a) from Z.rd) (Nat.le_refl _) HBT.out HX4.out (bu_bits HBT.out hG1 hG128) (bu_length _ _ _) hG128 (bu_hurt hG1 hale))
      clear H6 b6 Z
      go_wp2_with fail
      refine H7.out.mono ?_
      rintro e w7 ⟨v7, rfl, R, b7⟩
      have t7 := b7.size
      have O := O.below b7 (by omega)
      have bb := bb.trans (b7.mono (by omega))
      clear H7 b7
      go_wp2_with fail
      refine (sameInts_t _ R.rd O.rd).mono ?_
      rintro e w8 ⟨rfl, b8⟩
      have bb := bb.trans (b8.mono (by omega))
      go_wp2_with fail
      go_ret
      exact ⟨rfl, bb⟩

end Go.Proofs.YtokgonhfmidbeaaDoor
