/-
  The law FnWordTurn, walked: for every input the call returns true, and nothing that was there has changed.
-/
import Derived.Test.YtemokfjnbmncbaaDoorDrawWord
namespace Go.Proofs.YtemokfjnbmncbaaDoor
open Go.RowKit T

theorem turn_list {X : Nat → Nat} : [(X 14 : Int)] ++ (lsOf 15 X).take 14 = lsOf 15 (T.turn X) := by
  refine list_ext_getD (by simp [ls_length]) fun k hk => ?_
  have hk15 : k < 15 := by simpa [ls_length] using hk
  rw [ls_getD hk15]
  unfold T.turn
  by_cases h : k = 0
  · subst h; rfl
  · rw [if_neg h]
    obtain ⟨j, rfl⟩ : ∃ j, k = j + 1 := ⟨k - 1, by omega⟩
    show ((lsOf 15 X).take 14).getD j 0 = _
    rw [getD_take' (by omega), ls_getD (by omega), Nat.add_sub_cancel]
theorem turn_syn {xs : List Int} (h : dOk xs = true) : synL (lsOf 15 (T.turn (fnOf (encL xs)))) = [0, 0, 0, 0] := by
  have hc := turn_code (encL_code h).2
  have := code_ls hc
  exact (syn_zero this.1).2 this.2

set_option maxHeartbeats 2000000 in
theorem FnWordTurn_walk (a0 : Option Addr) (len0 cap0 : Nat) (z0 : List Int) (w : World) (T0 : TpowersOfTwo w) (T1 : Tlogarithms w) (T2 : TwordZeros w) (T3 : TwordGenerator w) (w0 : IsRow .u8 w a0 len0 cap0 z0) :
    Calls Tryd.prog 9 #[.slice a0 len0 cap0] w fun e w' => e = .returned (.bool true) ∧ Below w.heap.size w w' := by
  by_cases hl0 : len0 ≤ 1048576
  case neg =>
    have hl0' : 1048576 < len0 := by omega
    go_enter Tryd.func9, Tryd.ntmps9
    go_wp2
    go_ret
    exact ⟨rfl, Below.refl _ _⟩
  have B0 := w0.bytes
  have hc0 := B0.le
  have hm0 := B0.cap
  clear w0
  have z0_ := T0.lt
  have z1_ := T1.lt
  have z2_ := T2.lt
  have z3_ := T3.lt
  go_enter Tryd.func9, Tryd.ntmps9
  go_wp2_with fail
  refine (DrawEncodeWord_c _ B0 (Nat.le_refl _)).mono ?_
  rintro e w1 ⟨v1, xs, rfl, O, hxl, bb⟩
  have t1 := bb.size
  go_wp2_with fail
  refine (implEnc_c w1 (T0.below bb z0_) (T1.below bb z1_) (T3.below bb z3_) O.rd (Nat.le_refl _)).mono ?_
  rintro e w2 ⟨v2, rfl, X, b2⟩
  have t2 := b2.size
  have O := O.below b2 (Nat.le_refl _)
  have bb := bb.trans (b2.mono (by omega))
  go_wp2_with fail
  refine (specEnc_c w2 O.rd (by omega)).mono ?_
  rintro e w3 ⟨v3, rfl, Y, b3⟩
  have t3 := b3.size
  have O := O.below b3 (by omega)
  have X := X.below b3 (by omega)
  have bb := bb.trans (b3.mono (by omega))
  go_wp2_with fail
  refine (sameInts_t _ X.rd Y.rd).mono ?_
  rintro e w4 ⟨rfl, b4⟩
  have t4 := b4.size
  have O := O.below b4 (by omega)
  have X := X.below b4 (by omega)
  have bb := bb.trans (b4.mono (by omega))
  clear b2 b3 b4 Y
  cases hok : dOk xs with
  | false =>
    rw [encL_no hok] at X
    obtain ⟨A, m, c, rfl, Q⟩ := X.rd
    obtain rfl : m = 0 := by rw [← Q.len]; rfl
    clear Q hok X O
    go_wp2_with fail
    refine (alive_c _).mono ?_
    rintro e w5 ⟨rfl, b5⟩
    have bb := bb.trans (b5.mono (by omega))
    go_wp2_with fail
    go_ret
    exact ⟨rfl, bb⟩
  | true =>
    have hS := hid (turn_syn hok)
    have hW := encL_wOk hok
    have hX := ls_fn (wOk_iff.1 hW).1
    rw [(wOk_iff.1 hW).2] at hX
    rw [← hX] at X
    generalize fnOf (encL xs) = F at X hS
    clear hok hW hX O
    rcases X.form with ⟨hn, _⟩ | ⟨gf, cf, rfl, gB, gC, gl, gm'⟩
    · have := congrArg List.length hn
      rw [ls_length] at this; cases this
    rw [ls_length] at X gl ⊢
    obtain ⟨A', n', c', e, RR⟩ := X.rd
    injection e with e1 e2 e3
    subst e1 e2 e3
    have RT := RR.till (k := 14) (by omega)
    have RT : Rd w2.heap.size w4 (.slice (some ⟨gf, 0, none⟩) 14 cf) ((lsOf 15 F).take 14) := ⟨_, _, _, rfl, RT⟩
    have c14 := X.cell (k := 14) (by rw [ls_length]; decide)
    rw [ls_getD (by decide)] at c14
    have ic : (14 : Int) ≤ (cf : Int) := by omega
    have ic2 : 14 ≤ cf := by omega
    have ox := Own.made w4 #[.int .i64 (F 14 : Nat)] [(F 14 : Nat)] rfl rfl (by omega : 1 ≤ 4194304)
    have bx := (Below.refl w4.heap.size w4).alloc (Nat.le_refl _) (.cells #[.int .i64 (F 14 : Nat)] 3)
    have ox' : Own w4.heap.size (w4.heap.size + 1) (w4.alloc (.cells #[.int .i64 (F 14 : Nat)] 3)).drew (.slice (some ⟨w4.heap.size, 0, none⟩) 1 1) [((F 14 : Nat) : Int)] := ox.drewN 1
    have bx' : Below w4.heap.size w4 (w4.alloc (.cells #[.int .i64 (F 14 : Nat)] 3)).drew := below_drewN bx 1
    have sx := hid (show (w4.alloc (.cells #[.int .i64 (F 14 : Nat)] 3)).drew.heap.size = w4.heap.size + 1 by show (w4.alloc (.cells #[.int .i64 (F 14 : Nat)] 3)).heap.size = _; simp)
    have RT' := RT.below bx' (by omega)
    have HL := hid (show ((lsOf 15 F).take 14).length = 14 by rw [List.length_take, ls_length]; rfl)
    have HM := hid (turn_list (X := F))
    clear ox bx RR RT X
    go_wp2_with fail
    go_region_law (refine step_app intSl rfl (.tmp 25) (.tmp 27) rfl w4.heap.size _ _ _ _ [((F 14 : Nat) : Int)] ((lsOf 15 F).take 14) rfl rfl ox' RT' (by rw [HL.out]; simp) (by rw [sx.out]; omega) ?_; intro v5 w5 O5 g5)
    all_goals
      have s5 := g5.size
      rw [sx.out] at s5
      have b5 := bx'.grown g5 (by rw [sx.out]; omega) (fun q hq => (ox'.lt q hq).1)
      have bb := bb.trans (b5.mono (by omega))
      rw [HM.out] at O5
      clear g5 ox' bx' RT' b5
      have HSY := implSyn_c w5 (T0.below bb z0_) (T1.below bb z1_) (T2.below bb z2_) O5.rd (Nat.le_refl _)
      rw [hS.out] at HSY
      have HSY := hid HSY
      go_wp2_with fail
      refine HSY.out.mono ?_
      rintro e w6 ⟨v6, rfl, O6, b6⟩
      have t6 := b6.size
      have bb := bb.trans (b6.mono (by omega))
      have oz := (Own.made w6 #[.int .i64 0, .int .i64 0, .int .i64 0, .int .i64 0] [0, 0, 0, 0] rfl rfl (by omega : 4 ≤ 4194304)).rd
      have bz := (Below.refl w6.heap.size w6).alloc (Nat.le_refl _) (.cells #[.int .i64 0, .int .i64 0, .int .i64 0, .int .i64 0] 3)
      have O6 := O6.below bz (Nat.le_refl _)
      have bb := bb.trans (bz.mono (by omega))
      clear bz b6 HSY
      go_wp2_with fail
      refine (sameInts_t _ O6.rd oz).mono ?_
      rintro e w7 ⟨rfl, b7⟩
      have bb := bb.trans (b7.mono (by simp; omega))
      go_wp2_with fail
      go_ret
      exact ⟨rfl, bb⟩

end Go.Proofs.YtemokfjnbmncbaaDoor
