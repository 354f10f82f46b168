/-
  The law FnWordOne, walked: for every input the call returns true, and nothing that was there has changed.
-/
import Derived.Test.YtemokfjnbmncbaaDoorDecU
namespace Go.Proofs.YtemokfjnbmncbaaDoor
open Go.RowKit T

set_option maxHeartbeats 2000000 in
theorem FnWordOne_walk (a0 : Option Addr) (len0 cap0 : Nat) (z0 : List Int) (a1 : Option Addr) (len1 cap1 : Nat) (z1 : List Int) (w : World) (T0 : TpowersOfTwo w) (T1 : Tlogarithms w) (T2 : TwordZeros w) (T3 : TwordGenerator w) (w0 : IsRow .u8 w a0 len0 cap0 z0) (w1 : IsRow .u8 w a1 len1 cap1 z1) :
    Calls Tryd.prog 6 #[.slice a0 len0 cap0, .slice a1 len1 cap1] w fun e w' => e = .returned (.bool true) ∧ Below w.heap.size w w' := by
  by_cases hl0 : len0 ≤ 1048576
  case neg =>
    have hl0' : 1048576 < len0 := by omega
    go_enter Tryd.func6, Tryd.ntmps6
    go_wp2
    go_ret
    exact ⟨rfl, Below.refl _ _⟩
  by_cases hl1 : len1 ≤ 1048576
  case neg =>
    have hl1' : 1048576 < len1 := by omega
    go_enter Tryd.func6, Tryd.ntmps6
    go_wp2
    go_ret
    exact ⟨rfl, Below.refl _ _⟩
  have B0 := w0.bytes
  have hc0 := B0.le
  have hm0 := B0.cap
  clear w0
  have B1 := w1.bytes
  have hc1 := B1.le
  have hm1 := B1.cap
  clear w1
  have z0_ := T0.lt
  have z1_ := T1.lt
  have z2_ := T2.lt
  have z3_ := T3.lt
  go_enter Tryd.func6, Tryd.ntmps6
  go_wp2_with fail
  refine (DrawEncodeWord_c _ B0 (Nat.le_refl _)).mono ?_
  rintro e w1 ⟨v1, xs, rfl, O, hxl, bb⟩
  have t1 := bb.size
  go_wp2_with fail
  refine (implEnc_c w1 (T0.below bb z0_) (T1.below bb z1_) (T3.below bb z3_) O.rd (Nat.le_refl _)).mono ?_
  rintro e w2 ⟨v2, rfl, X, b2⟩
  have t2 := b2.size
  have O := O.below b2 (Nat.le_refl _)
  have bb := bb.trans (b2.mono (by omega))
  go_wp2_with fail
  refine (specEnc_c w2 O.rd (by omega)).mono ?_
  rintro e w3 ⟨v3, rfl, Y, b3⟩
  have t3 := b3.size
  have O := O.below b3 (by omega)
  have X := X.below b3 (by omega)
  have bb := bb.trans (b3.mono (by omega))
  go_wp2_with fail
  refine (sameInts_t _ X.rd Y.rd).mono ?_
  rintro e w4 ⟨rfl, b4⟩
  have t4 := b4.size
  have O := O.below b4 (by omega)
  have X := X.below b4 (by omega)
  have bb := bb.trans (b4.mono (by omega))
  clear b2 b3 b4 Y
  cases hok : dOk xs with
  | false =>
    rw [encL_no hok] at X
    obtain ⟨A, m, c, rfl, Q⟩ := X.rd
    obtain rfl : m = 0 := by rw [← Q.len]; rfl
    clear Q hok X O
    go_wp2_with fail
    refine (alive_c _).mono ?_
    rintro e w5 ⟨rfl, b5⟩
    have bb := bb.trans (b5.mono (by omega))
    go_wp2_with fail
    go_ret
    exact ⟨rfl, bb⟩
  | true =>
    have hC := encL_code hok
    have hX := ls_fn (wOk_iff.1 hC.1).1
    rw [(wOk_iff.1 hC.1).2] at hX
    rw [← hX] at X hC
    generalize fnOf (encL xs) = F at X hC
    have hF := codeL_el hC
    obtain ⟨gx, cx, rfl, xB, xC, xl⟩ := row15 X
    have hE := (Own.empty w4).more (show w4.heap.size + 1 ≤ (w4.alloc (.cells #[] 3)).heap.size by simp)
    have bE := (Below.refl w4.heap.size w4).alloc (Nat.le_refl _) (.cells #[] 3)
    have oE := X.below bE (by omega)
    clear hok hX O X
    obtain ⟨K, hK⟩ : ∃ K, K = len1 % 15 := ⟨_, rfl⟩
    obtain ⟨M, hM⟩ : ∃ M, M = len1 / 15 % 15 := ⟨_, rfl⟩
    obtain ⟨V, hV⟩ : ∃ V, V = (F K + 1 + M) % 16 := ⟨_, rfl⟩
    have hK15 : K < 15 := by omega
    have hM15 : M < 15 := by omega
    have hV16 : V < 16 := by omega
    have fk := hF K hK15
    have e15 : (len1 : Int) % 15 = (K : Int) := by omega
    have eM : (len1 : Int) / 15 % 15 = (M : Int) := by omega
    have eV : ((F K : Nat) + 1 + (M : Int)) % 16 = (V : Int) := by omega
    have iK : (K : Int) < 15 := by omega
    have l1' : (len1 : Int) ≤ 1048576 := by omega
    clear hK hM hV
    go_wp2_with (at_builtin; refine wpl_append intSl _ rfl (.tmp 32) (.tmp 33) rfl w4.heap.size _ w2.heap.size _ _ [] _ rfl rfl hE oE.rd (by rw [ls_length]; decide) (by simp) ?_; intro v5 w5 o5 g5 _; rw [List.nil_append] at o5; have b5 := bE.trans (below_of_own hE g5 (Nat.le_refl _) (by simp)); have t5 := b5.size; have X := oE.apart g5 (fun k hk => .inr (by have := (hE.lt k hk).1; omega)); obtain ⟨g, cap, rfl, gB, gC, gl⟩ := row15 o5; have cw := o5.cell (k := K) (by rw [ls_length]; omega); rw [ls_getD (by omega)] at cw; have cf := o5.free K; clear hE bE oE g5)
    have o6 := o5.store K ((V : Nat) : Int)
    rw [ls_set] at o6
    have g6 := grown_set (World.grownBy.refl w5 (some g)) (i := K) (.int .i64 ((V : Nat) : Int))
    generalize w5.setCell ⟨g, K, none⟩ (.int .i64 ((V : Nat) : Int)) = w6 at *
    have t6 : w5.heap.size ≤ w6.heap.size := g6.size
    have X := X.apart g6 (fun k hk => by injection hk; omega)
    have bb := bb.trans ((b5.trans (below_of_grown g6 gB gC)).mono (by omega))
    have hEX : El 15 (fun k => if k = K then V else F k) := fun k hk => by
      show (if k = K then V else F k) < 16
      split
      · exact hV16
      · exact hF k hk
    have HD := dec_change (i := K) (j := K) hC hEX hK15 hK15 (fun k _ h _ => if_neg h)
    have DD := hid (decS_some (implDec_c w6 (T0.below bb z0_) (T1.below bb z1_) (T2.below bb z2_) o6.rd (by omega)) HD)
    clear HD cw cf o5 g6 hC hF fk
    refine DD.out.mono ?_
    rintro e w7 ⟨v7, rfl, O7, b7⟩
    have t7 := b7.size
    have X := X.below b7 (by omega)
    have bb := bb.trans (b7.mono (by omega))
    clear DD b7
    go_wp2_with fail
    refine (sameInts_t _ O7.rd X.rd).mono ?_
    rintro e w8 ⟨rfl, b8⟩
    have bb := bb.trans (b8.mono (by omega))
    go_wp2_with fail
    go_ret
    exact ⟨rfl, bb⟩

end Go.Proofs.YtemokfjnbmncbaaDoor
