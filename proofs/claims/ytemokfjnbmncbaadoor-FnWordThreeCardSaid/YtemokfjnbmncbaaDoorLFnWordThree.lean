/-
  The law FnWordThree, walked: for every input the call returns true, and nothing that was there has changed.
-/
import Derived.Test.YtemokfjnbmncbaaDoorDecU
namespace Go.Proofs.YtemokfjnbmncbaaDoor
open Go.RowKit T

set_option maxHeartbeats 2000000 in
theorem FnWordThree_walk (a0 : Option Addr) (len0 cap0 : Nat) (z0 : List Int) (w : World) (T0 : TpowersOfTwo w) (T1 : Tlogarithms w) (T2 : TwordZeros w) (T3 : TwordGenerator w) (w0 : IsRow .u8 w a0 len0 cap0 z0) :
    Calls Tryd.prog 7 #[.slice a0 len0 cap0] w fun e w' => e = .returned (.bool true) ∧ Below w.heap.size w w' := by
  by_cases hl0 : len0 ≤ 1048576
  case neg =>
    have hl0' : 1048576 < len0 := by omega
    go_enter Tryd.func7, Tryd.ntmps7
    go_wp2
    go_ret
    exact ⟨rfl, Below.refl _ _⟩
  have B0 := w0.bytes
  have hc0 := B0.le
  have hm0 := B0.cap
  clear w0
  have z0_ := T0.lt
  have z1_ := T1.lt
  have z2_ := T2.lt
  have z3_ := T3.lt
  go_enter Tryd.func7, Tryd.ntmps7
  go_wp2_with fail
  refine (DrawEncodeWord_c _ B0 (Nat.le_refl _)).mono ?_
  rintro e w1 ⟨v1, xs, rfl, O, hxl, bb⟩
  have t1 := bb.size
  go_wp2_with fail
  refine (implEnc_c w1 (T0.below bb z0_) (T1.below bb z1_) (T3.below bb z3_) O.rd (Nat.le_refl _)).mono ?_
  rintro e w2 ⟨v2, rfl, X, b2⟩
  have t2 := b2.size
  have O := O.below b2 (Nat.le_refl _)
  have bb := bb.trans (b2.mono (by omega))
  go_wp2_with fail
  refine (specEnc_c w2 O.rd (by omega)).mono ?_
  rintro e w3 ⟨v3, rfl, Y, b3⟩
  have t3 := b3.size
  have O := O.below b3 (by omega)
  have X := X.below b3 (by omega)
  have bb := bb.trans (b3.mono (by omega))
  go_wp2_with fail
  refine (sameInts_t _ X.rd Y.rd).mono ?_
  rintro e w4 ⟨rfl, b4⟩
  have t4 := b4.size
  have O := O.below b4 (by omega)
  have X := X.below b4 (by omega)
  have bb := bb.trans (b4.mono (by omega))
  clear b2 b3 b4 Y
  cases hok : dOk xs with
  | false =>
    rw [encL_no hok] at X
    obtain ⟨A, m, c, rfl, Q⟩ := X.rd
    obtain rfl : m = 0 := by rw [← Q.len]; rfl
    clear Q hok X O
    go_wp2_with fail
    refine (alive_c _).mono ?_
    rintro e w5 ⟨rfl, b5⟩
    have bb := bb.trans (b5.mono (by omega))
    go_wp2_with fail
    go_ret
    exact ⟨rfl, bb⟩
  | true =>
    have hC := encL_code hok
    have hX := ls_fn (wOk_iff.1 hC.1).1
    rw [(wOk_iff.1 hC.1).2] at hX
    rw [← hX] at X hC
    generalize fnOf (encL xs) = F at X hC
    have hF := codeL_el hC
    obtain ⟨gx, cx, rfl, xB, xC, xl⟩ := row15 X
    have hE := (Own.empty w4).more (show w4.heap.size + 1 ≤ (w4.alloc (.cells #[] 3)).heap.size by simp)
    have bE := (Below.refl w4.heap.size w4).alloc (Nat.le_refl _) (.cells #[] 3)
    have oE := X.below bE (by omega)
    have hOx := ls_fn (dOk_iff.1 hok).1
    rw [(dOk_iff.1 hok).2] at hOx
    rw [← hOx] at O
    have hD := fn_el (dOk_iff.1 hok).1 11
    generalize fnOf xs = D at O hD
    clear hok hX hOx X
    go_wp2_with (at_builtin; refine wpl_append intSl _ rfl (.tmp 25) (.tmp 26) rfl w4.heap.size _ w2.heap.size _ _ [] _ rfl rfl hE oE.rd (by rw [ls_length]; decide) (by simp) ?_; intro v5 w5 o5 g5 _; rw [List.nil_append] at o5; have b5 := bE.trans (below_of_own hE g5 (Nat.le_refl _) (by simp)); have t5 := b5.size; have X := oE.apart g5 (fun k hk => .inr (by have := (hE.lt k hk).1; omega)); obtain ⟨g, cap, rfl, gB, gC, gl⟩ := row15 o5; have O5 := (O.below ((Below.refl w4.heap.size w4).alloc (Nat.le_refl _) (.cells #[] 3)) (by omega)).apart g5 (fun k hk => .inr (by have := (hE.lt k hk).1; omega)); clear hE bE oE g5)
    obtain ⟨gd, cd, rfl, dB, dC, dl⟩ := row11 O5
    clear O
    have b5 := hid b5
    go_loopw [6] (fun i wr => ∃ k : Nat, k ≤ 3 ∧ i = .int .i64 k ∧ Own w4.heap.size w5.heap.size wr (.slice (some ⟨g, 0, none⟩) 15 cap) (lsOf 15 (tw F D k)) ∧ w5.grownBy wr (some g)) (fun i _ => 3 - (intOf i).toNat)
    case atStart => exact ⟨0, by omega, rfl, o5, World.grownBy.refl _ _⟩
    case round =>
      obtain ⟨k, hk, rfl, ho, hg⟩ := hrel
      have zq := hg.size
      by_cases hlt : k < 3
      · have OD := O5.apart hg (fun i hi => by injection hi; omega)
        have c2 := OD.cell (k := k) (by rw [ls_length]; omega)
        rw [ls_getD (by omega)] at c2
        obtain ⟨K4, hK4⟩ : ∃ K4, K4 = 4 * k := ⟨_, rfl⟩
        obtain ⟨M, hM⟩ : ∃ M, M = D k % 15 := ⟨_, rfl⟩
        obtain ⟨A, hA⟩ : ∃ A, A = 1 + M := ⟨_, rfl⟩
        have hK15 : K4 < 15 := by omega
        have c1 := ho.cell (k := K4) (by rw [ls_length]; omega)
        rw [ls_getD (by omega)] at c1
        have c3 := ho.free K4
        have ho2 := ho.store K4 ((tw F D k K4 ^^^ A : Nat) : Int)
        rw [at1_set rfl] at ho2
        have eS : at1 (tw F D k) K4 A = tw F D (k + 1) := by rw [hK4, hA, hM]; rfl
        rw [eS] at ho2
        have hg2 := grown_set hg (i := K4) (.int .i64 ((tw F D k K4 ^^^ A : Nat) : Int))
        have hv := tw_el (D := D) hF k K4 hK15
        have hA16 : A < 16 := by omega
        have hDk := hD k (by omega)
        have FA := hid (fun V => FieldAdd_c (tw F D k K4) A V hv hA16)
        have eK : 4 * (k : Int) = (K4 : Int) := by omega
        have eM : ((D k : Nat) : Int) % 15 = (M : Int) := by omega
        have eA : 1 + (M : Int) = (A : Int) := by omega
        have i1 : (K4 : Int) < 15 := by omega
        have i2 : (k : Int) < 11 := by omega
        have hM15 : M < 15 := by omega
        have sK : IntKind.i64.wrap (K4 : Int) = (K4 : Int) := IntWalk.i64_in _ (by omega)
        have sM : IntKind.i64.wrap (M : Int) = (M : Int) := IntWalk.i64_in _ (by omega)
        have sA : IntKind.i64.wrap (A : Int) = (A : Int) := IntWalk.i64_in _ (by omega)
        have eT : Int.tmod ((D k : Nat) : Int) 15 = (M : Int) := by have := tmod_nat (D k) 15; rw [← hM] at this; exact this
        generalize tw F D k K4 = tv at c1 c3 ho2 hg2 hv FA
        generalize D k = dk at c2 eM eT hDk
        clear hM hA hK4 eS ho hg OD O5 o5
        go_wp2_with fail
        go_region_law (go_simp; go_at_call 26; (with_reducible refine (FA.out _).mono ?_); rintro e w' ⟨rfl, rfl⟩)
        all_goals
          clear sK sM sA eT eK eM eA
          go_wp2
          go_roundw
          case rel => exact ⟨k + 1, by omega, by go_num, ho2.keep (fun _ _ => rfl), hg2.os, hg2.tape, hg2.output, hg2.size, hg2.block⟩
          case measure => simp [intOf]; omega
      · obtain rfl : k = 3 := by omega
        have bb := bb.trans ((b5.out.trans (below_of_grown hg gB gC)).mono (by omega))
        have X := X.apart hg (fun i hi => by injection hi; omega)
        have hT3 := tw_el (D := D) hF 3
        have HDC := implDec_c wr (T0.below bb z0_) (T1.below bb z1_) (T2.below bb z2_) ho.rd (by omega)
        cases hdec : decL (lsOf 15 (tw F D 3)) with
        | none =>
          have DD := hid (decS_none HDC hdec)
          clear HDC hdec
          go_wp2_with fail
          refine DD.out.mono ?_
          rintro e w7 ⟨v7, rfl, O7, b7⟩
          have bb := bb.trans (b7.mono (by omega))
          go_wp2_with fail
          go_ret
          exact ⟨rfl, bb⟩
        | some ys =>
          have DD := hid (decS_some HDC hdec)
          obtain ⟨hne, hle⟩ := three_dec hC hdec
          have HNE := hid (eqB_ne hne)
          clear HDC hdec hne
          go_wp2_with fail
          refine DD.out.mono ?_
          rintro e w7 ⟨v7, rfl, O7, b7⟩
          have t7 := b7.size
          have bb := bb.trans (b7.mono (by omega))
          have X := X.below b7 (by omega)
          have ho := ho.below b7 (by omega)
          clear b7
          have S8 := sameInts_c w7 O7.rd X.rd
          rw [HNE.out] at S8
          have S8 := hid S8
          have D9 := hid (fun q => implDist_c (w7.drewN q) (O7.drewN q).rd (ho.drewN q).rd)
          generalize distL ys (lsOf 15 (tw F D 3)) = dst at hle D9
          clear O7 X ho
          go_wp2_with fail
          refine S8.out.mono ?_
          rintro e w8 ⟨rfl, q8, rfl⟩
          go_wp2_with fail
          refine (D9.out _).mono ?_
          rintro e w9 ⟨rfl, q9, rfl⟩
          go_wp2_with fail
          go_ret
          exact ⟨rfl, below_drewN bb _⟩

end Go.Proofs.YtemokfjnbmncbaaDoor
