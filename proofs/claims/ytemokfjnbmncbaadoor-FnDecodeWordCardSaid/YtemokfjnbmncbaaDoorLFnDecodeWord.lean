/-
  The law FnDecodeWord, walked: for every input the call returns true, and nothing that was there has changed.
-/
import Derived.Test.YtemokfjnbmncbaaDoorDecU
namespace Go.Proofs.YtemokfjnbmncbaaDoor
open Go.RowKit T

/-- the words that differ from F in at most the places that are met in m rounds -/
def Chg (F X : Nat → Nat) (m : Nat) : Prop := ∃ i j, i < 15 ∧ j < 15 ∧ ∀ k, k < 15 → (1 ≤ m → k ≠ i) → (2 ≤ m → k ≠ j) → X k = F k
theorem Chg.next {F X : Nat → Nat} {m p v : Nat} (h : Chg F X m) (hm : m < 2) (hp : p < 15) : Chg F (fun k => if k = p then v else X k) (m + 1) := by
  obtain ⟨i, j, hi, hj, h⟩ := h
  rcases (by omega : m = 0 ∨ m = 1) with rfl | rfl
  · refine ⟨p, j, hp, hj, fun k hk h1 h2 => ?_⟩
    show (if k = p then v else X k) = F k
    rw [if_neg (h1 (by omega)), h k hk (by omega) (by omega)]
  · refine ⟨i, p, hi, hp, fun k hk h1 h2 => ?_⟩
    show (if k = p then v else X k) = F k
    rw [if_neg (h2 (by omega)), h k hk (fun _ => h1 (by omega)) (by omega)]
theorem Chg.dec {F X : Nat → Nat} {m : Nat} (h : Chg F X m) (hF : CodeL (lsOf 15 F)) (hX : El 15 X) : decL (lsOf 15 X) = some (lsOf 15 F) := by
  obtain ⟨i, j, hi, hj, h⟩ := h
  exact dec_change hF hX hi hj fun k hk h1 h2 => h k hk (fun _ => h1) (fun _ => h2)
theorem set_el {X : Nat → Nat} {p v : Nat} (h : El 15 X) (hv : v < 16) : El 15 (fun k => if k = p then v else X k) := fun k hk => by
  show (if k = p then v else X k) < 16
  split
  · exact hv
  · exact h k hk

set_option maxHeartbeats 2000000 in
theorem FnDecodeWord_walk (a0 : Option Addr) (len0 cap0 : Nat) (z0 : List Int) (a1 : Option Addr) (len1 cap1 : Nat) (z1 : List Int) (w : World) (T0 : TpowersOfTwo w) (T1 : Tlogarithms w) (T2 : TwordZeros w) (w0 : IsRow .u8 w a0 len0 cap0 z0) (w1 : IsRow .u8 w a1 len1 cap1 z1) :
    Calls Tryd.prog 8 #[.slice a0 len0 cap0, .slice a1 len1 cap1] w fun e w' => e = .returned (.bool true) ∧ Below w.heap.size w w' := by
  by_cases hl0 : len0 ≤ 1048576
  case neg =>
    have hl0' : 1048576 < len0 := by omega
    go_enter Tryd.func8, Tryd.ntmps8
    go_wp2
    go_ret
    exact ⟨rfl, Below.refl _ _⟩
  by_cases hl1 : len1 ≤ 1048576
  case neg =>
    have hl1' : 1048576 < len1 := by omega
    go_enter Tryd.func8, Tryd.ntmps8
    go_wp2
    go_ret
    exact ⟨rfl, Below.refl _ _⟩
  have B0 := w0.bytes
  have hc0 := B0.le
  have hm0 := B0.cap
  clear w0
  have B1 := w1.bytes
  have hc1 := B1.le
  have hm1 := B1.cap
  clear w1
  have z0_ := T0.lt
  have z1_ := T1.lt
  have z2_ := T2.lt
  go_enter Tryd.func8, Tryd.ntmps8
  go_wp2_with fail
  refine (DrawDecodeWord_c _ B0 (Nat.le_refl _)).mono ?_
  rintro e w1 ⟨v1, xs, rfl, O, hxl, bb⟩
  have t1 := bb.size
  cases hd : decL xs with
  | none =>
    have D1 := hid (decS_none (implDec_c w1 (T0.below bb z0_) (T1.below bb z1_) (T2.below bb z2_) O.rd (Nat.le_refl _)) hd)
    go_wp2_with fail
    refine D1.out.mono ?_
    rintro e w2 ⟨v2, rfl, X, b2⟩
    have t2 := b2.size
    have O := O.below b2 (Nat.le_refl _)
    have bb := bb.trans (b2.mono (by omega))
    have D2 := hid (decS_none (specDec_c w2 O.rd (by omega)) hd)
    clear hd D1
    go_wp2_with fail
    refine D2.out.mono ?_
    rintro e w3 ⟨v3, rfl, Y, b3⟩
    have t3 := b3.size
    have X := X.below b3 (by omega)
    have bb := bb.trans (b3.mono (by omega))
    obtain ⟨A, m, c, rfl, Q⟩ := X.rd
    obtain rfl : m = 0 := by rw [← Q.len]; rfl
    have RX : Rd w2.heap.size w3 (.slice A 0 c) [] := ⟨_, _, _, rfl, Q⟩
    clear Q X O D2 b2 b3
    go_wp2_with fail
    refine (sameInts_t _ RX Y.rd).mono ?_
    rintro e w4 ⟨rfl, b4⟩
    have bb := bb.trans (b4.mono (by omega))
    go_wp2_with fail
    refine (alive_c _).mono ?_
    rintro e w5 ⟨rfl, b5⟩
    have bb := bb.trans (b5.mono (by have := b4.size; omega))
    go_wp2_with fail
    go_ret
    exact ⟨rfl, bb⟩
  | some ys =>
    obtain ⟨hwx, hC, hN⟩ := dec_some hd
    have hle := (near_cnt hC.1 hwx).1 hN
    have D1 := hid (decS_some (implDec_c w1 (T0.below bb z0_) (T1.below bb z1_) (T2.below bb z2_) O.rd (Nat.le_refl _)) hd)
    have SPD := hid (fun V (R : Rd w1.heap.size V v1 xs) (h : w1.heap.size ≤ V.heap.size) => decS_some (specDec_c V R h) hd)
    have hX := ls_fn (wOk_iff.1 hC.1).1
    rw [(wOk_iff.1 hC.1).2] at hX
    rw [← hX] at D1 SPD hC hle
    have hF := codeL_el hC
    have hsy : synL (lsOf 15 (fnOf ys)) = [0, 0, 0, 0] := (syn_zero hC.1).2 hC.2
    clear hd hwx hN hX
    generalize fnOf ys = F at *
    go_wp2_with fail
    refine D1.out.mono ?_
    rintro e w2 ⟨v2, rfl, X, b2⟩
    have t2 := b2.size
    have O := O.below b2 (Nat.le_refl _)
    have bb := bb.trans (b2.mono (by omega))
    go_wp2_with fail
    refine (SPD.out w2 O.rd (by omega)).mono ?_
    rintro e w3 ⟨v3, rfl, Y, b3⟩
    have t3 := b3.size
    have O := O.below b3 (by omega)
    have X := X.below b3 (by omega)
    have bb := bb.trans (b3.mono (by omega))
    clear D1 SPD
    go_wp2_with fail
    refine (sameInts_t _ X.rd Y.rd).mono ?_
    rintro e w4 ⟨rfl, b4⟩
    have t4 := b4.size
    have O := O.below b4 (by omega)
    have X := X.below b4 (by omega)
    have bb := bb.trans (b4.mono (by omega))
    have HLE := hid hle
    have HSY := hid hsy
    obtain ⟨gx, cx, rfl, xB, xC, xl⟩ := row15 X
    have hE := (Own.empty w4).more (show w4.heap.size + 1 ≤ (w4.alloc (.cells #[] 3)).heap.size by simp)
    have bE := (Below.refl w4.heap.size w4).alloc (Nat.le_refl _) (.cells #[] 3)
    have oE := X.below bE (by omega)
    have OE := O.below bE (by omega)
    have B1' : RdB w.heap.size w4 a1 len1 cap1 := B1.keep fun b hb => bb.block b hb
    clear b2 b3 b4 Y X O hle hsy
    go_wp2_with (at_builtin; refine wpl_append intSl _ rfl (.tmp 51) (.tmp 52) rfl w4.heap.size _ w2.heap.size _ _ [] _ rfl rfl hE oE.rd (by rw [ls_length]; decide) (by simp) ?_; intro v5 w5 o5 g5 _; rw [List.nil_append] at o5; have b5 := bE.trans (below_of_own hE g5 (Nat.le_refl _) (by simp)); have t5 := b5.size; have X := oE.apart g5 (fun k hk => .inr (by have := (hE.lt k hk).1; omega)); have O := OE.apart g5 (fun k hk => .inr (by have := (hE.lt k hk).1; omega)); obtain ⟨g, cap, rfl, gB, gC, gl⟩ := row15 o5; clear hE bE oE OE g5)
    have B5 : RdB w.heap.size w5 a1 len1 cap1 := B1'.keep fun b hb => b5.block b (by have := bb.size; omega)
    have l1' : (len1 : Int) ≤ 1048576 := by omega
    clear B1' B1
    go_loopw [11] (fun i wr => ∃ (m : Nat) (G : Nat → Nat), m ≤ 2 ∧ i = .int .i64 ((2 * m : Nat) : Int) ∧ Hid (El 15 G ∧ Chg F G m) ∧ Own w4.heap.size w5.heap.size wr (.slice (some ⟨g, 0, none⟩) 15 cap) (lsOf 15 G) ∧ w5.grownBy wr (some g)) (fun i _ => 4 - (intOf i).toNat)
    case atStart => exact ⟨0, F, by omega, rfl, ⟨hF, 0, 0, by omega, by omega, fun _ _ _ _ => rfl⟩, o5, World.grownBy.refl _ _⟩
    case round =>
      obtain ⟨m, G, hm, rfl, hG, ho, hg⟩ := hrel
      obtain ⟨K, hK⟩ : ∃ K, 2 * m = K := ⟨_, rfl⟩
      rw [hK]
      have zg := hg.size
      by_cases hgo : K + 1 < len1 ∧ m < 2
      · obtain ⟨hk1, hm2⟩ := hgo
        have i1 : (K : Int) + 1 < (len1 : Int) := by omega
        have i2 : (K : Int) < 4 := by omega
        obtain ⟨bb', off, rfl, hbl, hcl⟩ := B5.cells (by omega)
        obtain ⟨y0, hy0, cy0⟩ := hcl K (by omega)
        obtain ⟨y1, hy1, cy1⟩ := hcl (K + 1) (by omega)
        have bl : bb' < w5.heap.size := by have := bb.size; omega
        have cz0 := (World.cell?_of_block (w := w5) (hg.block bb' bl (fun e => by injection e; omega))).trans cy0
        have cz1 := (World.cell?_of_block (w := w5) (hg.block bb' bl (fun e => by injection e; omega))).trans cy1
        obtain ⟨P, hP⟩ : ∃ P, P = y0 % 15 := ⟨_, rfl⟩
        obtain ⟨V, hV⟩ : ∃ V, V = y1 % 16 := ⟨_, rfl⟩
        obtain ⟨K1, hK1⟩ : ∃ K1, K + 1 = K1 := ⟨_, rfl⟩
        rw [hK1] at cz1
        have eK1 : (K : Int) + 1 = (K1 : Int) := by omega
        have hP15 : P < 15 := by omega
        have hV16 : V < 16 := by omega
        have eP : (y0 : Int) % 15 = (P : Int) := by omega
        have eV : (y1 : Int) % 16 = (V : Int) := by omega
        have tP : Int.tmod (y0 : Int) 15 = (P : Int) := by have := tmod_nat y0 15; rw [← hP] at this; exact this
        have tV : Int.tmod (y1 : Int) 16 = (V : Int) := by have := tmod_nat y1 16; rw [← hV] at this; exact this
        have u0 : IntKind.i64.wrap (y0 : Int) = (y0 : Int) := IntWalk.i64_in _ (by omega)
        have u1 : IntKind.i64.wrap (y1 : Int) = (y1 : Int) := IntWalk.i64_in _ (by omega)
        have u2 : IntKind.i64.wrap (P : Int) = (P : Int) := IntWalk.i64_in _ (by omega)
        have u3 : IntKind.i64.wrap (V : Int) = (V : Int) := IntWalk.i64_in _ (by omega)
        have u4 : IntKind.i64.wrap (K1 : Int) = (K1 : Int) := IntWalk.i64_in _ (by omega)
        have iP : (P : Int) < 15 := by omega
        have iK1 : (K1 : Int) < (len1 : Int) := by omega
        have iK0 : (K : Int) < (len1 : Int) := by omega
        have cw := ho.cell (k := P) (by rw [ls_length]; omega)
        rw [ls_getD (by omega)] at cw
        have cf := ho.free P
        have ho2 := ho.store P ((V : Nat) : Int)
        rw [ls_set] at ho2
        have hg2 := grown_set hg (i := P) (.int .i64 ((V : Nat) : Int))
        have hG2 := hid (show El 15 (fun k => if k = P then V else G k) ∧ Chg F (fun k => if k = P then V else G k) (m + 1) from ⟨set_el hG.out.1 hV16, hG.out.2.next hm2 hP15⟩)
        have ed1 : decide ((K : Int) + 1 < (len1 : Int)) = true := decide_eq_true (by omega)
        have HK := hid hK
        clear hP hV hK1 ho hg o5 hcl cy0 cy1 hK
        go_wp2_with fail
        go_region
        all_goals
          clear u0 u1 u2 u3 u4 tP tV eP eV cz0 cz1
          go_wp2
          go_roundw
          case rel => exact ⟨m + 1, _, by omega, by have := HK.out; go_num, hG2, ho2.keep (fun _ _ => rfl), hg2.os, hg2.tape, hg2.output, hg2.size, hg2.block⟩
          case measure => have := HK.out; simp [intOf]; omega
      · have bb := bb.trans ((b5.trans (below_of_grown hg gB gC)).mono (by have := bb.size; omega))
        have X := X.apart hg (fun i hi => by injection hi; omega)
        have O := O.apart hg (fun i hi => by injection hi; omega)
        have DD := hid (decS_some (implDec_c wr (T0.below bb z0_) (T1.below bb z1_) (T2.below bb z2_) ho.rd (by omega)) (hG.out.2.dec hC hG.out.1))
        have DS := hid (fun V (R : Rd w2.heap.size V (.slice (some ⟨gx, 0, none⟩) 15 cx) (lsOf 15 F)) (S : Rd w1.heap.size V v1 xs) => implDist_c V R S)
        generalize distL (lsOf 15 F) xs = dst at HLE DS
        have hle := HLE.out
        clear ho hg o5 B5 hC hF
        have fin : ∀ (D : Prop), (D → Calls Tryd.prog 8 #[] w fun _ _ => True) → True := fun _ _ => trivial
        clear fin
        by_cases hk1 : K + 1 < len1
        · have i1 : (K : Int) + 1 < (len1 : Int) := by omega
          have i2 : ¬ (K : Int) < 4 := by omega
          have i3 : 4 ≤ (K : Int) := by omega
          clear hgo
          go_wp2_with fail
          refine DD.out.mono ?_
          rintro e w7 ⟨v7, rfl, O7, b7⟩
          have t7 := b7.size
          have bb := bb.trans (b7.mono (by omega))
          have X := X.below b7 (by omega)
          have O := O.below b7 (by omega)
          clear b7 DD
          go_wp2_with fail
          refine (DS.out _ X.rd O.rd).mono ?_
          rintro e w8 ⟨rfl, q8, rfl⟩
          have X := X.drewN q8
          have O7 := O7.drewN q8
          have bb := below_drewN bb q8
          have SY := implSyn_c (w7.drewN q8) (T0.below bb z0_) (T1.below bb z1_) (T2.below bb z2_) X.rd (show w2.heap.size ≤ w7.heap.size by omega)
          rw [HSY.out] at SY
          have SY := hid SY
          go_wp2_with fail
          refine SY.out.mono ?_
          rintro e w9 ⟨v9, rfl, O9, b9⟩
          have t9 := b9.size
          have t9 : w7.heap.size ≤ w9.heap.size := t9
          have bb := bb.trans (b9.mono (show w.heap.size ≤ w7.heap.size by have := bb.size; exact this))
          have X := X.below b9 (show w2.heap.size ≤ w7.heap.size by omega)
          have O7 := O7.below b9 (Nat.le_refl _)
          have oz := (Own.made w9 #[.int .i64 0, .int .i64 0, .int .i64 0, .int .i64 0] [0, 0, 0, 0] rfl rfl (by omega : 4 ≤ 4194304)).rd
          have bz := (Below.refl w9.heap.size w9).alloc (Nat.le_refl _) (.cells #[.int .i64 0, .int .i64 0, .int .i64 0, .int .i64 0] 3)
          have O9 := O9.below bz (Nat.le_refl _)
          have X := X.below bz (by omega)
          have O7 := O7.below bz t9
          have bb := bb.trans (bz.mono (by have := bb.size; omega))
          clear bz b9 SY
          go_wp2_with fail
          refine (sameInts_t _ O9.rd oz).mono ?_
          rintro e wA ⟨rfl, bA⟩
          have tA := bA.size
          have bb := bb.trans (bA.mono (by have := bb.size; omega))
          have X := X.below bA (by simp; omega)
          have O7 := O7.below bA (by simp; omega)
          clear O9 oz bA
          go_wp2_with fail
          refine (sameInts_t _ O7.rd X.rd).mono ?_
          rintro e wB ⟨rfl, bB⟩
          have bb := bb.trans (bB.mono (by have := bb.size; omega))
          go_wp2_with fail
          go_ret
          exact ⟨rfl, bb⟩
        · have i1 : (len1 : Int) ≤ (K : Int) + 1 := by omega
          clear hgo
          go_wp2_with fail
          refine DD.out.mono ?_
          rintro e w7 ⟨v7, rfl, O7, b7⟩
          have t7 := b7.size
          have bb := bb.trans (b7.mono (by omega))
          have X := X.below b7 (by omega)
          have O := O.below b7 (by omega)
          clear b7 DD
          go_wp2_with fail
          refine (DS.out _ X.rd O.rd).mono ?_
          rintro e w8 ⟨rfl, q8, rfl⟩
          have X := X.drewN q8
          have O7 := O7.drewN q8
          have bb := below_drewN bb q8
          have SY := implSyn_c (w7.drewN q8) (T0.below bb z0_) (T1.below bb z1_) (T2.below bb z2_) X.rd (show w2.heap.size ≤ w7.heap.size by omega)
          rw [HSY.out] at SY
          have SY := hid SY
          go_wp2_with fail
          refine SY.out.mono ?_
          rintro e w9 ⟨v9, rfl, O9, b9⟩
          have t9 := b9.size
          have t9 : w7.heap.size ≤ w9.heap.size := t9
          have bb := bb.trans (b9.mono (show w.heap.size ≤ w7.heap.size by have := bb.size; exact this))
          have X := X.below b9 (show w2.heap.size ≤ w7.heap.size by omega)
          have O7 := O7.below b9 (Nat.le_refl _)
          have oz := (Own.made w9 #[.int .i64 0, .int .i64 0, .int .i64 0, .int .i64 0] [0, 0, 0, 0] rfl rfl (by omega : 4 ≤ 4194304)).rd
          have bz := (Below.refl w9.heap.size w9).alloc (Nat.le_refl _) (.cells #[.int .i64 0, .int .i64 0, .int .i64 0, .int .i64 0] 3)
          have O9 := O9.below bz (Nat.le_refl _)
          have X := X.below bz (by omega)
          have O7 := O7.below bz t9
          have bb := bb.trans (bz.mono (by have := bb.size; omega))
          clear bz b9 SY
          go_wp2_with fail
          refine (sameInts_t _ O9.rd oz).mono ?_
          rintro e wA ⟨rfl, bA⟩
          have tA := bA.size
          have bb := bb.trans (bA.mono (by have := bb.size; omega))
          have X := X.below bA (by simp; omega)
          have O7 := O7.below bA (by simp; omega)
          clear O9 oz bA
          go_wp2_with fail
          refine (sameInts_t _ O7.rd X.rd).mono ?_
          rintro e wB ⟨rfl, bB⟩
          have bb := bb.trans (bB.mono (by have := bb.size; omega))
          go_wp2_with fail
          go_ret
          exact ⟨rfl, bb⟩

end Go.Proofs.YtemokfjnbmncbaaDoor
