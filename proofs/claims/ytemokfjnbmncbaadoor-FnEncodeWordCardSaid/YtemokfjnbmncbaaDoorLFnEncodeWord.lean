/-
  The law FnEncodeWord, walked: for every input the call returns true, and nothing that was there has changed.
-/
import Derived.Test.YtemokfjnbmncbaaDoorDecU
namespace Go.Proofs.YtemokfjnbmncbaaDoor
open Go.RowKit T

def rv (D : Nat → Nat) : Nat → Nat := fun k => D (10 - k)
def sx (D : Nat → Nat) : Nat → Nat := fun k => D k ^^^ rv D k
theorem rv_el {D : Nat → Nat} (h : El 11 D) : El 11 (rv D) := fun k _ => h (10 - k) (by omega)
theorem sx_el {D : Nat → Nat} (h : El 11 D) : El 11 (sx D) := fun k hk => xor_lt (h k hk) (rv_el h k hk)
theorem enc_ls {G : Nat → Nat} (h : El 11 G) : encL (lsOf 11 G) = lsOf 15 (enc G) := by
  have hd : dOk (lsOf 11 G) = true := dOk_iff.2 ⟨ls_elems h, ls_length _ _⟩
  rw [encL_yes hd]
  refine ls_congr fun k hk => ?_
  exact code_head (enc_code (fn_el (dOk_iff.1 hd).1 11)) (enc_code h) (fun i hi => by rw [enc_head hi, enc_head hi, fn_ls hi]) k hk
theorem enc_sum {D : Nat → Nat} (h : El 11 D) (k : Nat) (hk : k < 15) : enc (sx D) k = enc D k ^^^ enc (rv D) k :=
  code_head (enc_code (sx_el h)) (code_xor (enc_code h) (enc_code (rv_el h))) (fun i hi => by
    show enc (sx D) i = enc D i ^^^ enc (rv D) i
    rw [enc_head hi, enc_head hi, enc_head hi]; rfl) k hk

set_option maxHeartbeats 8000000 in
theorem FnEncodeWord_walk (a0 : Option Addr) (len0 cap0 : Nat) (z0 : List Int) (w : World) (T0 : TpowersOfTwo w) (T1 : Tlogarithms w) (T2 : TwordZeros w) (T3 : TwordGenerator w) (w0 : IsRow .u8 w a0 len0 cap0 z0) :
    Calls Tryd.prog 10 #[.slice a0 len0 cap0] w fun e w' => e = .returned (.bool true) ∧ Below w.heap.size w w' := by
  by_cases hl0 : len0 ≤ 1048576
  case neg =>
    have hl0' : 1048576 < len0 := by omega
    go_enter Tryd.func10, Tryd.ntmps10
    go_wp2
    go_ret
    exact ⟨rfl, Below.refl _ _⟩
  have B0 := w0.bytes
  have hc0 := B0.le
  have hm0 := B0.cap
  clear w0
  have z0_ := T0.lt
  have z1_ := T1.lt
  have z2_ := T2.lt
  have z3_ := T3.lt
  go_enter Tryd.func10, Tryd.ntmps10
  go_wp2_with fail
  refine (DrawEncodeWord_c _ B0 (Nat.le_refl _)).mono ?_
  rintro e w1 ⟨v1, xs, rfl, O, hxl, bb⟩
  have t1 := bb.size
  go_wp2_with fail
  refine (implEnc_c w1 (T0.below bb z0_) (T1.below bb z1_) (T3.below bb z3_) O.rd (Nat.le_refl _)).mono ?_
  rintro e w2 ⟨v2, rfl, X, b2⟩
  have t2 := b2.size
  have O := O.below b2 (Nat.le_refl _)
  have bb := bb.trans (b2.mono (by omega))
  go_wp2_with fail
  refine (specEnc_c w2 O.rd (by omega)).mono ?_
  rintro e w3 ⟨v3, rfl, Y, b3⟩
  have t3 := b3.size
  have O := O.below b3 (by omega)
  have X := X.below b3 (by omega)
  have bb := bb.trans (b3.mono (by omega))
  go_wp2_with fail
  refine (sameInts_t _ X.rd Y.rd).mono ?_
  rintro e w4 ⟨rfl, b4⟩
  have t4 := b4.size
  have O := O.below b4 (by omega)
  have X := X.below b4 (by omega)
  have bb := bb.trans (b4.mono (by omega))
  clear b2 b3 b4 Y
  cases hok : dOk xs with
  | false =>
    rw [encL_no hok] at X
    obtain ⟨A, m, c, rfl, Q⟩ := X.rd
    obtain rfl : m = 0 := by rw [← Q.len]; rfl
    clear Q hok X O
    go_wp2_with fail
    refine (alive_c _).mono ?_
    rintro e w5 ⟨rfl, b5⟩
    have bb := bb.trans (b5.mono (by omega))
    go_wp2_with fail
    go_ret
    exact ⟨rfl, bb⟩
  | true =>
    have hOx := ls_fn (dOk_iff.1 hok).1
    rw [(dOk_iff.1 hok).2] at hOx
    rw [← hOx] at O
    have hD := fn_el (dOk_iff.1 hok).1 11
    have hC := encL_code hok
    rw [encL_yes hok] at X hC
    generalize fnOf xs = D at *
    have hsy : synL (lsOf 15 (enc D)) = [0, 0, 0, 0] := (syn_zero hC.1).2 hC.2
    have hhd : (lsOf 15 (enc D)).take 11 = lsOf 11 D := by
      refine list_ext_getD (by simp [ls_length]) fun k hk => ?_
      have hk11 : k < 11 := by simp [ls_length] at hk; omega
      rw [getD_take' hk11, ls_getD (by omega), ls_getD hk11, enc_head hk11]
    have HSY := hid hsy
    have HHD := hid hhd
    clear hok hOx hC hsy hhd
    obtain ⟨gd, cd, rfl, dB, dC, dl⟩ := row11 O
    obtain ⟨gx, cx, rfl, xB, xC, xl⟩ := row15 X
    have hE1 := ((Own.empty w4).alloc (show w4.heap.size + 1 ≤ (w4.alloc (.cells #[] 3)).heap.size by simp) (.cells #[] 3)).fit (D := w4.heap.size) (E := ((w4.alloc (.cells #[] 3)).alloc (.cells #[] 3)).heap.size) (Nat.le_refl _) (by simp)
    have hE2 := (Own.empty (w4.alloc (.cells #[] 3))).less (D := w4.heap.size) (by simp)
    have bE := ((Below.refl w4.heap.size w4).alloc (Nat.le_refl _) (.cells #[] 3)).alloc (by simp) (.cells #[] 3)
    simp only [World.size_alloc] at hE1 hE2
    have hE1 := hid hE1
    have hE2 := hid hE2
    have bE := hid bE
    go_wp2_with fail
    go_loopw [5, 6, 7] (fun tv sv i wr => ∃ k : Nat, k ≤ 11 ∧ i = .int .i64 k ∧ Own w4.heap.size wr.heap.size wr tv (lsOf k (rv D)) ∧ Own w4.heap.size wr.heap.size wr sv (lsOf k (sx D)) ∧ Hid (tv.ownBlock ≠ sv.ownBlock) ∧ Below w4.heap.size w4 wr) (fun _ _ i _ => 11 - (intOf i).toNat)
    case atStart =>
      refine ⟨0, by omega, rfl, ?_, ?_, ?_, bE.out⟩
      · exact hE1.out.more (by simp)
      · exact hE2.out.more (by simp)
      · show _ ≠ _
        simp [Value.ownBlock]
    case round =>
      obtain ⟨k, hk, rfl, ot, os, hne, hb⟩ := hrel
      obtain ⟨tv, rfl⟩ : ∃ z, z = u5 := ⟨_, rfl⟩
      obtain ⟨sv, rfl⟩ : ∃ z, z = u6 := ⟨_, rfl⟩
      clear hE1 hE2 bE
      have sz := hb.size
      have OD := O.below hb (by omega)
      by_cases hlt : k < 11
      · obtain ⟨R, hR⟩ : ∃ R, R = 10 - k := ⟨_, rfl⟩
        have eR : 10 - (k : Int) = (R : Int) := by omega
        have c1 := OD.cell (k := R) (by rw [ls_length]; omega)
        rw [ls_getD (by omega)] at c1
        have c2 := OD.cell (k := k) (by rw [ls_length]; omega)
        rw [ls_getD (by omega)] at c2
        have hDk := hD k hlt
        have hDR := hD R (by omega)
        have e1 : lsOf k (rv D) ++ [((D R : Nat) : Int)] = lsOf (k + 1) (rv D) := by rw [← ls_snoc]; congr 3; rw [hR]; rfl
        have e2 : lsOf k (sx D) ++ [((D k ^^^ D R : Nat) : Int)] = lsOf (k + 1) (sx D) := by rw [← ls_snoc]; congr 3; rw [hR]; rfl
        have E1 := hid e1
        have E2 := hid e2
        have hrk : rv D k = D R := by rw [hR]; rfl
        have HRK := hid hrk
        have FA := hid (fun V => FieldAdd_c (D k) (D R) V hDk hDR)
        have iR : (R : Int) < 11 := by omega
        have ik : (k : Int) < 11 := by omega
        clear hR e1 e2 hrk
        go_wp2_with (at_builtin; refine wpl_appl3 intSl wr rfl (.tmp 35) (.tmp 44) rfl w4.heap.size wr.heap.size _ _ _ [((D R : Nat) : Int)] 1 rfl rfl rfl _ rfl (by first | rfl | simp) ot (Nat.le_refl _) (by rw [ls_length]; omega) sz ?_; intro v6 w6 ho6 g6 hat; rw [E1.out] at ho6)
        have s6 := g6.size
        have os6 : Own w4.heap.size w6.heap.size w6 sv (lsOf k (sx D)) := (os.kept g6 (by
          by_cases h : sv.ownBlock = none
          · exact .inl h
          · exact .inr (fun e => hne.out e.symm))).more s6
        have hne6 : Hid (v6.ownBlock ≠ sv.ownBlock) := by
          show _ ≠ _
          rcases hat with h | h
          · rw [h]; exact hne.out
          · rw [h]; intro e; have := (os.lt _ e.symm).2; omega
        have hb6 := hb.trans (below_of_own ot g6 (Nat.le_refl _) sz)
        have c2' := (below_of_own ot g6 (Nat.le_refl _) sz).block gd (by omega)
        have c2 := (World.cell?_of_block (w := wr) c2').trans c2
        rcases ho6.form with ⟨hn, _⟩ | ⟨g7, cp7, rfl, g7B, g7C, g7l, _⟩
        · have := congrArg List.length hn
          rw [ls_length] at this; simp at this
        rw [ls_length] at ho6 g7l ⊢
        rw [ls_length] at hne6
        have c3 := ho6.cell (k := k) (by rw [ls_length]; omega)
        rw [ls_getD (by omega), HRK.out] at c3
        have sz6 := hb6.size
        have osA : Own w4.heap.size w6.heap.size ((w6.alloc (.cells #[.int .i64 ((D k ^^^ D R : Nat) : Int)] 3)).drew) sv (lsOf k (sx D)) := (os6.alloc (Nat.le_refl _) _).drewN 1
        have RL := (Own.made w6 #[.int .i64 ((D k ^^^ D R : Nat) : Int)] [((D k ^^^ D R : Nat) : Int)] rfl rfl (by omega : 1 ≤ 4194304)).drewN 1
        have RL : Rd (w6.heap.size + 1) ((w6.alloc (.cells #[.int .i64 ((D k ^^^ D R : Nat) : Int)] 3)).drew) (.slice (some ⟨w6.heap.size, 0, none⟩) 1 1) [((D k ^^^ D R : Nat) : Int)] := RL.rd
        have hzA : ((w6.alloc (.cells #[.int .i64 ((D k ^^^ D R : Nat) : Int)] 3)).drew).heap.size = w6.heap.size + 1 := World.size_alloc _ _
        have HZA := hid hzA
        have oT := (ho6.alloc (Nat.le_refl _) (.cells #[.int .i64 ((D k ^^^ D R : Nat) : Int)] 3)).drewN 1
        have oT : Own w4.heap.size w6.heap.size ((w6.alloc (.cells #[.int .i64 ((D k ^^^ D R : Nat) : Int)] 3)).drew) (.slice (some ⟨g7, 0, none⟩) (k + 1) cp7) (lsOf (k + 1) (rv D)) := oT
        have bA : Below w4.heap.size w4 ((w6.alloc (.cells #[.int .i64 ((D k ^^^ D R : Nat) : Int)] 3)).drew) := below_drewN (hb6.alloc sz6 _) 1
        have ikk : (k : Int) < (k : Int) + 1 := by omega
        clear ot os OD hne hb g6 hat ho6 os6 c1 hzA c2'
        go_wp2_with fail
        go_region_law (first | (refine step_app3 intSl rfl (.tmp 46) (.tmp 56) rfl w4.heap.size w6.heap.size (w6.heap.size + 1) sv _ (lsOf k (sx D)) [((D k ^^^ D R : Nat) : Int)] rfl rfl osA RL (by rw [ls_length]; simp; omega) (by rw [HZA.out]; omega) ?_; intro v8 w8 o8 g8 hp8) | (go_simp; go_at_call 26; (with_reducible refine (FA.out _).mono ?_); rintro e w' ⟨rfl, rfl⟩))
        all_goals
          have s8 := g8.size
          rw [HZA.out] at s8
          rw [E2.out] at o8
          have oT8 : Own w4.heap.size w8.heap.size w8 (.slice (some ⟨g7, 0, none⟩) (k + 1) cp7) (lsOf (k + 1) (rv D)) := (oT.kept g8 (.inr hne6.out)).more (by omega)
          have hne8 : Hid ((Value.slice (some ⟨g7, 0, none⟩) (k + 1) cp7).ownBlock ≠ v8.ownBlock) := by
            show _ ≠ _
            rcases hp8 with h | h
            · rw [h]; exact hne6.out
            · rw [h, HZA.out]; intro e; simp only [Value.ownBlock, Option.some.injEq] at e; omega
          have hb8 := bA.trans (below_of_own osA g8 (Nat.le_refl _) (by rw [HZA.out]; omega))
          clear g8 hp8 osA RL oT bA HZA
          go_wp2
          go_roundw
          case rel => exact ⟨k + 1, by omega, by go_num, oT8, o8, hne8, hb8⟩
          case measure => simp [intOf]; omega
      · obtain rfl : k = 11 := by omega
        have X := X.below hb (by omega)
        have bb := bb.trans (hb.mono (by omega))
        have U1 := implEnc_c wr (T0.below bb z0_) (T1.below bb z1_) (T3.below bb z3_) ot.rd (Nat.le_refl _)
        rw [enc_ls (rv_el hD)] at U1
        have U1 := hid U1
        have EN := hid (fun V (b : Below wr.heap.size wr V) (R : Rd wr.heap.size V sv (lsOf 11 (sx D))) => implEnc_c V (((T0.below bb z0_)).below b (by have := bb.size; omega)) (((T1.below bb z1_)).below b (by have := bb.size; omega)) (((T3.below bb z3_)).below b (by have := bb.size; omega)) R b.size)
        rw [enc_ls (sx_el hD)] at EN
        have EN := hid EN.out
        go_wp2_with fail
        refine U1.out.mono ?_
        rintro e w5 ⟨v5, rfl, oU, b5⟩
        have t5 := b5.size
        go_wp2_with fail
        refine (EN.out w5 b5 (os.rd.below b5 (Nat.le_refl _))).mono ?_
        rintro e w6 ⟨v6, rfl, oS, b6⟩
        have t6 := b6.size
        have bb := bb.trans ((b5.trans (b6.mono t5)).mono (by have := bb.size; omega))
        have X := (X.below b5 (by omega)).below b6 (by omega)
        have O := (OD.below b5 (by omega)).below b6 (by omega)
        have oU := oU.below b6 (Nat.le_refl _)
        obtain ⟨gu, cu, rfl, uB, uC, ul⟩ := row15 oU
        obtain ⟨gs, cs, rfl, sB, sC, sl⟩ := row15 oS
        have HSUM := hid (fun i (hi : i < 15) => enc_sum hD i hi)
        have hce : El 15 (enc D) := (enc_code hD).1
        have hcr : El 15 (enc (rv D)) := (enc_code (rv_el hD)).1
        clear U1 EN ot os hne hb b5 b6 OD
        go_wp2_with fail
        go_loopw [10] (fun i wr => ∃ k : Nat, k ≤ 15 ∧ i = .int .i64 k ∧ ∃ q, wr = w6.drewN q) (fun i _ => 15 - (intOf i).toNat)
        case atStart => exact ⟨0, by omega, rfl, 0, rfl⟩
        case round =>
          obtain ⟨i, hi, rfl, q, rfl⟩ := hrel
          by_cases hi15 : i < 15
          · have a1 := X.cell (k := i) (by rw [ls_length]; omega)
            have a2 := oU.cell (k := i) (by rw [ls_length]; omega)
            have a3 := oS.cell (k := i) (by rw [ls_length]; omega)
            rw [ls_getD hi15] at a1 a2 a3
            rw [HSUM.out i hi15] at a3
            have h1 := hce i hi15
            have h2 := hcr i hi15
            have ii : (i : Int) < 15 := by omega
            generalize enc D i = d1 at a1 a3 h1
            generalize enc (rv D) i = d2 at a2 a3 h2
            clear HSUM HSY HHD O X oU oS hce hcr hD
            go_wp2_with fail
            go_quiet ((go_at_call 26; first | exact Calls.quiet_of_same ((FieldAdd_c _ _ _ h1 h2).mono fun _ _ h => ⟨h.1, h.2.symm⟩) | exact q_at_same (FieldAdd_c _ _ _ h1 h2)))
            go_wp2_with fail
            go_roundw
            case rel => exact ⟨i + 1, by omega, by go_num, _, rfl⟩
            case measure => simp [intOf]; omega
          · obtain rfl : i = 15 := by omega
            have X := X.drewN q
            have O := O.drewN q
            have bb := below_drewN bb q
            obtain ⟨A', n', c', e, RR⟩ := X.rd
            injection e with e1 e2 e3
            subst e1 e2 e3
            have RT : Rd w2.heap.size (w6.drewN q) (.slice (some ⟨gx, 0, none⟩) 11 cx) ((lsOf 15 (enc D)).take 11) := ⟨_, _, _, rfl, RR.till (k := 11) (by omega)⟩
            rw [HHD.out] at RT
            have ic : (11 : Int) ≤ (cx : Int) := by omega
            have ic2 : 11 ≤ cx := by omega
            have tq : w4.heap.size ≤ w6.heap.size := by omega
            go_wp2_with fail
            refine (sameInts_t _ RT O.rd).mono ?_
            rintro e w7 ⟨rfl, b7⟩
            have t7 := b7.size
            have t7 : w6.heap.size ≤ w7.heap.size := t7
            have bb := bb.trans (b7.mono (show w.heap.size ≤ w6.heap.size by have := bb.size; exact this))
            have X := X.below b7 (show w2.heap.size ≤ w6.heap.size by omega)
            clear b7 RT RR O
            have SY := implSyn_c w7 (T0.below bb z0_) (T1.below bb z1_) (T2.below bb z2_) X.rd (by omega)
            rw [HSY.out] at SY
            have SY := hid SY
            go_wp2_with fail
            refine SY.out.mono ?_
            rintro e w9 ⟨v9, rfl, O9, b9⟩
            have t9 := b9.size
            have bb := bb.trans (b9.mono (by have := bb.size; omega))
            have oz := (Own.made w9 #[.int .i64 0, .int .i64 0, .int .i64 0, .int .i64 0] [0, 0, 0, 0] rfl rfl (by omega : 4 ≤ 4194304)).rd
            have bz := (Below.refl w9.heap.size w9).alloc (Nat.le_refl _) (.cells #[.int .i64 0, .int .i64 0, .int .i64 0, .int .i64 0] 3)
            have O9 := O9.below bz (Nat.le_refl _)
            have bb := bb.trans (bz.mono (by have := bb.size; omega))
            clear bz b9 SY
            go_wp2_with fail
            refine (sameInts_t _ O9.rd oz).mono ?_
            rintro e wA ⟨rfl, bA⟩
            have bb := bb.trans (bA.mono (by have := bb.size; omega))
            go_wp2_with fail
            go_ret
            exact ⟨rfl, bb⟩

end Go.Proofs.YtemokfjnbmncbaaDoor
