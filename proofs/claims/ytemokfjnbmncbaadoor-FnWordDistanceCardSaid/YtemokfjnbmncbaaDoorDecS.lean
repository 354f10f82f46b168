/-
  Decoding a word, the reference's way: a search over the pairs of places.
-/
import Derived.Test.YtemokfjnbmncbaaDoorDec
namespace Go.Proofs.YtemokfjnbmncbaaDoor
open Go.RowKit T

theorem row_of {B C n : Nat} {w : World} {v : Value} {W : Nat → Nat} (h : Own B C w v (lsOf (n + 1) W)) : ∃ g cap, v = .slice (some ⟨g, 0, none⟩) (n + 1) cap ∧ B ≤ g ∧ g < C ∧ n + 1 ≤ cap := by
  rcases h.form with ⟨hn, _⟩ | ⟨g, cap, rfl, gB, gC, gl, _⟩
  · have := congrArg List.length hn
    rw [ls_length] at this; cases this
  · rw [ls_length] at gl ⊢
    exact ⟨g, cap, rfl, gB, gC, gl⟩
theorem row15 {B C : Nat} {w : World} {v : Value} {W : Nat → Nat} (h : Own B C w v (lsOf 15 W)) : ∃ g cap, v = .slice (some ⟨g, 0, none⟩) 15 cap ∧ B ≤ g ∧ g < C ∧ 15 ≤ cap := row_of h
theorem row4 {B C : Nat} {w : World} {v : Value} {W : Nat → Nat} (h : Own B C w v (lsOf 4 W)) : ∃ g cap, v = .slice (some ⟨g, 0, none⟩) 4 cap ∧ B ≤ g ∧ g < C ∧ 4 ≤ cap := row_of h
theorem zeroB_ls {X : Nat → Nat} (h : El 15 X) : zeroB (synL (lsOf 15 X)) = true ↔ T.Code X := by
  rw [zeroB_syn (wOk_ls h)]
  constructor
  · intro hc
    exact ⟨h, fun m hm => by rw [← sy_ls]; exact hc.2 m hm⟩
  · intro hc
    exact (code_ls hc).2
theorem cand_at (W : Nat → Nat) (i j : Nat) : cand W i j = at1 (at1 W i (fixE (sy W 0) (sy W 1) i j)) j (fixF (sy W 0) (sy W 1) i j) := by rw [at1_two]; rfl
theorem fixE_eq (s0 s1 i : Nat) : fixE s0 s1 i i = gm s0 (gi (xel i)) := by unfold fixE; rw [if_pos rfl]
theorem fixF_eq (s0 s1 i : Nat) : fixF s0 s1 i i = 0 := by unfold fixF; rw [if_pos rfl]
theorem fixF_ne {s0 s1 i j : Nat} (h : i < j) : gm (gm s0 (xel i) ^^^ s1) (gi (gm (xel j) (xel i ^^^ xel j))) = fixF s0 s1 i j := by unfold fixF; rw [if_neg (by omega)]
theorem fixE_ne {s0 s1 i j : Nat} (h : i < j) : gm (s0 ^^^ gm (fixF s0 s1 i j) (xel j)) (gi (xel i)) = fixE s0 s1 i j := by unfold fixE fixF; rw [if_neg (by omega), if_neg (by omega)]

set_option maxHeartbeats 4000000 in
set_option maxRecDepth 20000 in
theorem l6Fix_c {C : Nat} {v : Value} {xs : List Int} (w : World) (h : Rd C w v xs) (hC : C ≤ w.heap.size) (hw : wOk xs = true) :
    Calls Tryd.prog 41 #[v] w (DecS xs w) := by
  obtain ⟨he, hl⟩ := wOk_iff.1 hw
  have Q := specSyn_c w h hC
  rw [synL_yes hw] at Q
  have Q := hid Q
  have hX := ls_fn he
  rw [hl] at hX
  have HX := hid hX
  have HL := hid hl
  have hW := fn_el he 15
  clear he hl hX
  have HDN := hid (fun hh => dec_none hw hh)
  obtain ⟨W, HWW⟩ : ∃ W, Hid (fnOf xs = W) := ⟨_, rfl⟩
  rw [HWW.out] at hW HX Q HDN
  have s0 : sy W 0 < 16 := sy_lt hW
  have s1 : sy W 1 < 16 := sy_lt hW
  go_enter Tryd.func41, Tryd.ntmps41
  go_wp2_with fail
  refine Q.out.mono ?_
  rintro e w1 ⟨sv, rfl, os, b1⟩
  have t1 := b1.size
  obtain ⟨gs, cs, rfl, sB, sC, sl⟩ := row4 os
  go_wp2_with fail
  go_loopw [5, 6, 7, 8, 9, 10, 11] (fun i _ _ _ _ _ _ wr => ∃ k : Nat, k ≤ 15 ∧ i = .int .i64 k ∧ Hid (∀ i' j, i' < k → i' ≤ j → j < 15 → ¬ T.Code (cand W i' j)) ∧ Below w1.heap.size w1 wr) (fun i _ _ _ _ _ _ _ => 15 - (intOf i).toNat)
  case atStart => exact ⟨0, by omega, rfl, fun i' j h => absurd h (by omega), Below.refl _ _⟩
  case round =>
    obtain ⟨i, hi, rfl, hall, hb⟩ := hrel
    have t2 := hb.size
    by_cases hlt : i < 15
    · have dk : decide ((i : Int) < 15) = true := decide_eq_true (by omega)
      have PX : Hid (∀ V, Calls Tryd.prog 53 #[.int .i64 2, .int .i64 (14 - (i : Int))] V fun e w' => e = .returned (.int .i64 (xel i : Nat)) ∧ V = w') := fun V => by
        have := FieldPower_c (14 - i) V (by omega)
        rw [show ((14 - i : Nat) : Int) = 14 - (i : Int) by omega] at this
        exact this
      have lx := xel_pos i hlt
      have pX := lx.1
      have lX := lx.2
      clear lx
      go_wp2_with fail
      go_loopw [6, 7, 8, 9, 10, 11] (fun j _ _ _ _ _ wt => ∃ k : Nat, i ≤ k ∧ k ≤ 15 ∧ j = .int .i64 k ∧ Hid (∀ j', i ≤ j' → j' < k → ¬ T.Code (cand W i j')) ∧ Below w1.heap.size w1 wt) (fun j _ _ _ _ _ _ => 15 - (intOf j).toNat)
      case atStart => exact ⟨i, by omega, by omega, rfl, fun j' h1 h2 => absurd h2 (by omega), hb⟩
      case round =>
        obtain ⟨wt, rfl⟩ : ∃ z, z = wr := ⟨_, rfl⟩
        obtain ⟨j, hij, hj, rfl, hall2, hb3⟩ := hrel
        clear hb t2
        have t3 := hb3.size
        by_cases hlt2 : j < 15
        · have PY : Hid (∀ V, Calls Tryd.prog 53 #[.int .i64 2, .int .i64 (14 - (j : Int))] V fun e w' => e = .returned (.int .i64 (xel j : Nat)) ∧ V = w') := fun V => by
            have := FieldPower_c (14 - j) V (by omega)
            rw [show ((14 - j : Nat) : Int) = 14 - (j : Int) by omega] at this
            exact this
          have lY := (xel_pos j hlt2).2
          have HCA := hid (cand_at W i j)
          obtain ⟨X, HXX⟩ : ∃ X, Hid (cand W i j = X) := ⟨_, rfl⟩
          rw [HXX.out] at HCA
          have c0 := (os.below hb3 (Nat.le_refl _)).cell (k := 0) (by rw [ls_length]; decide)
          have c1 := (os.below hb3 (Nat.le_refl _)).cell (k := 1) (by rw [ls_length]; decide)
          rw [ls_getD (by decide)] at c0 c1
          by_cases hne : i < j
          · have pXY := xel_two i hlt j hlt2 hne
            have eF := fixF_ne (s0 := sy W 0) (s1 := sy W 1) hne
            have eE := fixE_ne (s0 := sy W 0) (s1 := sy W 1) hne
            have le : fixE (sy W 0) (sy W 1) i j < 16 := fixE_lt
            have lf : fixF (sy W 0) (sy W 1) i j < 16 := fixF_lt
            have nij : ((i : Int) == (j : Int)) = false := by simp; omega
            generalize fixE (sy W 0) (sy W 1) i j = e at *
            generalize fixF (sy W 0) (sy W 1) i j = f at *
            generalize sy W 0 = a at *
            generalize sy W 1 = b at *
            generalize xel i = x at *
            generalize xel j = y at *
            have x1 := i64_xor (gm a x) b (by have := gm_lt a x; omega) (by omega)
            have x2 := i64_xor x y (by omega) (by omega)
            have x3 := i64_xor a (gm f y) (by omega) (by have := gm_lt f y; omega)
            have l1 : gm a x ^^^ b < 16 := xor_lt (gm_lt _ _) s1
            have l2 : x ^^^ y < 16 := xor_lt lX lY
            have l3 : a ^^^ gm f y < 16 := xor_lt s0 (gm_lt _ _)
            have EF := hid eF
            have EE := hid eE
            clear eF eE
            have hne2 : i ≠ j := by omega
            have hne3 : j ≠ i := by omega
            go_wp2_with fail
            refine (PX.out _).mono ?_
            rintro e w' ⟨rfl, rfl⟩
            go_wp2_with fail
            refine (PY.out _).mono ?_
            rintro e w' ⟨rfl, rfl⟩
            go_wp2_with fail
            go_quiet (first | (go_at_call 54; first | exact Calls.quiet_of_same ((specInv_c _ _ (by first | assumption | exact gm_lt _ _ | exact gi_lt _) (by assumption)).mono fun _ _ h => ⟨h.1, h.2.symm⟩) | exact q_at_same (specInv_c _ _ (by first | assumption | exact gm_lt _ _ | exact gi_lt _) (by assumption))) | (go_at_call 34; first | exact Calls.quiet_of_same ((l5Mul_c _ _ _ (by first | assumption | exact gm_lt _ _ | exact gi_lt _) (by first | assumption | exact gm_lt _ _ | exact gi_lt _)).mono fun _ _ h => ⟨h.1, h.2.symm⟩) | exact q_at_same (l5Mul_c _ _ _ (by first | assumption | exact gm_lt _ _ | exact gi_lt _) (by first | assumption | exact gm_lt _ _ | exact gi_lt _))))
            revert nq
            intro nx1
            rw [EF.out]
            go_wp2_with fail
            go_quiet (first | (go_at_call 54; first | exact Calls.quiet_of_same ((specInv_c _ _ (by first | assumption | exact gm_lt _ _ | exact gi_lt _) (by assumption)).mono fun _ _ h => ⟨h.1, h.2.symm⟩) | exact q_at_same (specInv_c _ _ (by first | assumption | exact gm_lt _ _ | exact gi_lt _) (by assumption))) | (go_at_call 34; first | exact Calls.quiet_of_same ((l5Mul_c _ _ _ (by first | assumption | exact gm_lt _ _ | exact gi_lt _) (by first | assumption | exact gm_lt _ _ | exact gi_lt _)).mono fun _ _ h => ⟨h.1, h.2.symm⟩) | exact q_at_same (l5Mul_c _ _ _ (by first | assumption | exact gm_lt _ _ | exact gi_lt _) (by first | assumption | exact gm_lt _ _ | exact gi_lt _))))
            revert nq
            intro nx2
            rw [EE.out, drawn_add]
            clear x1 x2 x3 l1 l2 l3 c0 c1 pXY pX
            obtain ⟨wu, hwu⟩ : ∃ wu, wt.drewN (nx1 + nx2) = wu := ⟨_, rfl⟩
            rw [hwu]
            have hb3 : Below w1.heap.size w1 wu := by rw [← hwu]; exact below_drewN hb3 _
            clear hwu
            clear t3
            obtain ⟨wt, rfl⟩ : ∃ x, x = wu := ⟨_, rfl⟩
            have t3 := hb3.size
            have R3 := h.below (b1.trans (hb3.mono t1)) hC
            have hE := (Own.empty wt).more (show wt.heap.size + 1 ≤ (wt.alloc (.cells #[] 3)).heap.size by simp)
            have bE := (Below.refl wt.heap.size wt).alloc (Nat.le_refl _) (.cells #[] 3)
            have RE := R3.below bE (by omega)
            clear R3
            go_wp2_with (at_builtin; refine wpl_append intSl _ rfl (.tmp 64) (.tmp 65) rfl wt.heap.size _ C _ _ [] _ rfl rfl hE RE (by rw [HL.out]; decide) (by simp) ?_; intro v4 w4 ho4 g4 _; have b4 := bE.trans (below_of_own hE g4 (Nat.le_refl _) (by simp)); have t4 := b4.size; rw [List.nil_append, ← HX.out] at ho4; obtain ⟨g, cap, rfl, gB, gC, gl⟩ := row15 ho4; have cw := ho4.cell (k := i) (by rw [ls_length]; omega); rw [ls_getD (by omega)] at cw; have cf := ho4.free i; have cw2 := ho4.cell (k := j) (by rw [ls_length]; omega); rw [ls_getD (by omega)] at cw2; have cf2 := ho4.free j; have lw := hW i (by omega); have lw2 := hW j (by omega); have x1 := i64_xor (W i) e (by omega) (by omega); have x2 : bits BinOp.xor IntKind.i64 ((W j : Nat) : Int) (f : Int) = ((W j ^^^ f : Nat) : Int) := i64_xor _ _ (by omega) (by omega); clear hE bE RE g4)
            have ho5 := ho4.store i ((W i ^^^ e : Nat) : Int)
            rw [at1_set rfl] at ho5
            have g5 := grown_set (World.grownBy.refl w4 (some g)) (i := i) (.int .i64 ((W i ^^^ e : Nat) : Int))
            have hW5 := at1_el (p := i) hW le
            have ho6 := ho5.store j ((W j ^^^ f : Nat) : Int)
            rw [at1_set (by unfold at1; rw [if_neg (by omega)]), ← HCA.out] at ho6
            have g6 := grown_set g5 (i := j) (.int .i64 ((W j ^^^ f : Nat) : Int))
            generalize (w4.setCell ⟨g, i, none⟩ (.int .i64 ((W i ^^^ e : Nat) : Int))).setCell ⟨g, j, none⟩ (.int .i64 ((W j ^^^ f : Nat) : Int)) = w6 at *
            clear cw cf cw2 cf2 x1 x2 lw lw2 ho5 g5
            have t6 : w4.heap.size ≤ w6.heap.size := g6.size
            have hb6 := hb3.trans ((b4.trans (below_of_grown g6 gB gC)).mono hb3.size)
            have hcel : El 15 X := by rw [← HXX.out]; exact cand_el hW
            refine (specSyn_c w6 ho6.rd (by omega)).mono ?_
            rintro e w7 ⟨v7, rfl, o7, b7⟩
            have t7 := b7.size
            have ho7 := ho6.below b7 (by omega)
            have hb7 := hb6.trans (b7.mono hb6.size)
            clear b7 ho6 hb6
            cases hzb : zeroB (synL (lsOf 15 X)) with
            | true =>
              have hc := (zeroB_ls hcel).1 hzb
              rw [← HXX.out] at hc
              have HD := dec_cand hw (i := i) (j := j) (by omega) (by omega) (by rw [HWW.out]; exact hc)
              rw [HWW.out, HXX.out] at HD
              have HD := hid HD
              have Z := l6Zero_c w7 o7.rd
              rw [hzb] at Z
              have Z := hid Z
              clear hzb hc
              go_wp2_with fail
              refine Z.out.mono ?_
              rintro e w' ⟨rfl, rfl⟩
              go_wp2_with fail
              go_ret2
              exact ⟨_, by rw [HD.out]; rfl, by rw [HD.out]; exact ho7.fit (by have := hb3.size; omega) (by omega), b1.trans (hb7.mono t1)⟩
            | false =>
              have hnc : Hid (¬ T.Code (cand W i j)) := by
                intro hc
                rw [HXX.out] at hc
                rw [(zeroB_ls hcel).2 hc] at hzb
                cases hzb
              have Z := l6Zero_c w7 o7.rd
              rw [hzb] at Z
              have Z := hid Z
              clear hzb
              go_wp2_with fail
              refine Z.out.mono ?_
              rintro e w' ⟨rfl, rfl⟩
              go_wp2_with fail
              go_roundw
              case rel =>
                refine ⟨j + 1, by omega, by omega, by go_num, fun j' h1 h2 => ?_, hb7⟩
                by_cases hjj : j' < j
                · exact hall2.out j' h1 hjj
                · obtain rfl : j' = j := by omega
                  exact hnc.out
              case measure => simp [intOf]; omega
          · obtain rfl : i = j := by omega
            have eE := fixE_eq (sy W 0) (sy W 1) i
            have eF := fixF_eq (sy W 0) (sy W 1) i
            have le : fixE (sy W 0) (sy W 1) i i < 16 := fixE_lt
            have lf : fixF (sy W 0) (sy W 1) i i < 16 := fixF_lt
            obtain ⟨f, hf⟩ : ∃ f, fixF (sy W 0) (sy W 1) i i = f := ⟨_, rfl⟩
            rw [hf] at HCA lf eF
            generalize fixE (sy W 0) (sy W 1) i i = e at *
            generalize sy W 0 = a at *
            generalize sy W 1 = b at *
            generalize xel i = x at *
            have EE := hid eE.symm
            have FF := hid eF
            clear eE eF hf hne
            go_wp2_with fail
            refine (PX.out _).mono ?_
            rintro e w' ⟨rfl, rfl⟩
            go_wp2_with fail
            refine (PX.out _).mono ?_
            rintro e w' ⟨rfl, rfl⟩
            go_wp2_with fail
            go_quiet (first | (go_at_call 54; first | exact Calls.quiet_of_same ((specInv_c _ _ (by first | assumption | exact gm_lt _ _ | exact gi_lt _) (by assumption)).mono fun _ _ h => ⟨h.1, h.2.symm⟩) | exact q_at_same (specInv_c _ _ (by first | assumption | exact gm_lt _ _ | exact gi_lt _) (by assumption))) | (go_at_call 34; first | exact Calls.quiet_of_same ((l5Mul_c _ _ _ (by first | assumption | exact gm_lt _ _ | exact gi_lt _) (by first | assumption | exact gm_lt _ _ | exact gi_lt _)).mono fun _ _ h => ⟨h.1, h.2.symm⟩) | exact q_at_same (l5Mul_c _ _ _ (by first | assumption | exact gm_lt _ _ | exact gi_lt _) (by first | assumption | exact gm_lt _ _ | exact gi_lt _))))
            revert nq
            intro nx3
            rw [EE.out]
            obtain rfl := FF.out
            clear FF
            obtain ⟨wu, hwu⟩ : ∃ wu, wt.drewN nx3 = wu := ⟨_, rfl⟩
            rw [hwu]
            have hb3 : Below w1.heap.size w1 wu := by rw [← hwu]; exact below_drewN hb3 _
            clear hwu
            clear t3
            obtain ⟨wt, rfl⟩ : ∃ x, x = wu := ⟨_, rfl⟩
            have t3 := hb3.size
            have R3 := h.below (b1.trans (hb3.mono t1)) hC
            have hE := (Own.empty wt).more (show wt.heap.size + 1 ≤ (wt.alloc (.cells #[] 3)).heap.size by simp)
            have bE := (Below.refl wt.heap.size wt).alloc (Nat.le_refl _) (.cells #[] 3)
            have RE := R3.below bE (by omega)
            clear R3
            go_wp2_with (at_builtin; refine wpl_append intSl _ rfl (.tmp 64) (.tmp 65) rfl wt.heap.size _ C _ _ [] _ rfl rfl hE RE (by rw [HL.out]; decide) (by simp) ?_; intro v4 w4 ho4 g4 _; have b4 := bE.trans (below_of_own hE g4 (Nat.le_refl _) (by simp)); have t4 := b4.size; rw [List.nil_append, ← HX.out] at ho4; obtain ⟨g, cap, rfl, gB, gC, gl⟩ := row15 ho4; have cw := ho4.cell (k := i) (by rw [ls_length]; omega); rw [ls_getD (by omega)] at cw; have cf := ho4.free i; have cw2 := ho4.cell (k := i) (by rw [ls_length]; omega); rw [ls_getD (by omega)] at cw2; have cf2 := ho4.free i; have lw := hW i (by omega); have lw2 := hW i (by omega); have x1 := i64_xor (W i) e (by omega) (by omega); have x2 : bits BinOp.xor IntKind.i64 ((W i ^^^ e : Nat) : Int) 0 = ((W i ^^^ e : Nat) : Int) := (by have := i64_xor (W i ^^^ e) 0 (by have := xor_lt lw le; omega) (by omega); rw [Nat.xor_zero] at this; exact this); clear hE bE RE g4)
            have ho5 := ho4.store i ((W i ^^^ e : Nat) : Int)
            rw [at1_set rfl] at ho5
            have g5 := grown_set (World.grownBy.refl w4 (some g)) (i := i) (.int .i64 ((W i ^^^ e : Nat) : Int))
            have hW5 := at1_el (p := i) hW le
            have ho6 := ho5.store i ((W i ^^^ e : Nat) : Int)
            rw [at1_set (by unfold at1; rw [if_pos rfl, Nat.xor_zero]), ← HCA.out] at ho6
            have g6 := grown_set g5 (i := i) (.int .i64 ((W i ^^^ e : Nat) : Int))
            generalize (w4.setCell ⟨g, i, none⟩ (.int .i64 ((W i ^^^ e : Nat) : Int))).setCell ⟨g, i, none⟩ (.int .i64 ((W i ^^^ e : Nat) : Int)) = w6 at *
            clear cw cf cw2 cf2 x1 x2 lw lw2 ho5 g5
            have t6 : w4.heap.size ≤ w6.heap.size := g6.size
            have hb6 := hb3.trans ((b4.trans (below_of_grown g6 gB gC)).mono hb3.size)
            have hcel : El 15 X := by rw [← HXX.out]; exact cand_el hW
            refine (specSyn_c w6 ho6.rd (by omega)).mono ?_
            rintro e w7 ⟨v7, rfl, o7, b7⟩
            have t7 := b7.size
            have ho7 := ho6.below b7 (by omega)
            have hb7 := hb6.trans (b7.mono hb6.size)
            clear b7 ho6 hb6
            cases hzb : zeroB (synL (lsOf 15 X)) with
            | true =>
              have hc := (zeroB_ls hcel).1 hzb
              rw [← HXX.out] at hc
              have HD := dec_cand hw (i := i) (j := i) (by omega) (by omega) (by rw [HWW.out]; exact hc)
              rw [HWW.out, HXX.out] at HD
              have HD := hid HD
              have Z := l6Zero_c w7 o7.rd
              rw [hzb] at Z
              have Z := hid Z
              clear hzb hc
              go_wp2_with fail
              refine Z.out.mono ?_
              rintro e w' ⟨rfl, rfl⟩
              go_wp2_with fail
              go_ret2
              exact ⟨_, by rw [HD.out]; rfl, by rw [HD.out]; exact ho7.fit (by have := hb3.size; omega) (by omega), b1.trans (hb7.mono t1)⟩
            | false =>
              have hnc : Hid (¬ T.Code (cand W i i)) := by
                intro hc
                rw [HXX.out] at hc
                rw [(zeroB_ls hcel).2 hc] at hzb
                cases hzb
              have Z := l6Zero_c w7 o7.rd
              rw [hzb] at Z
              have Z := hid Z
              clear hzb
              go_wp2_with fail
              refine Z.out.mono ?_
              rintro e w' ⟨rfl, rfl⟩
              go_wp2_with fail
              go_roundw
              case rel =>
                refine ⟨i + 1, by omega, by omega, by go_num, fun j' h1 h2 => ?_, hb7⟩
                by_cases hjj : j' < i
                · exact hall2.out j' h1 hjj
                · obtain rfl : j' = i := by omega
                  exact hnc.out
              case measure => simp [intOf]; omega
        · have dj : decide ((j : Int) < 15) = false := decide_eq_false (by omega)
          go_wp2_with fail
          go_roundw
          case rel =>
            refine ⟨i + 1, by omega, by go_num, fun i' j' h1 h2 h3 => ?_, hb3⟩
            by_cases hii : i' < i
            · exact hall.out i' j' hii h2 h3
            · obtain rfl : i' = i := by omega
              exact hall2.out j' h2 (by omega)
          case measure => simp [intOf]; omega
    · obtain rfl : i = 15 := by omega
      have HD := hid (HDN.out fun i' j h1 h2 => hall.out i' j (by omega) h1 h2)
      have hE := (Own.empty wr).more (show wr.heap.size + 1 ≤ (wr.alloc (.cells #[] 3)).heap.size by simp)
      have bE := (Below.refl wr.heap.size wr).alloc (Nat.le_refl _) (.cells #[] 3)
      go_wp2_with fail
      go_ret2
      exact ⟨_, by rw [HD.out]; rfl, by rw [HD.out]; exact hE.fit (by omega) (Nat.le_refl _), b1.trans ((hb.trans (bE.mono t2)).mono t1)⟩

end Go.Proofs.YtemokfjnbmncbaaDoor
