/-
  Decoding a word, the program's way: the whole.
-/
import Derived.Test.YtemokfjnbmncbaaDoorDec2
namespace Go.Proofs.YtemokfjnbmncbaaDoor
open Go.RowKit T

set_option maxHeartbeats 1000000 in
theorem implSyn_nil {C : Nat} {v : Value} {xs : List Int} (w : World) (h : Rd C w v xs) (s1 : wOk xs = false) :
    Calls Tryd.prog 20 #[v] w fun e w' => e = .returned (.slice none 0 0) ∧ w = w' := by
  have Q := isWord_c w h
  rw [s1] at Q
  have Q := hid Q
  clear s1
  go_enter Tryd.func20, Tryd.ntmps20
  go_wp2_with fail
  refine Q.out.mono ?_
  rintro e w' ⟨rfl, rfl⟩
  go_wp2
  go_ret
  exact ⟨rfl, rfl⟩
def DecS (xs : List Int) (w : World) (e : Ending) (w' : World) : Prop :=
  ∃ v', e = .returned (.tuple #[v', .bool (decL xs).isSome]) ∧ Own w.heap.size w'.heap.size w' v' ((decL xs).getD []) ∧ Below w.heap.size w w'
theorem fix_none (W : Nat → Nat) : fixL W (0, 0, 0, 0) = lsOf 15 W := ls_congr fun k _ => by unfold two one; simp
theorem fix_one' (W : Nat → Nat) (p x : Nat) : fixL W (p, x, 0, 0) = lsOf 15 (at1 W p x) := by rw [at1_one]; rfl
theorem fix_two' (W : Nat → Nat) (p x q y : Nat) : fixL W (p, x, q, y) = lsOf 15 (at1 (at1 W p x) q y) := by rw [at1_two]; rfl
set_option maxHeartbeats 4000000 in
theorem implDec_c {C : Nat} {v : Value} {xs : List Int} (w : World) (T1 : TpowersOfTwo w) (T2 : Tlogarithms w) (T3 : TwordZeros w) (h : Rd C w v xs) (hC : C ≤ w.heap.size) :
    Calls Tryd.prog 22 #[v] w (DecS xs w) := by
  cases s1 : wOk xs with
  | false =>
    have H := hid (decL_no s1)
    have Q := hid (implSyn_nil w h s1)
    clear s1 T1 T2 T3
    have sn := fun (W : World) (A : Option Addr) (n c : Nat) => Lib.run_eql_slice_nil (P := Tryd.prog) W 22 3 A n c 0 0 Tryd.underlying22
    go_enter Tryd.func22, Tryd.ntmps22
    go_wp2_with fail
    refine Q.out.mono ?_
    rintro e w' ⟨rfl, rfl⟩
    go_wp2
    go_ret2
    exact ⟨_, by rw [H.out]; rfl, by rw [H.out]; exact Own.nil _ _ _, Below.refl _ _⟩
  | true =>
    obtain ⟨he, hl⟩ := wOk_iff.1 s1
    have hD : decL xs = (dec (sy (fnOf xs) 0) (sy (fnOf xs) 1) (sy (fnOf xs) 2) (sy (fnOf xs) 3)).map (fixL (fnOf xs)) := by rw [decL, if_pos s1]; rfl
    rw [dec_parts] at hD
    have Q := implSyn_c w T1 T2 T3 h hC
    rw [synL_yes s1] at Q
    have Q := hid Q
    have hX := ls_fn he
    rw [hl] at hX
    have HX := hid hX
    have HL := hid hl
    have hW := fn_el he 15
    have hS : El 4 (sy (fnOf xs)) := fun m _ => sy_lt hW
    have z1 := T1.lt
    have z2 := T2.lt
    clear s1 he hl hX T3
    have sn := fun (W : World) (A : Option Addr) (n c : Nat) => Lib.run_eql_slice_nil (P := Tryd.prog) W 22 3 A n c 0 0 Tryd.underlying22
    go_enter Tryd.func22, Tryd.ntmps22
    go_wp2_with fail
    refine Q.out.mono ?_
    rintro e w1 ⟨sv, rfl, os, b1⟩
    have t1 := b1.size
    rcases os.form with ⟨hn, _⟩ | ⟨gs, cs, rfl, sB, sC, sl, sm⟩
    · have := congrArg List.length hn
      rw [ls_length] at this; cases this
    rw [ls_length] at os sl ⊢
    have R1 := h.below b1 hC
    have hE := (Own.empty w1).more (show w1.heap.size + 1 ≤ (w1.alloc (.cells #[] 3)).heap.size by simp)
    have bE := (Below.refl w1.heap.size w1).alloc (Nat.le_refl _) (.cells #[] 3)
    have RE := R1.below bE (by omega)
    have osE := os.below bE (Nat.le_refl _)
    clear R1 os
    go_wp2_with (at_builtin; refine wpl_append intSl _ rfl (.tmp 11) (.tmp 12) rfl w1.heap.size _ C _ _ [] _ rfl rfl hE RE (by rw [HL.out]; decide) (by simp) ?_; intro v2 w2 ho g2 _; have b2 := bE.trans (below_of_own hE g2 (Nat.le_refl _) (by simp)); have t2 := b2.size; rw [List.nil_append, ← HX.out] at ho; have os := osE.apart g2 (fun k hk => .inr (hE.lt k hk).1); clear hE bE RE osE g2)
    rcases ho.form with ⟨hn, _⟩ | ⟨g, cap, rfl, gB, gC, gl, gm'⟩
    · have := congrArg List.length hn
      rw [ls_length] at this; cases this
    rw [ls_length] at ho gl ⊢
    have bb := b1.trans (b2.mono t1)
    have T1 := T1.below bb z1
    have T2 := T2.below bb z2
    obtain ⟨c0, c1, c2, c3⟩ := four os
    obtain ⟨h0, h1, h2, h3⟩ := four_lt hS
    clear b1 b2
    generalize hSS : sy (fnOf xs) = S at *
    clear hSS
    generalize fnOf xs = W at *
    have ONE := hid (fun V (t1 : TpowersOfTwo V) (t2 : Tlogarithms V) (o : Own w.heap.size w1.heap.size V (.slice (some ⟨gs, 0, none⟩) 4 cs) (lsOf 4 S)) => correctOne_no (g := g) (cap := cap) V t1 t2 hS o)
    have ONEY := hid (fun p x V (t1 : TpowersOfTwo V) (t2 : Tlogarithms V) (o : Own w.heap.size w1.heap.size V (.slice (some ⟨gs, 0, none⟩) 4 cs) (lsOf 4 S)) (u : Own w1.heap.size w2.heap.size V (.slice (some ⟨g, 0, none⟩) 15 cap) (lsOf 15 W)) => correctOne_yes (p := p) (x := x) V t1 t2 hS hW o u)
    have TWO := hid (fun i (hi : i < 16) V (t1 : TpowersOfTwo V) (t2 : Tlogarithms V) (o : Own w.heap.size w1.heap.size V (.slice (some ⟨gs, 0, none⟩) 4 cs) (lsOf 4 S)) (u : Own w1.heap.size w2.heap.size V (.slice (some ⟨g, 0, none⟩) 15 cap) (lsOf 15 W)) => correctTwo_c (i := i) V t1 t2 hS hW hi o u)
    have hSS := hid hS
    clear hS
    have HTWO : Hid (∀ i : Nat, i < 16 → ∀ V : World, w2.heap.size ≤ V.heap.size → TpowersOfTwo V → Tlogarithms V → Own w.heap.size w1.heap.size V (.slice (some ⟨gs, 0, none⟩) 4 cs) (lsOf 4 S) → Own w1.heap.size w2.heap.size V (.slice (some ⟨g, 0, none⟩) 15 cap) (lsOf 15 W) →
        Calls Tryd.prog 43 #[.slice (some ⟨g, 0, none⟩) 15 cap, .slice (some ⟨gs, 0, none⟩) 4 cs, .int .i64 i] V fun e w' => V.grownBy w' (some g) ∧
      ((d2 (S 0) (S 1) (S 2) (S 3) i = none ∧ e = .returned (.bool false)) ∨
       ∃ p x q y, d2 (S 0) (S 1) (S 2) (S 3) i = some (p, x, q, y) ∧ e = .returned (.bool true) ∧ Own w1.heap.size w2.heap.size w' (.slice (some ⟨g, 0, none⟩) 15 cap) (lsOf 15 (at1 (at1 W p x) q y)))) := fun i hi V hs t1 t2 o u => TWO.out i hi V t1 t2 o u hs (by omega) (by omega)
    clear TWO
    generalize S 0 = a at *
    generalize S 1 = b at *
    generalize S 2 = c at *
    generalize S 3 = d at *
    have x1 := i64_xor (gm b b) (gm a c) (by have := gm_lt b b; omega) (by have := gm_lt a c; omega)
    have y1 := i64_or a b (by omega) (by omega)
    have y2 := i64_or (a ||| b) c (by have := or_lt h0 h1; omega) (by omega)
    have y3 := i64_or (a ||| b ||| c) d (by have := or_lt (or_lt h0 h1) h2; omega) (by omega)
    have hor := or_zero4 (a := a) (b := b) (c := c) (d := d)
    have ldet : gm b b ^^^ gm a c < 16 := xor_lt (gm_lt _ _) (gm_lt _ _)
    by_cases hz : a = 0 ∧ b = 0 ∧ c = 0 ∧ d = 0
    · rw [if_pos hz, Option.map_some, fix_none] at hD
      have HD := hid hD
      rw [hor.2 hz] at y3
      clear hor hz hD ONE ONEY HTWO
      go_wp2_with fail
      go_quiet (first | (go_at_call 44; first | exact Calls.quiet_of (FieldInverse_c _ _ (by first | assumption | exact gm_lt _ _ | exact gi_lt _) (T1.drewN _) (T2.drewN _)) | exact q_at (FieldInverse_c _ _ (by first | assumption | exact gm_lt _ _ | exact gi_lt _) (T1.drewN _) (T2.drewN _))) | (go_at_call 36; first | exact Calls.quiet_of (FieldMul_c _ _ _ (by first | assumption | exact gm_lt _ _ | exact gi_lt _) (by first | assumption | exact gm_lt _ _ | exact gi_lt _) (T1.drewN _) (T2.drewN _)) | exact q_at (FieldMul_c _ _ _ (by first | assumption | exact gm_lt _ _ | exact gi_lt _) (by first | assumption | exact gm_lt _ _ | exact gi_lt _) (T1.drewN _) (T2.drewN _))))
      revert nq
      intro nx0
      go_wp2_with fail
      go_quiet (fail)
      revert nq
      intro nx1
      go_wp2_with fail
      go_ret2
      exact ⟨_, by rw [HD.out]; rfl, by rw [HD.out]; exact ((ho.drewN _).drewN _).fit (by omega) (Nat.le_refl _), below_drewN (below_drewN bb _) _⟩
    rw [if_neg hz] at hD
    have e0 : (((a ||| b ||| c ||| d : Nat) : Int) == 0) = false := by
      have : a ||| b ||| c ||| d ≠ 0 := fun e => hz (hor.1 e)
      simp; omega
    clear hor hz
    generalize a ||| b ||| c ||| d = OR at *
    by_cases hd0 : gm b b ^^^ gm a c = 0
    · rw [if_pos hd0] at hD
      rw [hd0] at x1
      cases hd1 : d1 a b c d with
      | none =>
        rw [hd1, Option.map_none, Option.map_none] at hD
        have HD := hid hD
        have ONE := hid (fun V t1 t2 o => ONE.out V t1 t2 o hd1)
        clear hd0 hd1 hD ONEY HTWO
        go_wp2_with fail
        go_quiet (first | (go_at_call 44; first | exact Calls.quiet_of (FieldInverse_c _ _ (by first | assumption | exact gm_lt _ _ | exact gi_lt _) (T1.drewN _) (T2.drewN _)) | exact q_at (FieldInverse_c _ _ (by first | assumption | exact gm_lt _ _ | exact gi_lt _) (T1.drewN _) (T2.drewN _))) | (go_at_call 36; first | exact Calls.quiet_of (FieldMul_c _ _ _ (by first | assumption | exact gm_lt _ _ | exact gi_lt _) (by first | assumption | exact gm_lt _ _ | exact gi_lt _) (T1.drewN _) (T2.drewN _)) | exact q_at (FieldMul_c _ _ _ (by first | assumption | exact gm_lt _ _ | exact gi_lt _) (by first | assumption | exact gm_lt _ _ | exact gi_lt _) (T1.drewN _) (T2.drewN _))))
        revert nq
        intro nx0
        go_wp2_with fail
        go_quiet (fail)
        revert nq
        intro nx1
        go_wp2_with fail
        refine (ONE.out _ (T1.drewN _) (T2.drewN _) (os.drewN _)).mono ?_
        rintro e w' ⟨rfl, q, rfl⟩
        go_wp2_with fail
        go_ret2
        exact ⟨_, by rw [HD.out]; rfl, by rw [HD.out]; exact Own.nil _ _ _, below_drewN bb _⟩
      | some z =>
        obtain ⟨p, x⟩ := z
        rw [hd1, Option.map_some, Option.map_some, fix_one'] at hD
        have HD := hid hD
        have ONEY := hid (fun V t1 t2 o u => ONEY.out p x V t1 t2 o u hd1)
        clear hd0 hd1 hD ONE HTWO
        go_wp2_with fail
        go_quiet (first | (go_at_call 44; first | exact Calls.quiet_of (FieldInverse_c _ _ (by first | assumption | exact gm_lt _ _ | exact gi_lt _) (T1.drewN _) (T2.drewN _)) | exact q_at (FieldInverse_c _ _ (by first | assumption | exact gm_lt _ _ | exact gi_lt _) (T1.drewN _) (T2.drewN _))) | (go_at_call 36; first | exact Calls.quiet_of (FieldMul_c _ _ _ (by first | assumption | exact gm_lt _ _ | exact gi_lt _) (by first | assumption | exact gm_lt _ _ | exact gi_lt _) (T1.drewN _) (T2.drewN _)) | exact q_at (FieldMul_c _ _ _ (by first | assumption | exact gm_lt _ _ | exact gi_lt _) (by first | assumption | exact gm_lt _ _ | exact gi_lt _) (T1.drewN _) (T2.drewN _))))
        revert nq
        intro nx2
        go_wp2_with fail
        go_quiet (fail)
        revert nq
        intro nx3
        go_wp2_with fail
        refine (ONEY.out _ (T1.drewN _) (T2.drewN _) (os.drewN _) (ho.drewN _)).mono ?_
        rintro e w' ⟨rfl, ho3, hg3⟩
        go_wp2_with fail
        go_ret2
        have s3 := hg3.size
        have s3' : w2.heap.size ≤ w'.heap.size := s3
        exact ⟨_, by rw [HD.out]; rfl, by rw [HD.out]; exact ho3.fit (by omega) s3', (below_drewN bb _).trans (below_of_grown hg3 (by omega) (show g < w2.heap.size by omega))⟩
    · rw [if_neg hd0] at hD
      have n0 : (((gm b b ^^^ gm a c : Nat) : Int) == 0) = false := by simp; omega
      generalize gm b b ^^^ gm a c = det at *
      clear hd0 ONE ONEY
      have HDD := hid hD
      clear hD
      go_wp2_with fail
      go_quiet (first | (go_at_call 44; first | exact Calls.quiet_of (FieldInverse_c _ _ (by first | assumption | exact gm_lt _ _ | exact gi_lt _) (T1.drewN _) (T2.drewN _)) | exact q_at (FieldInverse_c _ _ (by first | assumption | exact gm_lt _ _ | exact gi_lt _) (T1.drewN _) (T2.drewN _))) | (go_at_call 36; first | exact Calls.quiet_of (FieldMul_c _ _ _ (by first | assumption | exact gm_lt _ _ | exact gi_lt _) (by first | assumption | exact gm_lt _ _ | exact gi_lt _) (T1.drewN _) (T2.drewN _)) | exact q_at (FieldMul_c _ _ _ (by first | assumption | exact gm_lt _ _ | exact gi_lt _) (by first | assumption | exact gm_lt _ _ | exact gi_lt _) (T1.drewN _) (T2.drewN _))))
      revert nq
      intro nx4
      go_wp2_with fail
      go_quiet (fail)
      revert nq
      intro nx5
      go_wp2_with fail
      refine (FieldInverse_c _ _ ldet (T1.drewN _) (T2.drewN _)).mono ?_
      rintro e w' ⟨rfl, q, rfl⟩
      go_wp2_with fail
      refine (HTWO.out _ (gi_lt _) (w2.drewN _) (Nat.le_refl _) (T1.drewN _) (T2.drewN _) (os.drewN _) (ho.drewN _)).mono ?_
      rintro e w' ⟨hg3, hor⟩
      have s3' : w2.heap.size ≤ w'.heap.size := hg3.size
      have bb3 := (below_drewN bb _).trans (below_of_grown hg3 (by omega) (show g < w2.heap.size by omega))
      rcases hor with ⟨hd2, rfl⟩ | ⟨p, x, q', y, hd2, rfl, ho3⟩
      · have HD := HDD.out
        rw [hd2, Option.map_none] at HD
        have HD := hid HD
        clear hd2 HDD
        go_wp2_with fail
        go_ret2
        exact ⟨_, by rw [HD.out]; rfl, by rw [HD.out]; exact Own.nil _ _ _, bb3⟩
      · have HD := HDD.out
        rw [hd2, Option.map_some, fix_two'] at HD
        have HD := hid HD
        clear hd2 HDD
        go_wp2_with fail
        go_ret2
        exact ⟨_, by rw [HD.out]; rfl, by rw [HD.out]; exact ho3.fit (by omega) s3', bb3⟩

end Go.Proofs.YtemokfjnbmncbaaDoor
