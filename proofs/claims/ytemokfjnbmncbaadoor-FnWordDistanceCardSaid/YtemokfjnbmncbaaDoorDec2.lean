/-
  Decoding a word, the program's way: two errors.
-/
import Derived.Test.YtemokfjnbmncbaaDoorDec1
namespace Go.Proofs.YtemokfjnbmncbaaDoor
open Go.RowKit T
theorem grown_of_below {w w' : World} {g : Nat} (h : Below w.heap.size w w') : w.grownBy w' (some g) := ⟨h.os, h.tape, h.output, h.size, fun k hk _ => h.block k hk⟩
def ntL (L : List Nat) : List Int := L.map fun (n : Nat) => (n : Int)
theorem ntL_length (L : List Nat) : (ntL L).length = L.length := by simp [ntL]
theorem ntL_snoc (L : List Nat) (k : Nat) : ntL L ++ [(k : Int)] = ntL (L ++ [k]) := by simp [ntL]


set_option maxHeartbeats 4000000 in
theorem correctTwo_c {B C B2 C2 g gs cap cs i : Nat} {W S : Nat → Nat} (w : World) (T1 : TpowersOfTwo w) (T2 : Tlogarithms w) (hS : El 4 S) (hW : El 15 W) (hi : i < 16)
    (hs : Own B2 C2 w (.slice (some ⟨gs, 0, none⟩) 4 cs) (lsOf 4 S)) (ho : Own B C w (.slice (some ⟨g, 0, none⟩) 15 cap) (lsOf 15 W)) (hC : C ≤ w.heap.size) (hC2 : C2 ≤ w.heap.size) (hgl : 3 < g) :
    Calls Tryd.prog 43 #[.slice (some ⟨g, 0, none⟩) 15 cap, .slice (some ⟨gs, 0, none⟩) 4 cs, .int .i64 i] w fun e w' => w.grownBy w' (some g) ∧
      ((d2 (S 0) (S 1) (S 2) (S 3) i = none ∧ e = .returned (.bool false)) ∨
       ∃ p x q y, d2 (S 0) (S 1) (S 2) (S 3) i = some (p, x, q, y) ∧ e = .returned (.bool true) ∧ Own B C w' (.slice (some ⟨g, 0, none⟩) 15 cap) (lsOf 15 (at1 (at1 W p x) q y))) := by
  obtain ⟨c0, c1, c2, c3⟩ := four hs
  obtain ⟨h0, h1, h2, h3⟩ := four_lt hS
  have g0 : g < w.heap.size := by have := (ho.lt g rfl).2; omega
  have gs0 : gs < w.heap.size := by have := (hs.lt gs rfl).2; omega
  have z1 := T1.lt
  have z2 := T2.lt
  clear hs hS
  generalize hSa : S 0 = a at *
  generalize hSb : S 1 = b at *
  generalize hSc : S 2 = c at *
  generalize hSd : S 3 = d at *
  clear hSa hSb hSc hSd
  have x1 := i64_xor (gm c b) (gm d a) (by have := gm_lt c b; omega) (by have := gm_lt d a; omega)
  have x2 := i64_xor (gm b d) (gm c c) (by have := gm_lt b d; omega) (by have := gm_lt c c; omega)
  have l1 : gm c b ^^^ gm d a < 16 := xor_lt (gm_lt _ _) (gm_lt _ _)
  have l2 : gm b d ^^^ gm c c < 16 := xor_lt (gm_lt _ _) (gm_lt _ _)
  go_enter Tryd.func43, Tryd.ntmps43
  go_wp2_with fail
  go_quiet (first | (go_at_call 44; first | exact Calls.quiet_of (FieldInverse_c _ _ (by first | assumption | exact gm_lt _ _ | exact gi_lt _) (T1.drewN _) (T2.drewN _)) | exact q_at (FieldInverse_c _ _ (by first | assumption | exact gm_lt _ _ | exact gi_lt _) (T1.drewN _) (T2.drewN _))) | (go_at_call 36; first | exact Calls.quiet_of (FieldMul_c _ _ _ (by first | assumption | exact gm_lt _ _ | exact gi_lt _) (by first | assumption | exact gm_lt _ _ | exact gi_lt _) (T1.drewN _) (T2.drewN _)) | exact q_at (FieldMul_c _ _ _ (by first | assumption | exact gm_lt _ _ | exact gi_lt _) (by first | assumption | exact gm_lt _ _ | exact gi_lt _) (T1.drewN _) (T2.drewN _))))
  revert nq
  intro nx0
  go_wp2_with fail
  go_quiet (first | (go_at_call 44; first | exact Calls.quiet_of (FieldInverse_c _ _ (by first | assumption | exact gm_lt _ _ | exact gi_lt _) (T1.drewN _) (T2.drewN _)) | exact q_at (FieldInverse_c _ _ (by first | assumption | exact gm_lt _ _ | exact gi_lt _) (T1.drewN _) (T2.drewN _))) | (go_at_call 36; first | exact Calls.quiet_of (FieldMul_c _ _ _ (by first | assumption | exact gm_lt _ _ | exact gi_lt _) (by first | assumption | exact gm_lt _ _ | exact gi_lt _) (T1.drewN _) (T2.drewN _)) | exact q_at (FieldMul_c _ _ _ (by first | assumption | exact gm_lt _ _ | exact gi_lt _) (by first | assumption | exact gm_lt _ _ | exact gi_lt _) (T1.drewN _) (T2.drewN _))))
  revert nq
  intro nx1
  clear x1 x2 l1 l2
  have eA : gm (gm c b ^^^ gm d a) i = cA a b c d i := rfl
  have eB : gm (gm b d ^^^ gm c c) i = cB b c d i := rfl
  rw [drawn_add, eA, eB]
  have lA : cA a b c d i < 16 := gm_lt _ _
  have lB : cB b c d i < 16 := gm_lt _ _
  have HN := hid (fun L => d2_no (s0 := a) (s1 := b) (s2 := c) (s3 := d) (i := i) (L := L))
  have HY := hid (fun x y => d2_yes (s0 := a) (s1 := b) (s2 := c) (s3 := d) (i := i) (x := x) (y := y))
  generalize cA a b c d i = A at *
  generalize cB b c d i = D at *
  clear eA eB
  go_wp2_with (refine wpl_make0 intSl _ rfl (.const (.int .i64 0)) (.const (.int .i64 2)) rfl _ 2 rfl rfl rfl (by omega) ?_; intro w1 oz b1 hlt1)
  have b1 : Below w.heap.size w w1 := (below_drewN (Below.refl _ _) _).trans b1
  go_loopw [9, 10] (fun o x wr => ∃ (k : Nat) (L : List Nat), 1 ≤ k ∧ k ≤ 16 ∧ x = .int .i64 k ∧ Hid (L ++ zerosOf A D (16 - k) = zerosOf A D 15) ∧ L.length < k ∧ Own w.heap.size wr.heap.size wr o (ntL L) ∧ Below w.heap.size w wr) (fun _ x _ => 16 - (intOf x).toNat)
  case atStart => exact ⟨1, [], by omega, by omega, rfl, rfl, by simp, oz, b1⟩
  case round =>
    rename_i wr
    obtain ⟨k, L, hk1, hk, rfl, hL, hLk, oz, hb⟩ := hrel
    have sz := hb.size
    by_cases hlt : k < 16
    · have T1 := T1.below hb z1
      have T2 := T2.below hb z2
      have hz := zeros_step (a := A) (b := D) hk1 hlt
      have y1 := i64_xor (gm k k) (gm A k) (by have := gm_lt k k; omega) (by have := gm_lt A k; omega)
      have y2 := i64_xor (gm k k ^^^ gm A k) D (by have := xor_lt (gm_lt k k) (gm_lt A k); omega) (by omega)
      by_cases h0 : gm k k ^^^ gm A k ^^^ D = 0
      · rw [if_pos h0] at hz
        rw [h0] at y2
        have HL2 : Hid ((L ++ [k]) ++ zerosOf A D (16 - (k + 1)) = zerosOf A D 15) := by show _ = _; rw [← hL.out, hz]; simp
        clear hz h0 hL
        go_wp2_with (first | (go_at_call 36; refine (FieldMul_c _ _ _ ?_ ?_ ?_ ?_).mono ?_; (first | assumption | exact gm_lt _ _); assumption; (first | exact T1 | exact T1.drewN _); (first | exact T2 | exact T2.drewN _); rintro e w' ⟨rfl, q, rfl⟩) | (at_builtin; refine wpl_appl intSl _ rfl (.tmp 64) (.tmp 66) rfl w.heap.size wr.heap.size _ _ _ [(k : Int)] 1 rfl rfl rfl rfl (oz.drewN _) (Nat.le_refl _) (by rw [ntL_length]; omega) sz ?_; intro v' w6 ho6 g6; have hb6 := (below_drewN hb _).trans (below_of_own (oz.drewN _) g6 (Nat.le_refl _) sz); rw [ntL_snoc] at ho6; clear g6))
        go_roundw
        case rel => exact ⟨k + 1, L ++ [k], by omega, by omega, by go_num, HL2, by simp; omega, ho6, hb6⟩
        case measure => simp [intOf]; omega
      · rw [if_neg h0] at hz
        have e0 : (((gm k k ^^^ gm A k ^^^ D : Nat) : Int) == 0) = false := by simp; omega
        have HL2 : Hid (L ++ zerosOf A D (16 - (k + 1)) = zerosOf A D 15) := by show _ = _; rw [← hL.out, hz]
        clear hz h0 hL
        go_wp2_with (go_at_call 36; refine (FieldMul_c _ _ _ ?_ ?_ ?_ ?_).mono ?_; (first | assumption | exact gm_lt _ _); assumption; (first | exact T1 | exact T1.drewN _); (first | exact T2 | exact T2.drewN _); rintro e w' ⟨rfl, q, rfl⟩)
        go_roundw
        case rel => exact ⟨k + 1, L, by omega, by omega, by go_num, HL2, by omega, (oz.drewN _), below_drewN hb _⟩
        case measure => simp [intOf]; omega
    · obtain rfl : k = 16 := by omega
      have eL : zerosOf A D 15 = L := by have := hL.out; simpa [zerosOf] using this.symm
      clear hL
      have gr := grown_of_below (g := g) hb
      by_cases hl2 : L.length = 2
      · obtain ⟨x, y, rfl⟩ : ∃ x y, L = [x, y] := by
          match L, hl2 with
          | [x, y], _ => exact ⟨x, y, rfl⟩
        have HYY := hid (HY.out x y eL)
        have lx := (zeros_lt (a := A) (b := D) 15 (by omega) x (by rw [eL]; simp)).2
        have ly := (zeros_lt (a := A) (b := D) 15 (by omega) y (by rw [eL]; simp)).2
        have lxy : x ^^^ y < 16 := xor_lt lx ly
        rcases oz.form with ⟨hn, _⟩ | ⟨gz, cz, rfl, zB, zC, zl, zm⟩
        · cases hn
        have d0 : wr.cell? ⟨gz, 0, none⟩ = some (.int .i64 (x : Nat)) := oz.cell (k := 0) (by simp [ntL])
        have d1 : wr.cell? ⟨gz, 1, none⟩ = some (.int .i64 (y : Nat)) := oz.cell (k := 1) (by simp [ntL])
        have hz2 : (ntL [x, y]).length = 2 := rfl
        rw [hz2] at zl ⊢
        have c0 := (hb.cell (p := ⟨gs, 0, none⟩) (by simp; omega)).trans c0
        have c1 := (hb.cell (p := ⟨gs, 1, none⟩) (by simp; omega)).trans c1
        have T1 := T1.below hb z1
        have T2 := T2.below hb z2
        have ho := ho.below hb hC
        have x1 := i64_xor b (gm a x) (by omega) (by have := gm_lt a x; omega)
        have x2 := i64_xor x y (by omega) (by omega)
        have x3 := i64_xor a (gm (gm (b ^^^ gm a x) (gi (gm y (x ^^^ y)))) y) (by omega) (by have := gm_lt (gm (b ^^^ gm a x) (gi (gm y (x ^^^ y)))) y; omega)
        have l1 : b ^^^ gm a x < 16 := xor_lt h1 (gm_lt _ _)
        have l3 : a ^^^ gm (gm (b ^^^ gm a x) (gi (gm y (x ^^^ y)))) y < 16 := xor_lt h0 (gm_lt _ _)
        clear HN HY hl2 eL oz zB zC hz2 lA lB c2 c3
        go_wp2_with fail
        go_quiet (fail)
        revert nq
        intro nx2
        go_wp2_with fail
        go_quiet (first | (go_at_call 44; first | exact Calls.quiet_of (FieldInverse_c _ _ (by first | assumption | exact gm_lt _ _ | exact gi_lt _) (T1.drewN _) (T2.drewN _)) | exact q_at (FieldInverse_c _ _ (by first | assumption | exact gm_lt _ _ | exact gi_lt _) (T1.drewN _) (T2.drewN _))) | (go_at_call 36; first | exact Calls.quiet_of (FieldMul_c _ _ _ (by first | assumption | exact gm_lt _ _ | exact gi_lt _) (by first | assumption | exact gm_lt _ _ | exact gi_lt _) (T1.drewN _) (T2.drewN _)) | exact q_at (FieldMul_c _ _ _ (by first | assumption | exact gm_lt _ _ | exact gi_lt _) (by first | assumption | exact gm_lt _ _ | exact gi_lt _) (T1.drewN _) (T2.drewN _))))
        revert nq
        intro nx3
        go_wp2_with fail
        go_quiet (first | (go_at_call 44; first | exact Calls.quiet_of (FieldInverse_c _ _ (by first | assumption | exact gm_lt _ _ | exact gi_lt _) (T1.drewN _) (T2.drewN _)) | exact q_at (FieldInverse_c _ _ (by first | assumption | exact gm_lt _ _ | exact gi_lt _) (T1.drewN _) (T2.drewN _))) | (go_at_call 36; first | exact Calls.quiet_of (FieldMul_c _ _ _ (by first | assumption | exact gm_lt _ _ | exact gi_lt _) (by first | assumption | exact gm_lt _ _ | exact gi_lt _) (T1.drewN _) (T2.drewN _)) | exact q_at (FieldMul_c _ _ _ (by first | assumption | exact gm_lt _ _ | exact gi_lt _) (by first | assumption | exact gm_lt _ _ | exact gi_lt _) (T1.drewN _) (T2.drewN _))))
        revert nq
        intro nx4
        clear x1 x2 x3 l1 l3
        have e1 : gm (b ^^^ gm a x) (gi (gm y (x ^^^ y))) = sec a b x y := rfl
        have e2 : gm (a ^^^ gm (sec a b x y) y) (gi x) = fir a b x y := rfl
        have s1 : sec a b x y < 16 := gm_lt _ _
        have s2 : fir a b x y < 16 := gm_lt _ _
        rw [drawn_add, drawn_add, e1, e2]
        clear e1 e2 d0 d1 c0 c1
        generalize sec a b x y = se at *
        generalize fir a b x y = fi at *
        generalize nx2 + (nx3 + nx4) = q
        have PX := hid (fun V (t : Tlogarithms V) => placeOf_c x V lx t)
        have PY := hid (fun V (t : Tlogarithms V) => placeOf_c y V ly t)
        have hp : 14 - gl x < 15 := by omega
        have hq2 : 14 - gl y < 15 := by omega
        generalize 14 - gl x = px at *
        generalize 14 - gl y = py at *
        have i1 : (px : Int) < 15 := by omega
        have i2 : (py : Int) < 15 := by omega
        have cw := ho.cell (k := px) (by rw [ls_length]; exact hp)
        rw [ls_getD hp] at cw
        have cf := ho.free px
        have w1 := hW px hp
        have x1 := i64_xor (W px) fi (by omega) (by omega)
        have ho2 := (ho.drewN q).store px ((W px ^^^ fi : Nat) : Int)
        rw [at1_set rfl] at ho2
        have hg2 := grown_set (grown_drewN gr q) (i := px) (.int .i64 ((W px ^^^ fi : Nat) : Int))
        have T2s : Tlogarithms ((wr.drewN q).setCell ⟨g, px, none⟩ (.int .i64 ((W px ^^^ fi : Nat) : Int))) := (T2.drewN q).grown (grown_set (World.grownBy.refl _ (some g)) _) T2.lt (fun k hk => by injection hk; omega)
        go_wp2_with fail
        refine (PX.out _ (T2.drewN q)).mono ?_
        rintro e w' ⟨rfl, rfl⟩
        go_wp2_with fail
        generalize (wr.drewN q).setCell ⟨g, px, none⟩ (.int .i64 ((W px ^^^ fi : Nat) : Int)) = w5 at *
        clear x1 cw cf w1
        have hW2 := at1_el (p := px) hW s2
        have cw := ho2.cell (k := py) (by rw [ls_length]; exact hq2)
        rw [ls_getD hq2] at cw
        have cf := ho2.free py
        have w1 := hW2 py hq2
        have x1 := i64_xor (at1 W px fi py) se (by omega) (by omega)
        have ho3 := ho2.store py ((at1 W px fi py ^^^ se : Nat) : Int)
        rw [at1_set rfl] at ho3
        have hg3 := grown_set hg2 (i := py) (.int .i64 ((at1 W px fi py ^^^ se : Nat) : Int))
        refine (PY.out _ T2s).mono ?_
        rintro e w' ⟨rfl, rfl⟩
        go_wp2_with fail
        go_ret
        exact ⟨hg3, .inr ⟨_, _, _, _, HYY.out, rfl, ho3⟩⟩
      · have HNN := hid (HN.out L eL hl2)
        have n1 : ((L.length : Int) != 2) = true := by simp; omega
        clear HN HY hl2 eL
        rcases oz.form with ⟨hn, rfl⟩ | ⟨gz, cz, rfl, zB, zC, zl, zm⟩
        · go_wp2
          go_ret
          exact ⟨gr, .inl ⟨HNN.out, rfl⟩⟩
        · rw [ntL_length] at zl ⊢
          go_wp2
          go_ret
          exact ⟨gr, .inl ⟨HNN.out, rfl⟩⟩

end Go.Proofs.YtemokfjnbmncbaaDoor
