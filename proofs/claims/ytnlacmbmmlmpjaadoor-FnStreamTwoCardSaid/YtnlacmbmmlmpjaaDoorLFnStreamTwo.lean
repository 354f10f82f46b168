/-
  The law FnStreamTwo, walked: for every input the call returns true, and nothing that was there has changed.
-/
import Derived.Test.YtnlacmbmmlmpjaaDoorStreamP
namespace Go.Proofs.YtnlacmbmmlmpjaaDoor
open Go.RowKit T

set_option maxHeartbeats 2000000 in
theorem FnStreamTwo_walk (a0 : Option Addr) (len0 cap0 : Nat) (z0 : List Int) (a1 : Option Addr) (len1 cap1 : Nat) (z1 : List Int) (w : World) (T0 : TtrellisNext w) (T1 : TtrellisOut w) (w0 : IsRow .u8 w a0 len0 cap0 z0) (w1 : IsRow .u8 w a1 len1 cap1 z1) :
    Calls Tryd.prog 7 #[.slice a0 len0 cap0, .slice a1 len1 cap1] w fun e w' => e = .returned (.bool true) ∧ Below w.heap.size w w' := by
  by_cases hl0 : len0 ≤ 1048576
  case neg =>
    have hl0' : 1048576 < len0 := by omega
    go_enter Tryd.func7, Tryd.ntmps7
    go_wp2
    go_ret
    exact ⟨rfl, Below.refl _ _⟩
  by_cases hl1 : len1 ≤ 1048576
  case neg =>
    have hl1' : 1048576 < len1 := by omega
    go_enter Tryd.func7, Tryd.ntmps7
    go_wp2
    go_ret
    exact ⟨rfl, Below.refl _ _⟩
  have B0 := w0.bytes
  have hc0 := B0.le
  have hm0 := B0.cap
  clear w0
  have B1 := w1.bytes
  have hc1 := B1.le
  have hm1 := B1.cap
  clear w1
  have z0_ := T0.lt
  have z1_ := T1.lt
  go_enter Tryd.func7, Tryd.ntmps7
  go_wp2_with fail
  refine (DrawEncodeStream_c _ B0 (Nat.le_refl _)).mono ?_
  rintro e w1 ⟨v1, xs, rfl, O, hxl, bb⟩
  have t1 := bb.size
  go_wp2_with fail
  refine (implEncS_c w1 (T0.below bb z0_) (T1.below bb z1_) O.rd (Nat.le_refl _)).mono ?_
  rintro e w2 ⟨v2, rfl, X, b2⟩
  have t2 := b2.size
  have O := O.below b2 (Nat.le_refl _)
  have bb := bb.trans (b2.mono (by omega))
  go_wp2_with fail
  refine (specEncS_c w2 O.rd (by omega)).mono ?_
  rintro e w3 ⟨v3, rfl, Y, b3⟩
  have t3 := b3.size
  have O := O.below b3 (by omega)
  have X := X.below b3 (by omega)
  have bb := bb.trans (b3.mono (by omega))
  go_wp2_with fail
  refine (sameInts_t _ X.rd Y.rd).mono ?_
  rintro e w4 ⟨rfl, b4⟩
  have t4 := b4.size
  have O := O.below b4 (by omega)
  have X := X.below b4 (by omega)
  have bb := bb.trans (b4.mono (by omega))
  clear b2 b3 b4 Y
  cases hok : sOk xs with
  | false =>
    rw [encS_no hok] at X
    obtain ⟨A, m, c, rfl, Q⟩ := X.rd
    obtain rfl : m = 0 := by rw [← Q.len]; rfl
    clear Q hok X O
    go_wp2_with fail
    refine (alive_c _).mono ?_
    rintro e w5 ⟨rfl, b5⟩
    have bb := bb.trans (b5.mono (by omega))
    go_wp2_with fail
    go_ret
    exact ⟨rfl, bb⟩
  | true =>
    have hlen := encS_length hok
    have hn40 := (sOk_iff.1 hok).2
    have hbx := encS_bits hok
    have HD2 := hid (fun i j u v hu hv => dec_two hok i j u v hu hv)
    have HD1 := hid (fun i => dec_one hok i)
    rcases X.form with ⟨hn, _⟩ | ⟨g, cap, rfl, gB, gC, gl, gm'⟩
    · rw [hn] at hlen; simp at hlen
    generalize hxs : encS xs = zs at *
    clear hok hxs
    obtain ⟨N, hN⟩ : ∃ N, zs.length = N := ⟨_, rfl⟩
    rw [hN] at gl ⊢
    have N4 : 4 ≤ N := by omega
    have N84 : N ≤ 84 := by omega
    obtain ⟨I, hI⟩ : ∃ I, I = len1 % N := ⟨_, rfl⟩
    obtain ⟨J, hJ⟩ : ∃ J, J = len1 / 7 % N := ⟨_, rfl⟩
    have hI2 : I < N := by rw [hI]; exact Nat.mod_lt _ (by omega)
    have hJ2 : J < N := by rw [hJ]; exact Nat.mod_lt _ (by omega)
    have eI : (len1 : Int) % (N : Int) = (I : Int) := by rw [hI, emod_nat]
    have e7 : (len1 : Int) / 7 = ((len1 / 7 : Nat) : Int) := by omega
    have eJ : ((len1 / 7 : Nat) : Int) % (N : Int) = (J : Int) := by rw [hJ, emod_nat]
    have tI : Int.tmod (len1 : Int) (N : Int) = (I : Int) := by rw [hI, tmod_nat]
    have tJ : Int.tmod ((len1 / 7 : Nat) : Int) (N : Int) = (J : Int) := by rw [hJ, tmod_nat]
    generalize len1 / 7 = L7 at *
    have n0 : ((N : Int) == 0) = false := by simp; omega
    have iI : (I : Int) < (N : Int) := by omega
    have iJ : (J : Int) < (N : Int) := by omega
    have c1 := X.cell (k := I) (by omega)
    have f1 := X.free I
    have b1' := bitsOk_at hbx I
    have X2 := X.store I (1 - zs.getD I 0)
    have g2 := grown_set (World.grownBy.refl w4 (some g)) (i := I) (.int .i64 (1 - zs.getD I 0))
    have l1' : (len1 : Int) ≤ 1048576 := by omega
    clear hI hJ
    by_cases hij : J = I
    · subst hij
      have HD := hid (HD1.out J)
      clear HD1 HD2
      have O2 := O.apart g2 (fun k hk => by injection hk; omega)
      have bb2 := bb.trans ((below_of_grown g2 gB (by omega)).mono (show w.heap.size ≤ w1.heap.size by omega))
      have hb2 := set_bits (i := J) hbx (flip_bit hbx J)
      have DD : Hid (Calls Tryd.prog 20 #[.slice (some ⟨g, 0, none⟩) N cap] (w4.setCell ⟨g, J, none⟩ (.int .i64 (1 - zs.getD J 0))) fun e w' => ∃ v', e = .returned v' ∧ Own (w4.setCell ⟨g, J, none⟩ (.int .i64 (1 - zs.getD J 0))).heap.size w'.heap.size w' v' xs ∧ Below (w4.setCell ⟨g, J, none⟩ (.int .i64 (1 - zs.getD J 0))).heap.size (w4.setCell ⟨g, J, none⟩ (.int .i64 (1 - zs.getD J 0))) w') := by
        have := implDecS_c _ (T0.below bb2 z0_) (T1.below bb2 z1_) X2.rd (by simp; omega)
        rw [HD.out, hN] at this
        exact this
      clear X hbx hb2
      generalize zs.getD J 0 = z at *
      go_wp2_with fail
      refine DD.out.mono ?_
      rintro e w6 ⟨v6, rfl, O6, b6⟩
      have O7 := O2.below b6 (by simp; omega)
      have bb3 := bb2.trans (b6.mono (by simp; omega))
      have hz := b6.size
      clear O2 X2 DD
      go_wp2_with fail
      refine (sameInts_t _ O6.rd O7.rd).mono ?_
      rintro e w8 ⟨rfl, b8⟩
      have bb := bb3.trans (b8.mono (by simp at hz; omega))
      go_wp2_with fail
      go_ret
      exact ⟨rfl, bb⟩
    · have n1 : ((J : Int) != (I : Int)) = true := by simp; omega
      have hIJ : I ≠ J := fun e => hij e.symm
      have c2 := X.cell (k := J) (by omega)
      have f2 := X.free J
      have b2' := bitsOk_at hbx J
      have HD := hid (HD2.out I J (1 - zs.getD I 0) (1 - zs.getD J 0) (by omega) (by omega))
      clear HD1 HD2
      have X3 := X2.store J (1 - zs.getD J 0)
      have g3 := grown_set g2 (i := J) (.int .i64 (1 - zs.getD J 0))
      have O2 := O.apart g3 (fun k hk => by injection hk; omega)
      have bb2 := bb.trans ((below_of_grown g3 gB (by omega)).mono (show w.heap.size ≤ w1.heap.size by omega))
      have DD := hid (implDecS_c _ (T0.below bb2 z0_) (T1.below bb2 z1_) X3.rd (by simp; omega))
      have DD : Hid (Calls Tryd.prog 20 #[.slice (some ⟨g, 0, none⟩) N cap] ((w4.setCell ⟨g, I, none⟩ (.int .i64 (1 - zs.getD I 0))).setCell ⟨g, J, none⟩ (.int .i64 (1 - zs.getD J 0))) fun e w' => ∃ v', e = .returned v' ∧ Own ((w4.setCell ⟨g, I, none⟩ (.int .i64 (1 - zs.getD I 0))).setCell ⟨g, J, none⟩ (.int .i64 (1 - zs.getD J 0))).heap.size w'.heap.size w' v' xs ∧ Below ((w4.setCell ⟨g, I, none⟩ (.int .i64 (1 - zs.getD I 0))).setCell ⟨g, J, none⟩ (.int .i64 (1 - zs.getD J 0))).heap.size ((w4.setCell ⟨g, I, none⟩ (.int .i64 (1 - zs.getD I 0))).setCell ⟨g, J, none⟩ (.int .i64 (1 - zs.getD J 0))) w') := by
        have := DD.out
        rw [HD.out, hN] at this
        exact this
      clear X X2 X3 hbx
      generalize zs.getD J 0 = zj at *
      generalize zs.getD I 0 = zi at *
      go_wp2_with fail
      refine DD.out.mono ?_
      rintro e w6 ⟨v6, rfl, O6, b6⟩
      have O7 := O2.below b6 (by simp; omega)
      have bb3 := bb2.trans (b6.mono (by simp; omega))
      have hz := b6.size
      clear O2 DD
      go_wp2_with fail
      refine (sameInts_t _ O6.rd O7.rd).mono ?_
      rintro e w8 ⟨rfl, b8⟩
      have bb := bb3.trans (b8.mono (by simp at hz; omega))
      go_wp2_with fail
      go_ret
      exact ⟨rfl, bb⟩

end Go.Proofs.YtnlacmbmmlmpjaaDoor
