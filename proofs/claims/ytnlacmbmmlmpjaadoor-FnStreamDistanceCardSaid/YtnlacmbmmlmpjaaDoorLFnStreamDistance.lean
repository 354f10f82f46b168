/-
  The law FnStreamDistance, walked: for every input the call returns true, and nothing that was there has changed.
-/
import Derived.Test.YtnlacmbmmlmpjaaDoorStreamL
import Derived.Test.YtnlacmbmmlmpjaaDoorDrawStream
namespace Go.Proofs.YtnlacmbmmlmpjaaDoor
open Go.RowKit

set_option maxHeartbeats 1000000 in
theorem FnStreamDistance_walk (a0 : Option Addr) (len0 cap0 : Nat) (z0 : List Int) (w : World) (T0 : TtrellisNext w) (T1 : TtrellisOut w) (w0 : IsRow .u8 w a0 len0 cap0 z0) :
    Calls Tryd.prog 6 #[.slice a0 len0 cap0] w fun e w' => e = .returned (.bool true) ∧ Below w.heap.size w w' := by
  by_cases hl0 : len0 ≤ 1048576
  case neg =>
    have hl0' : 1048576 < len0 := by omega
    go_enter Tryd.func6, Tryd.ntmps6
    go_wp2
    go_ret
    exact ⟨rfl, Below.refl _ _⟩
  have B0 := w0.bytes
  have l1_ := T0.lt
  have l2_ := T1.lt
  clear w0
  go_enter Tryd.func6, Tryd.ntmps6
  go_wp2_with fail
  refine (DrawAddBits_c _ B0 (Nat.le_refl _)).mono ?_
  rintro e w1 ⟨v1, u1, xs, ys, rfl, O, P, ⟨hlx, hly⟩, bb⟩
  have t1 := bb.size
  go_wp2_with fail
  refine (implEncS_c w1 (T0.below bb l1_) (T1.below bb l2_) O.rd (Nat.le_refl _)).mono ?_
  rintro e w2 ⟨v2, rfl, X, b2⟩
  have t2 := b2.size
  have O := O.below b2 (Nat.le_refl _)
  have P := P.below b2 (Nat.le_refl _)
  have bb := bb.trans (b2.mono (by omega))
  go_wp2_with fail
  refine (implEncS_c w2 (T0.below bb l1_) (T1.below bb l2_) P.rd (by omega)).mono ?_
  rintro e w3 ⟨v3, rfl, Y, b3⟩
  have t3 := b3.size
  have O := O.below b3 (by omega)
  have P := P.below b3 (by omega)
  have X := X.below b3 (by omega)
  have bb := bb.trans (b3.mono (by omega))
  go_wp2_with fail
  refine (specEncS_c w3 O.rd (by omega)).mono ?_
  rintro e w4 ⟨v4, rfl, Z, b4⟩
  have t4 := b4.size
  have O := O.below b4 (by omega)
  have P := P.below b4 (by omega)
  have X := X.below b4 (by omega)
  have Y := Y.below b4 (by omega)
  have bb := bb.trans (b4.mono (by omega))
  go_wp2_with fail
  refine (sameInts_t _ X.rd Z.rd).mono ?_
  rintro e w5 ⟨rfl, b5⟩
  have t5 := b5.size
  have O := O.below b5 (by omega)
  have P := P.below b5 (by omega)
  have X := X.below b5 (by omega)
  have Y := Y.below b5 (by omega)
  have bb := bb.trans (b5.mono (by omega))
  clear b2 b3 b4 b5 Z
  obtain ⟨A1, n1, c1, rfl, R1⟩ := X.rd
  obtain ⟨A2, n2, c2, rfl, R2⟩ := Y.rd
  have hn1 := R1.len
  have hn2 := R2.len
  have hsm1 := R1.sm
  have hsm2 := R2.sm
  by_cases hgo : n1 = 0 ∨ ¬ n1 = n2
  case pos =>
    have fin : n1 = 0 ∨ (¬ n1 = 0 ∧ ¬ n1 = n2) := by omega
    clear hgo hn1 hn2 R1 R2
    rcases fin with rfl | ⟨h1, h2⟩
    · go_wp2_with fail
      refine (alive_c _).mono ?_
      rintro e w6 ⟨rfl, b6⟩
      have bb := bb.trans (b6.mono (by omega))
      go_wp2_with fail
      go_ret
      exact ⟨rfl, bb⟩
    · have e1 : ((n1 : Int) == 0) = false := by simp; omega
      have e2 : ((n1 : Int) != (n2 : Int)) = true := by simp; omega
      have H1 := hid h1
      have H2 := hid h2
      clear h1 h2
      go_wp2_with fail
      refine (alive_c _).mono ?_
      rintro e w6 ⟨rfl, b6⟩
      have bb := bb.trans (b6.mono (by omega))
      go_wp2_with fail
      go_ret
      exact ⟨rfl, bb⟩
  case neg =>
    have e1 : ((n1 : Int) == 0) = false := by simp; omega
    obtain rfl : n1 = n2 := by omega
    have okx : sOk xs = true := by
      cases h : sOk xs with
      | true => rfl
      | false => rw [encS_no h] at hn1; simp at hn1; omega
    have oky : sOk ys = true := by
      cases h : sOk ys with
      | true => rfl
      | false => rw [encS_no h] at hn2; simp at hn2; omega
    have hll : xs.length = ys.length := by
      rw [encS_length okx] at hn1
      rw [encS_length oky] at hn2
      omega
    have RX : Rd w2.heap.size w5 (.slice A1 n1 c1) (encS xs) := ⟨_, _, _, rfl, R1⟩
    have RY : Rd w3.heap.size w5 (.slice A2 n1 c2) (encS ys) := ⟨_, _, _, rfl, R2⟩
    have HS := sameInts_c w5 O.rd P.rd
    have HM := fun W (b : Below w5.heap.size w5 W) => hamming_c W (RX.below b (by omega)) (RY.below b (by omega))
    by_cases hxy : xs = ys
    · rw [show eqB xs ys = true by rw [hxy]; exact eqB_self _] at HS
      have HS := hid HS
      clear hgo hn1 hn2 R1 R2 okx oky hll RX RY HM hxy
      go_wp2_with fail
      refine HS.out.mono ?_
      rintro e w6 ⟨rfl, q, rfl⟩
      go_wp2_with fail
      go_ret
      exact ⟨rfl, below_drewN bb q⟩
    · have hfar := code_far okx oky hll hxy
      rw [eqB_ne hxy] at HS
      have HS := hid HS
      have HM := hid HM
      have b5 := Below.refl w5.heap.size w5
      generalize hd (encS xs) (encS ys) = D at HM hfar
      clear hgo hn1 hn2 R1 R2 okx oky hll RX RY hxy
      go_wp2_with fail
      refine HS.out.mono ?_
      rintro e w6 ⟨rfl, q, rfl⟩
      go_wp2_with fail
      refine (HM.out _ (below_drewN b5 q)).mono ?_
      rintro e w7 ⟨rfl, q2, rfl⟩
      go_wp2_with fail
      go_ret
      exact ⟨ret_bool (by first | (simp; done) | (simp; omega)), below_drewN bb _⟩

end Go.Proofs.YtnlacmbmmlmpjaaDoor
