/-
  The law FnWordDistance, walked: for every input the call returns true, and nothing that was there has changed.
-/
import Derived.Test.YtemokfjnbmncbaaDoorDecU
import Derived.Test.YtemokfjnbmncbaaDoorDrawDist
namespace Go.Proofs.YtemokfjnbmncbaaDoor
open Go.RowKit T

theorem take_ok {xs : List Int} (h : wOk xs = true) : dOk (xs.take 11) = true := by
  obtain ⟨he, hl⟩ := wOk_iff.1 h
  refine dOk_iff.2 ⟨?_, by rw [List.length_take, hl]; rfl⟩
  unfold elems at he ⊢
  rw [List.all_eq_true] at he ⊢
  exact fun x hx => he x (List.mem_of_mem_take hx)
theorem enc_dist {xs ys : List Int} (h : wOk xs = true) (k : wOk ys = true) : (xs.take 11 = ys.take 11 ∧ distL (encL (xs.take 11)) (encL (ys.take 11)) = 0) ∨ (xs.take 11 ≠ ys.take 11 ∧ 5 ≤ distL (encL (xs.take 11)) (encL (ys.take 11))) := by
  have hx := take_ok h
  have hy := take_ok k
  by_cases e : xs.take 11 = ys.take 11
  · rw [e]; exact .inl ⟨rfl, dist_self (encL_wOk hy)⟩
  · refine .inr ⟨e, ?_⟩
    have h1 := encL_code hx
    have h2 := encL_code hy
    rw [distL_yes h1.1 h2.1]
    by_cases hc : cnt (dif (fnOf (encL (xs.take 11))) (fnOf (encL (ys.take 11)))) 15 ≤ 4
    · refine absurd ?_ e
      have hf := far h2.2 h1.2 hc
      rw [← ls_fn (dOk_iff.1 hx).1, ← ls_fn (dOk_iff.1 hy).1, (dOk_iff.1 hx).2, (dOk_iff.1 hy).2]
      refine ls_congr fun i hi => ?_
      have := hf i (by omega)
      rw [encL_yes hx, encL_yes hy, fn_ls (by omega), fn_ls (by omega), enc_head hi, enc_head hi] at this
      exact this.symm
    · generalize cnt (dif (fnOf (encL (xs.take 11))) (fnOf (encL (ys.take 11)))) 15 = c at *
      omega
theorem dist_zero {xs ys : List Int} (h : wOk xs = true) (k : wOk ys = true) : distL xs ys = 0 ↔ xs = ys := by
  rw [distL_yes h k, ← dif_list h k]
  generalize cnt (dif (fnOf xs) (fnOf ys)) 15 = c
  omega

set_option maxHeartbeats 4000000 in
theorem FnWordDistance_walk (a0 : Option Addr) (len0 cap0 : Nat) (z0 : List Int) (w : World) (T0 : TpowersOfTwo w) (T1 : Tlogarithms w) (T2 : TwordGenerator w) (w0 : IsRow .u8 w a0 len0 cap0 z0) :
    Calls Tryd.prog 11 #[.slice a0 len0 cap0] w fun e w' => e = .returned (.bool true) ∧ Below w.heap.size w w' := by
  by_cases hl0 : len0 ≤ 1048576
  case neg =>
    have hl0' : 1048576 < len0 := by omega
    go_enter Tryd.func11, Tryd.ntmps11
    go_wp2
    go_ret
    exact ⟨rfl, Below.refl _ _⟩
  have B0 := w0.bytes
  have hc0 := B0.le
  have hm0 := B0.cap
  clear w0
  have z0_ := T0.lt
  have z1_ := T1.lt
  have z2_ := T2.lt
  go_enter Tryd.func11, Tryd.ntmps11
  go_wp2_with fail
  refine (DrawWordDistance_c _ B0 (Nat.le_refl _)).mono ?_
  rintro e w1 ⟨v1, u1, xs, ys, rfl, O, P, hll, bb⟩
  have t1 := bb.size
  have D1 := hid (fun q => implDist_c (w1.drewN q) (O.drewN q).rd (P.drewN q).rd)
  have D2 := hid (fun q => specDist_c (w1.drewN q) (O.drewN q).rd (P.drewN q).rd)
  have D3 := fun q => implDist_c (w1.drewN q) (P.drewN q).rd (O.drewN q).rd
  rw [dist_comm ys xs] at D3
  have D3 := hid D3
  by_cases hok : wOk xs = true ∧ wOk ys = true
  case neg =>
    have hd : distL xs ys = -1 := distL_no (by
      cases h : wOk xs with
      | false => exact .inl rfl
      | true =>
        right
        cases k : wOk ys with
        | false => rfl
        | true => exact absurd ⟨h, k⟩ hok)
    rw [hd] at D1 D2 D3
    clear hok hd
    go_wp2_with fail
    refine (D1.out 0).mono ?_
    rintro e w' ⟨rfl, q1, rfl⟩
    go_wp2_with fail
    refine (D2.out _).mono ?_
    rintro e w' ⟨rfl, q2, rfl⟩
    go_wp2_with fail
    refine (D3.out _).mono ?_
    rintro e w' ⟨rfl, q3, rfl⟩
    go_wp2_with fail
    refine (alive_c _).mono ?_
    rintro e w5 ⟨rfl, b5⟩
    have bb := (below_drewN bb _).trans (b5.mono t1)
    go_wp2_with fail
    go_ret
    exact ⟨rfl, bb⟩
  obtain ⟨hx, hy⟩ := hok
  have hlx := (wOk_iff.1 hx).2
  have hly := (wOk_iff.1 hy).2
  have hz := dist_zero hx hy
  have hed := enc_dist hx hy
  have hnn : 0 ≤ distL xs ys := by rw [distL_yes hx hy]; exact Int.natCast_nonneg _
  obtain ⟨A1, n1, c1, rfl, R1⟩ := O.rd
  obtain rfl : n1 = 15 := by rw [← R1.len]; exact hlx
  obtain ⟨A2, n2, c2, rfl, R2⟩ := P.rd
  obtain rfl : n2 = 15 := by rw [← R2.len]; exact hly
  have RA : Rd w1.heap.size w1 (.slice A1 15 c1) xs := ⟨_, _, _, rfl, R1⟩
  have RB : Rd w1.heap.size w1 (.slice A2 15 c2) ys := ⟨_, _, _, rfl, R2⟩
  have RA2 : Rd w1.heap.size w1 (.slice A1 11 c1) (xs.take 11) := ⟨_, _, _, rfl, R1.till (k := 11) (by omega)⟩
  have RB2 : Rd w1.heap.size w1 (.slice A2 11 c2) (ys.take 11) := ⟨_, _, _, rfl, R2.till (k := 11) (by omega)⟩
  have ic1 : (11 : Int) ≤ (c1 : Int) := by have := R1.le; omega
  have ic2 : (11 : Int) ≤ (c2 : Int) := by have := R2.le; omega
  have ic3 : 11 ≤ c1 := by omega
  have ic4 : 11 ≤ c2 := by omega
  clear R1 R2 hlx hly hx hy O P
  generalize hd0 : distL xs ys = n at *
  clear hd0
  have BZ : Hid (∀ q, Below w1.heap.size w1 (w1.drewN q)) := fun q => below_drewN (Below.refl _ _) q
  have EA := hid (fun V (b : Below w1.heap.size w1 V) => implEnc_c V (((T0.below bb z0_)).below b (by omega)) (((T1.below bb z1_)).below b (by omega)) (((T2.below bb z2_)).below b (by omega)) (RA2.below b (Nat.le_refl _)) b.size)
  have EB := hid (fun V (b : Below w1.heap.size w1 V) => implEnc_c V (((T0.below bb z0_)).below b (by omega)) (((T1.below bb z1_)).below b (by omega)) (((T2.below bb z2_)).below b (by omega)) (RB2.below b (Nat.le_refl _)) b.size)
  have ED := hid (fun V (C D : Nat) (v u : Value) (r : Rd C V v (encL (xs.take 11))) (s : Rd D V u (encL (ys.take 11))) => implDist_c V r s)
  have SAB := hid (fun V (b : Below w1.heap.size w1 V) => sameInts_c V (RA.below b (Nat.le_refl _)) (RB.below b (Nat.le_refl _)))
  have SAB2 := hid (fun V (b : Below w1.heap.size w1 V) => sameInts_c V (RA2.below b (Nat.le_refl _)) (RB2.below b (Nat.le_refl _)))
  generalize distL (encL (xs.take 11)) (encL (ys.take 11)) = dd at hed ED
  have NN := hid hnn
  have n0 : ¬ n < 0 := by omega
  clear RA RB RA2 RB2 hnn
  go_wp2_with fail
  refine (D1.out 0).mono ?_
  rintro e w' ⟨rfl, q1, rfl⟩
  go_wp2_with fail
  refine (D2.out _).mono ?_
  rintro e w' ⟨rfl, q2, rfl⟩
  go_wp2_with fail
  refine (D3.out _).mono ?_
  rintro e w' ⟨rfl, q3, rfl⟩
  clear D1 D2 D3
  go_wp2_with fail
  go_region_with (first | (go_at_call 15; (with_reducible refine (EA.out _ ?_).mono ?_); (first | exact BB.out | exact BZ.out _); rintro e wp ⟨va, rfl, oa, ba⟩; (first | (have OB2 := hid (OB.out.below ba (Nat.le_refl _)); have BB2 := hid (BB.out.trans (ba.mono BB.out.size))) | (have BB : Hid (Below w1.heap.size w1 wp) := (BZ.out _).trans (ba.mono (Nat.le_refl _)))); have OA := hid oa) | (go_at_call 15; (with_reducible refine (EB.out _ ?_).mono ?_); (first | exact BB.out | exact BZ.out _); rintro e wq ⟨vb, rfl, ob, bq⟩; (first | (have OA2 := hid (OA.out.below bq (Nat.le_refl _)); have BB2 := hid (BB.out.trans (bq.mono BB.out.size))) | (have BB : Hid (Below w1.heap.size w1 wq) := (BZ.out _).trans (bq.mono (Nat.le_refl _)))); have OB := hid ob) | (go_at_call 27; (first | (with_reducible refine (ED.out _ _ _ _ _ OA2.out.rd OB.out.rd).mono ?_) | (with_reducible refine (ED.out _ _ _ _ _ OA.out.rd OB2.out.rd).mono ?_)); rintro e wz ⟨rfl, qz, rfl⟩))
  all_goals
    have BB3 := hid (fun q => below_drewN BB2.out q)
    by_cases hxy : xs = ys
    · have h11 : xs.take 11 = ys.take 11 := by rw [hxy]
      obtain rfl : n = 0 := hz.2 hxy
      obtain rfl : dd = 0 := by
        rcases hed with ⟨_, h⟩ | ⟨h, _⟩
        · exact h
        · exact absurd h11 h
      have S1 := hid (fun q => by have := SAB.out _ (BB3.out q); rw [hxy, eqB_self] at this; exact this)
      have S2 := hid (fun q => by have := SAB2.out _ (BB3.out q); rw [h11, eqB_self] at this; exact this)
      clear hz hed hxy h11
      as_aux_lemma =>
        go_wp2_with fail
        go_quiet ((go_at_call 24; first | (with_reducible exact Calls.quiet_of (S1.out _)) | (with_reducible exact q_at (S1.out _)) | (with_reducible exact Calls.quiet_of (S2.out _)) | (with_reducible exact q_at (S2.out _))))
        go_wp2_with fail
        go_ret
        exact ⟨rfl, bb.trans ((below_drewN (BB3.out _) _).mono (by omega))⟩
    · have e1 := eqB_ne hxy
      have nz : (n == 0) = false := by simp; exact fun h => hxy (hz.1 h)
      rcases hed with ⟨h11, rfl⟩ | ⟨h11, h5⟩
      · have S1 := hid (fun q => by have := SAB.out _ (BB3.out q); rw [e1] at this; exact this)
        have S2 := hid (fun q => by have := SAB2.out _ (BB3.out q); rw [h11, eqB_self] at this; exact this)
        clear hz hxy h11 e1
        as_aux_lemma =>
          go_wp2_with fail
          go_quiet ((go_at_call 24; first | (with_reducible exact Calls.quiet_of (S1.out _)) | (with_reducible exact q_at (S1.out _)) | (with_reducible exact Calls.quiet_of (S2.out _)) | (with_reducible exact q_at (S2.out _))))
          go_wp2_with fail
          go_ret
          exact ⟨rfl, bb.trans ((below_drewN (BB3.out _) _).mono (by omega))⟩
      · have e2 := eqB_ne h11
        have dz : (dd == 0) = false := by simp; omega
        have d5 : decide (5 ≤ dd) = true := decide_eq_true h5
        have S1 := hid (fun q => by have := SAB.out _ (BB3.out q); rw [e1] at this; exact this)
        have S2 := hid (fun q => by have := SAB2.out _ (BB3.out q); rw [e2] at this; exact this)
        clear hz hxy h11 e1 e2
        as_aux_lemma =>
          go_wp2_with fail
          go_quiet ((go_at_call 24; first | (with_reducible exact Calls.quiet_of (S1.out _)) | (with_reducible exact q_at (S1.out _)) | (with_reducible exact Calls.quiet_of (S2.out _)) | (with_reducible exact q_at (S2.out _))))
          go_wp2_with fail
          go_ret
          exact ⟨rfl, bb.trans ((below_drewN (BB3.out _) _).mono (by omega))⟩

end Go.Proofs.YtemokfjnbmncbaaDoor
