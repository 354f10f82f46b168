/-
  Words of symbols, the program's and the reference's: the tests, the four values, the distance.
-/
import Derived.Test.YtemokfjnbmncbaaDoorField2
import Derived.Test.YtemokfjnbmncbaaDoorWordL
import Derived.Test.YtemokfjnbmncbaaDoorBits
namespace Go.Proofs.YtemokfjnbmncbaaDoor
open Go.RowKit T

theorem elems_no {xs : List Int} {j : Nat} (hj : j < xs.length) (h : inB (xs.getD j 0) 0 15 = false) : elems xs = false := inAll_no (lo := 0) (hi := 15) hj h
theorem elems_all {xs : List Int} (h : ∀ j, j < xs.length → inB (xs.getD j 0) 0 15 = true) : elems xs = true := inAll_yes (lo := 0) (hi := 15) h

set_option maxHeartbeats 400000 in
theorem allElements_c {C : Nat} {v : Value} {xs : List Int} (w : World) (h : Rd C w v xs) : Calls Tryd.prog 35 #[v] w fun e w' => e = .returned (.bool (elems xs)) ∧ w = w' := by
  obtain ⟨A, n, c, rfl, h⟩ := h
  have hlen := hid h.len
  have hm := h.sm
  go_enter Tryd.func35, Tryd.ntmps35
  go_wp2
  go_loop [4, 7] (fun _ i => ∃ k : Nat, k ≤ n ∧ i = .int .i64 k ∧ Hid (∀ j, j < k → inB (xs.getD j 0) 0 15 = true)) (fun _ i => n - (intOf i).toNat)
  case atStart => exact ⟨0, Nat.zero_le _, rfl, fun j hj => absurd hj (by omega)⟩
  case round =>
    obtain ⟨k, hk, rfl, hall⟩ := hrel
    by_cases hlt : k < n
    · obtain ⟨b, off, x, rfl, _, c1, hx⟩ := h.at_ hlt
      by_cases hb : inB x 0 15 = true
      · go_wp2_with (go_at_call 48; refine (isElement_c _ _).mono ?_; rintro e w' ⟨rfl, rfl⟩)
        go_round
        case rel =>
          refine ⟨k + 1, by omega, by go_num, fun j hj => ?_⟩
          by_cases h : j < k
          · exact hall.out j h
          · obtain rfl : j = k := by omega
            rw [hx.out]; exact hb
        case measure => simp [intOf]; omega
      · have hb' : inB x 0 15 = false := by simpa using hb
        clear hb
        go_wp2_with (go_at_call 48; refine (isElement_c _ _).mono ?_; rintro e w' ⟨rfl, rfl⟩)
        go_ret
        exact ⟨ret_bool (elems_no (j := k) (by have := hlen.out; omega) (by rw [hx.out]; exact hb')).symm, rfl⟩
    · obtain rfl : k = n := by omega
      go_wp2
      go_ret
      exact ⟨ret_bool (elems_all fun j hj => hall.out j (by have := hlen.out; omega)).symm, rfl⟩

set_option maxHeartbeats 400000 in
theorem isWord_c {C : Nat} {v : Value} {xs : List Int} (w : World) (h : Rd C w v xs) : Calls Tryd.prog 38 #[v] w fun e w' => e = .returned (.bool (wOk xs)) ∧ w = w' := by
  have R := h
  obtain ⟨A, n, c, rfl, h⟩ := h
  have hlen := hid h.len
  have hm := h.sm
  clear h
  by_cases h15 : n = 15
  · subst h15
    have H : Hid (wOk xs = elems xs) := by show _ = _; rw [wOk, hlen.out]; simp
    go_enter Tryd.func38, Tryd.ntmps38
    go_wp2_with (go_at_call 35; refine (allElements_c _ R).mono ?_; rintro e w' ⟨rfl, rfl⟩)
    go_ret
    exact ⟨ret_bool H.out.symm, rfl⟩
  · have H : Hid (wOk xs = false) := by show _ = _; rw [wOk, hlen.out]; simp [h15]
    have e1 : ((n : Int) == 15) = false := by simp; omega
    go_enter Tryd.func38, Tryd.ntmps38
    go_wp2
    go_ret
    exact ⟨ret_bool H.out.symm, rfl⟩

set_option maxHeartbeats 400000 in
theorem l6Symbols_c {C : Nat} {v : Value} {xs : List Int} (w : World) (m : Int) (_ : 0 ≤ m ∧ m ≤ 1000) (h : Rd C w v xs) : Calls Tryd.prog 32 #[v, .int .i64 m] w fun e w' => e = .returned (.bool (elems xs && decide ((xs.length : Int) = m))) ∧ w = w' := by
  obtain ⟨A, n, c, rfl, h⟩ := h
  have hlen := hid h.len
  have hsm := h.sm
  go_enter Tryd.func32, Tryd.ntmps32
  go_wp2
  go_loop [5] (fun i => ∃ k : Nat, k ≤ n ∧ i = .int .i64 k ∧ Hid (∀ j, j < k → inB (xs.getD j 0) 0 15 = true)) (fun i => n - (intOf i).toNat)
  case atStart => exact ⟨0, Nat.zero_le _, rfl, fun j hj => absurd hj (by omega)⟩
  case round =>
    obtain ⟨k, hk, rfl, hall⟩ := hrel
    by_cases hlt : k < n
    · obtain ⟨b, off, x, rfl, _, c1, hx⟩ := h.at_ hlt
      by_cases hb : inB x 0 15 = true
      · go_wp2_with (go_at_call 52; refine (l1In_c _ _ _ _).mono ?_; rintro e w' ⟨rfl, rfl⟩)
        go_round
        case rel =>
          refine ⟨k + 1, by omega, by go_num, fun j hj => ?_⟩
          by_cases h : j < k
          · exact hall.out j h
          · obtain rfl : j = k := by omega
            rw [hx.out]; exact hb
        case measure => simp [intOf]; omega
      · have hb' : inB x 0 15 = false := by simpa using hb
        clear hb
        go_wp2_with (go_at_call 52; refine (l1In_c _ _ _ _).mono ?_; rintro e w' ⟨rfl, rfl⟩)
        go_ret
        exact ⟨ret_bool (by rw [elems_no (j := k) (by have := hlen.out; omega) (by rw [hx.out]; exact hb')]; rfl), rfl⟩
    · obtain rfl : k = n := by omega
      have H : Hid (elems xs = true) := elems_all fun j hj => hall.out j (by have := hlen.out; omega)
      go_wp2
      go_ret
      exact ⟨ret_bool (by rw [H.out, hlen.out]; rfl), rfl⟩
theorem l6Symbols_w {C : Nat} {v : Value} {xs : List Int} (w : World) (h : Rd C w v xs) : Calls Tryd.prog 32 #[v, .int .i64 15] w fun e w' => e = .returned (.bool (wOk xs)) ∧ w = w' := by
  have := l6Symbols_c w 15 (by omega) h
  rwa [show (elems xs && decide ((xs.length : Int) = 15)) = wOk xs by unfold wOk; congr 1; exact decide_eq_decide.2 (by omega)] at this
theorem l6Symbols_d {C : Nat} {v : Value} {xs : List Int} (w : World) (h : Rd C w v xs) : Calls Tryd.prog 32 #[v, .int .i64 11] w fun e w' => e = .returned (.bool (dOk xs)) ∧ w = w' := by
  have := l6Symbols_c w 11 (by omega) h
  rwa [show (elems xs && decide ((xs.length : Int) = 11)) = dOk xs by unfold dOk; congr 1; exact decide_eq_decide.2 (by omega)] at this

/-! ### values of polynomials -/
theorem RdA.el {C : Nat} {w : World} {A : Option Addr} {n c k : Nat} {xs : List Int} (h : RdA C w A n c xs) (he : elems xs = true) (hk : k < n) :
    ∃ b off, A = some ⟨b, off, none⟩ ∧ b < C ∧ w.cell? ⟨b, off + k, none⟩ = some (.int .i64 (fnOf xs k : Nat)) ∧ fnOf xs k < 16 := by
  obtain ⟨b, off, x, ha, hb, hc, hx⟩ := h.at_ hk
  have h1 := fn_cast he k
  rw [hx.out] at h1
  refine ⟨b, off, ha, hb, by rw [hc, h1], fn_el he (k + 1) k (by omega)⟩

set_option maxHeartbeats 1000000 in
theorem implPoly_c {C : Nat} {v : Value} {xs : List Int} (x : Nat) (w : World) (h : Rd C w v xs) (he : elems xs = true) (hl : xs.length ≤ 15) (hx : x < 16) (T1 : TpowersOfTwo w) (T2 : Tlogarithms w) :
    Calls Tryd.prog 39 #[v, .int .i64 x] w fun e w' => e = .returned (.int .i64 (pol (fnOf xs) x xs.length : Nat)) ∧ ∃ q, w' = w.drewN q := by
  have R := allElements_c w h
  rw [he] at R
  have R := hid R
  obtain ⟨A, n, c, rfl, h⟩ := h
  have hlen := hid h.len
  have he := hid he
  rw [h.len] at hl
  go_enter Tryd.func39, Tryd.ntmps39
  go_wp2_with (first | (go_at_call 48; refine (isElement_y _ _ hx).mono ?_; rintro e w' ⟨rfl, rfl⟩) | (go_at_call 35; refine R.out.mono ?_; rintro e w' ⟨rfl, rfl⟩))
  go_loopw [5, 7, 23] (fun p _ i wr => ∃ k : Nat, k ≤ n ∧ i = .int .i64 k ∧ p = .int .i64 (pol (fnOf xs) x k : Nat) ∧ ∃ q, Hid (wr = w.drewN q)) (fun _ _ i _ => n - (intOf i).toNat)
  case atStart => exact ⟨0, Nat.zero_le _, rfl, rfl, 0, rfl⟩
  case round =>
    obtain ⟨k, hk, rfl, rfl, q, hq⟩ := hrel
    by_cases hlt : k < n
    · have h' : RdA C wr A n c xs := by rw [hq.out]; exact h.drewN q
      have T1' : TpowersOfTwo wr := by rw [hq.out]; exact T1.drewN q
      have T2' : Tlogarithms wr := by rw [hq.out]; exact T2.drewN q
      obtain ⟨b, off, rfl, _, c1, hy⟩ := h'.el he.out hlt
      have hp : pol (fnOf xs) x k < 16 := pol_lt (fn_el he.out k)
      have hs : Hid (gm (pol (fnOf xs) x k) x ^^^ fnOf xs k = pol (fnOf xs) x (k + 1)) := rfl
      generalize pol (fnOf xs) x k = P at hp hs ⊢
      generalize fnOf xs k = Y at c1 hy hs
      have x1 := i64_xor (gm P x) Y (by have := gm_lt P x; omega) (by omega)
      clear h h' T1 T2
      go_wp2_with (go_at_call 36; refine (FieldMul_c _ _ _ hp hx T1' T2').mono ?_; rintro e w' ⟨rfl, q2, rfl⟩)
      go_roundw
      case rel => exact ⟨k + 1, by omega, by go_num, by rw [← hs.out], q + q2, by rw [hq.out]; exact drawn_add _ _ _⟩
      case measure => simp [intOf]; omega
    · obtain rfl : k = n := by omega
      go_wp2
      go_ret
      exact ⟨ret_int (by rw [hlen.out]), q, hq.out⟩

set_option maxHeartbeats 1000000 in
theorem specPoly_c {C : Nat} {v : Value} {xs : List Int} (x : Nat) (w : World) (h : Rd C w v xs) (he : elems xs = true) (hl : xs.length ≤ 15) (hx : x < 16) :
    Calls Tryd.prog 37 #[v, .int .i64 x] w fun e w' => e = .returned (.int .i64 (pol (fnOf xs) x xs.length : Nat)) ∧ ∃ q, w' = w.drewN q := by
  have R := l1In_c (x : Int) 0 15
  rw [el_yes hx] at R
  have R := hid R
  obtain ⟨A, n, c, rfl, h⟩ := h
  have hlen := hid h.len
  have he := hid he
  rw [h.len] at hl
  go_enter Tryd.func37, Tryd.ntmps37
  go_wp2_with (go_at_call 52; refine (R.out _).mono ?_; rintro e w' ⟨rfl, rfl⟩)
  go_loopw [5, 6] (fun p i wr => ∃ k : Nat, k ≤ n ∧ i = .int .i64 k ∧ p = .int .i64 (pol (fnOf xs) x k : Nat) ∧ ∃ q, Hid (wr = w.drewN q)) (fun _ i _ => n - (intOf i).toNat)
  case atStart => exact ⟨0, Nat.zero_le _, rfl, rfl, 0, rfl⟩
  case round =>
    obtain ⟨k, hk, rfl, rfl, q, hq⟩ := hrel
    by_cases hlt : k < n
    · have h' : RdA C wr A n c xs := by rw [hq.out]; exact h.drewN q
      obtain ⟨b, off, rfl, _, c1, hy⟩ := h'.el he.out hlt
      have hp : pol (fnOf xs) x k < 16 := pol_lt (fn_el he.out k)
      have hs : Hid (gm (pol (fnOf xs) x k) x ^^^ fnOf xs k = pol (fnOf xs) x (k + 1)) := rfl
      generalize pol (fnOf xs) x k = P at hp hs ⊢
      generalize fnOf xs k = Y at c1 hy hs
      have x1 := i64_xor (gm P x) Y (by have := gm_lt P x; omega) (by omega)
      have R2 := l1In_c (Y : Int) 0 15
      rw [el_yes hy] at R2
      have R2 := hid R2
      have i1 : (k : Int) < (n : Int) := by omega
      clear h h'
      go_wp2_with (go_at_call 52; refine (R2.out _).mono ?_; rintro e w' ⟨rfl, rfl⟩)
      go_quiet ((go_at_call 34; exact Calls.quiet_of_same ((l5Mul_c _ _ _ hp hx).mono fun _ _ h => ⟨h.1, h.2.symm⟩)))
      go_wp2
      go_roundw
      case rel => exact ⟨k + 1, by omega, by go_num, by rw [← hs.out], _, by rw [hq.out]; exact drawn_add _ _ _⟩
      case measure => simp [intOf]; omega
    · obtain rfl : k = n := by omega
      go_wp2
      go_ret
      exact ⟨ret_int (by rw [hlen.out]), q, hq.out⟩

/-! ### distances -/
theorem cnt_step {xs ys : List Int} (hx : elems xs = true) (hy : elems ys = true) (k : Nat) : cnt (dif (fnOf xs) (fnOf ys)) (k + 1) = cnt (dif (fnOf xs) (fnOf ys)) k + if xs.getD k 0 = ys.getD k 0 then 0 else 1 := by
  simp only [cnt]
  congr 1
  have h1 := fn_cast hx k
  have h2 := fn_cast hy k
  by_cases h : xs.getD k 0 = ys.getD k 0
  · rw [if_pos h, if_pos (dif_zero.2 (by omega))]
  · rw [if_neg h, if_neg (fun e => h (by have := dif_zero.1 e; omega))]
theorem cnt_le (D : Nat → Nat) (n : Nat) : cnt D n ≤ n := by
  induction n with
  | zero => simp [cnt]
  | succ n ih => simp only [cnt]; split <;> omega
theorem distL_yes {xs ys : List Int} (h : wOk xs = true) (k : wOk ys = true) : distL xs ys = (cnt (dif (fnOf xs) (fnOf ys)) 15 : Nat) := by rw [distL, if_pos ⟨h, k⟩]
theorem distL_no {xs ys : List Int} (h : wOk xs = false ∨ wOk ys = false) : distL xs ys = -1 := by
  rw [distL, if_neg]
  rintro ⟨h1, h2⟩
  rcases h with h | h <;> simp_all

set_option maxHeartbeats 1000000 in
theorem implDist_c {C D : Nat} {v1 v2 : Value} {xs ys : List Int} (w : World) (h1 : Rd C w v1 xs) (h2 : Rd D w v2 ys) :
    Calls Tryd.prog 27 #[v1, v2] w fun e w' => e = .returned (.int .i64 (distL xs ys)) ∧ ∃ q, w' = w.drewN q := by
  have Q1 := isWord_c w h1
  have Q2 := isWord_c w h2
  cases s1 : wOk xs with
  | false =>
    have H := hid (distL_no (ys := ys) (.inl s1))
    rw [s1] at Q1
    have Q1 := hid Q1
    clear s1 Q2
    go_enter Tryd.func27, Tryd.ntmps27
    go_wp2_with fail
    refine Q1.out.mono ?_
    rintro e w' ⟨rfl, rfl⟩
    go_wp2
    go_ret
    exact ⟨ret_int H.out.symm, 0, rfl⟩
  | true =>
    cases s2 : wOk ys with
    | false =>
      have H := hid (distL_no (xs := xs) (.inr s2))
      rw [s1] at Q1
      rw [s2] at Q2
      have Q1 := hid Q1
      have Q2 := hid Q2
      clear s1 s2
      go_enter Tryd.func27, Tryd.ntmps27
      go_wp2_with fail
      refine Q1.out.mono ?_
      rintro e w' ⟨rfl, rfl⟩
      go_wp2_with fail
      refine Q2.out.mono ?_
      rintro e w' ⟨rfl, rfl⟩
      go_wp2
      go_ret
      exact ⟨ret_int H.out.symm, 0, rfl⟩
    | true =>
      have H := hid (distL_yes s1 s2)
      have ex := hid (wOk_iff.1 s1).1
      have ey := hid (wOk_iff.1 s2).1
      have lx := (wOk_iff.1 s1).2
      have ly := (wOk_iff.1 s2).2
      rw [s1] at Q1
      rw [s2] at Q2
      have Q1 := hid Q1
      have Q2 := hid Q2
      clear s1 s2
      obtain ⟨A, n, c, rfl, h1⟩ := h1
      obtain ⟨B, m, d, rfl, h2⟩ := h2
      obtain rfl : n = 15 := by rw [← h1.len]; exact lx
      obtain rfl : m = 15 := by rw [← h2.len]; exact ly
      clear lx ly
      go_enter Tryd.func27, Tryd.ntmps27
      go_wp2_with fail
      refine Q1.out.mono ?_
      rintro e w' ⟨rfl, rfl⟩
      go_wp2_with fail
      refine Q2.out.mono ?_
      rintro e w' ⟨rfl, rfl⟩
      go_wp2_with fail
      go_loopw [5, 6, 17] (fun t _ i wr => ∃ k : Nat, k ≤ 15 ∧ i = .int .i64 k ∧ t = .int .i64 (cnt (dif (fnOf xs) (fnOf ys)) k : Nat) ∧ ∃ q, wr = w.drewN q) (fun _ _ i _ => 15 - (intOf i).toNat)
      case atStart => exact ⟨0, Nat.zero_le _, rfl, rfl, 0, rfl⟩
      case round =>
        obtain ⟨k, hk, rfl, rfl, q, rfl⟩ := hrel
        by_cases hlt : k < 15
        · obtain ⟨b, off, x, rfl, _, c1, hx⟩ := h1.at_ hlt
          obtain ⟨b', off', y, rfl, _, c2, hy⟩ := h2.at_ hlt
          have hs := hid (cnt_step ex.out ey.out k)
          rw [hx.out, hy.out] at hs
          have hb := cnt_le (dif (fnOf xs) (fnOf ys)) k
          generalize hS : cnt (dif (fnOf xs) (fnOf ys)) k = S at hb hs
          have HS := hid hS
          clear hS h1 h2
          have i1 : (k : Int) < 15 := by omega
          by_cases hxy : x = y
          · subst hxy
            go_wp2
            go_quiet (fail)
            go_wp2
            go_roundw
            case rel => exact ⟨k + 1, by omega, by go_num, by rw [hs.out]; simp, _, rfl⟩
            case measure => simp [intOf]; omega
          · have n1 : (x != y) = true := by simpa using hxy
            have HN := hid hxy
            clear hxy
            go_wp2
            go_quiet (fail)
            go_wp2
            go_roundw
            case rel => exact ⟨k + 1, by omega, by go_num, by rw [hs.out, if_neg HN.out]; go_num, _, rfl⟩
            case measure => simp [intOf]; omega
        · obtain rfl : k = 15 := by omega
          go_wp2
          go_ret
          exact ⟨ret_int (by rw [H.out]), _, rfl⟩
set_option maxHeartbeats 1000000 in
theorem specDist_c {C D : Nat} {v1 v2 : Value} {xs ys : List Int} (w : World) (h1 : Rd C w v1 xs) (h2 : Rd D w v2 ys) :
    Calls Tryd.prog 30 #[v1, v2] w fun e w' => e = .returned (.int .i64 (distL xs ys)) ∧ ∃ q, w' = w.drewN q := by
  have Q1 := l6Symbols_w w h1
  have Q2 := l6Symbols_w w h2
  cases s1 : wOk xs with
  | false =>
    have H := hid (distL_no (ys := ys) (.inl s1))
    rw [s1] at Q1
    have Q1 := hid Q1
    clear s1 Q2
    go_enter Tryd.func30, Tryd.ntmps30
    go_wp2_with fail
    refine Q1.out.mono ?_
    rintro e w' ⟨rfl, rfl⟩
    go_wp2
    go_ret
    exact ⟨ret_int H.out.symm, 0, rfl⟩
  | true =>
    cases s2 : wOk ys with
    | false =>
      have H := hid (distL_no (xs := xs) (.inr s2))
      rw [s1] at Q1
      rw [s2] at Q2
      have Q1 := hid Q1
      have Q2 := hid Q2
      clear s1 s2
      go_enter Tryd.func30, Tryd.ntmps30
      go_wp2_with fail
      refine Q1.out.mono ?_
      rintro e w' ⟨rfl, rfl⟩
      go_wp2_with fail
      refine Q2.out.mono ?_
      rintro e w' ⟨rfl, rfl⟩
      go_wp2
      go_ret
      exact ⟨ret_int H.out.symm, 0, rfl⟩
    | true =>
      have H := hid (distL_yes s1 s2)
      have ex := hid (wOk_iff.1 s1).1
      have ey := hid (wOk_iff.1 s2).1
      have lx := (wOk_iff.1 s1).2
      have ly := (wOk_iff.1 s2).2
      rw [s1] at Q1
      rw [s2] at Q2
      have Q1 := hid Q1
      have Q2 := hid Q2
      clear s1 s2
      obtain ⟨A, n, c, rfl, h1⟩ := h1
      obtain ⟨B, m, d, rfl, h2⟩ := h2
      obtain rfl : n = 15 := by rw [← h1.len]; exact lx
      obtain rfl : m = 15 := by rw [← h2.len]; exact ly
      clear lx ly
      go_enter Tryd.func30, Tryd.ntmps30
      go_wp2_with fail
      refine Q1.out.mono ?_
      rintro e w' ⟨rfl, rfl⟩
      go_wp2_with fail
      refine Q2.out.mono ?_
      rintro e w' ⟨rfl, rfl⟩
      go_wp2_with fail
      go_loopw [5, 6] (fun t i wr => ∃ k : Nat, k ≤ 15 ∧ i = .int .i64 k ∧ t = .int .i64 (cnt (dif (fnOf xs) (fnOf ys)) k : Nat) ∧ ∃ q, wr = w.drewN q) (fun _ i _ => 15 - (intOf i).toNat)
      case atStart => exact ⟨0, Nat.zero_le _, rfl, rfl, 0, rfl⟩
      case round =>
        obtain ⟨k, hk, rfl, rfl, q, rfl⟩ := hrel
        by_cases hlt : k < 15
        · obtain ⟨b, off, x, rfl, _, c1, hx⟩ := h1.at_ hlt
          obtain ⟨b', off', y, rfl, _, c2, hy⟩ := h2.at_ hlt
          have hs := hid (cnt_step ex.out ey.out k)
          rw [hx.out, hy.out] at hs
          have hb := cnt_le (dif (fnOf xs) (fnOf ys)) k
          generalize hS : cnt (dif (fnOf xs) (fnOf ys)) k = S at hb hs
          have HS := hid hS
          clear hS h1 h2
          have i1 : (k : Int) < 15 := by omega
          by_cases hxy : x = y
          · subst hxy
            go_wp2
            go_quiet (fail)
            go_wp2
            go_roundw
            case rel => exact ⟨k + 1, by omega, by go_num, by rw [hs.out]; simp, _, rfl⟩
            case measure => simp [intOf]; omega
          · have n1 : (x != y) = true := by simpa using hxy
            have HN := hid hxy
            clear hxy
            go_wp2
            go_quiet (fail)
            go_wp2
            go_roundw
            case rel => exact ⟨k + 1, by omega, by go_num, by rw [hs.out, if_neg HN.out]; go_num, _, rfl⟩
            case measure => simp [intOf]; omega
        · obtain rfl : k = 15 := by omega
          go_wp2
          go_ret
          exact ⟨ret_int (by rw [H.out]), _, rfl⟩

end Go.Proofs.YtemokfjnbmncbaaDoor
