/-
  FindPattern, of the program and of the reference: the first index at which the sum of products is greatest.
-/
import Derived.Test.YtokgonhfmidbeaaCorr
namespace Go.Proofs.Ytokgonhfmidbeaa
open Go.RowKit

/-- the best index of the first k -/
def fpTo (xs ys : List Int) : Nat → Int
  | 0 => -1
  | k + 1 => if fpTo xs ys k < 0 ∨ dotF xs ys (fpTo xs ys k).toNat < dotF xs ys k then k else fpTo xs ys k
theorem fpTo_in (xs ys : List Int) (k : Nat) : -1 ≤ fpTo xs ys k ∧ fpTo xs ys k < k := by
  induction k with
  | zero => simp [fpTo]
  | succ k ih => simp only [fpTo]; split <;> omega
def fpOk (xs ys : List Int) : Bool := seqOk xs && seqOk ys && !decide (ys.length = 0)
def fp (xs ys : List Int) : Int := if fpOk xs ys = true then fpTo xs ys (xs.length + 1 - ys.length) else -1
theorem fp_yes {xs ys : List Int} (h : fpOk xs ys = true) : fp xs ys = fpTo xs ys (xs.length + 1 - ys.length) := by simp [fp, h]
theorem fp_no {xs ys : List Int} (h : fpOk xs ys = false) : fp xs ys = -1 := by simp [fp, h]
theorem fp_take {xs ys : List Int} {k : Nat} {b : Int} (hb : fpTo xs ys k = b) (h : b < 0 ∨ dotF xs ys b.toNat < dotF xs ys k) : fpTo xs ys (k + 1) = k := by
  simp only [fpTo, hb, if_pos h]
theorem fp_leave {xs ys : List Int} {k : Nat} {b : Int} (hb : fpTo xs ys k = b) (h0 : 0 ≤ b) (h : dotF xs ys k ≤ dotF xs ys b.toNat) : fpTo xs ys (k + 1) = b := by
  simp only [fpTo, hb]
  rw [if_neg (by omega)]


set_option maxHeartbeats 400000 in
theorem implFind_c {C D : Nat} {v1 v2 : Value} {xs ys : List Int} (w : World) (h1 : Rd C w v1 xs) (h2 : Rd D w v2 ys) :
    Calls Try.prog 10 #[v1, v2] w fun e w' => e = .returned (.int .i64 (fp xs ys)) ∧ ∃ q, w' = w.drewN q := by
  by_cases hok : fpOk xs ys = true
  · skip
    have H := hid (fp_yes hok)
    obtain ⟨⟨s1, s2⟩, z2⟩ : (seqOk xs = true ∧ seqOk ys = true) ∧ ys.length ≠ 0 := by simpa [fpOk] using hok
    obtain ⟨A, n, c, rfl, h1⟩ := h1
    obtain ⟨B, m, d, rfl, h2⟩ := h2
    have R1 : Rd C w (.slice A n c) xs := ⟨_, _, _, rfl, h1⟩
    have R2 : Rd D w (.slice B m d) ys := ⟨_, _, _, rfl, h2⟩
    have L1 := hid h1.len
    have L2 := hid h2.len
    have e1 := h1.sm
    have e2 := h2.sm
    have e3 := h1.le
    have e4 := h1.cap
    have p2 : 0 < m := by have := h2.len; omega
    have p2' : ((m : Int) == 0) = false := by simp; omega
    have S1 := hid s1
    have S2 := hid s2
    clear hok z2
    go_enter Try.func10, Try.ntmps10
    go_wp2_with (first | (go_at_call 7; (with_reducible refine (implSeq_c _ R1).mono ?_); rintro e w' ⟨rfl, rfl⟩) | (go_at_call 7; (with_reducible refine (implSeq_c _ R2).mono ?_); rintro e w' ⟨rfl, rfl⟩))
    go_loopw [5, 6, 7] (fun b t i wr => ∃ k : Nat, ∃ y : Int, k ≤ n + 1 - m ∧ i = .int .i64 k ∧ b = .int .i64 (fpTo xs ys k) ∧ t = .int .i64 y ∧ Hid (0 ≤ fpTo xs ys k → y = dotF xs ys (fpTo xs ys k).toNat) ∧ ∃ q, wr = w.drewN q) (fun _ _ i _ => n + 1 - m - (intOf i).toNat)
    case atStart => exact ⟨0, 0, Nat.zero_le _, rfl, rfl, rfl, fun h => absurd h (by simp [fpTo]), 0, rfl⟩
    case round =>
      obtain ⟨k, y, hk, rfl, rfl, rfl, hy, q, rfl⟩ := hrel
      have hb := fpTo_in xs ys k
      have HT := fun h => fp_take (xs := xs) (ys := ys) (k := k) (b := fpTo xs ys k) rfl h
      have HL := fun h0 h => fp_leave (xs := xs) (ys := ys) (k := k) (b := fpTo xs ys k) rfl h0 h
      generalize hB : fpTo xs ys k = b at hb hy HT HL
      have HB := hid hB
      clear hB
      have HT' := hid HT
      have HL' := hid HL
      clear HT HL
      by_cases hlt : k + m ≤ n
      · have hcut := RdA.cut h1 (k := k) (by omega)
        have hl : Hid (k + ys.length ≤ xs.length) := by show _ ≤ _; have := L1.out; have := L2.out; omega
        rw [if_neg (by omega)] at hcut
        have R3 : Rd C w (.slice (A.map (·.add k)) (n - k) (c - k)) (xs.drop k) := ⟨_, _, _, rfl, hcut⟩
        clear hcut
        have hck : ¬ c = k := by omega
        obtain ⟨N, hN⟩ : ∃ N, N = dotF xs ys k := ⟨_, rfl⟩
        have hdot : ∀ W : World, Hid (Rd C W (.slice (A.map (·.add k)) (n - k) (c - k)) (xs.drop k)) → Hid (Rd D W (.slice B m d) ys) → Calls Try.prog 25 #[.slice (A.map (·.add k)) (n - k) (c - k), .slice B m d] W fun e w' => e = .returned (.int .i64 N) ∧ ∃ q, w' = W.drewN q := by
          intro W a1 a2
          rw [hN]
          exact dot_c W k a1.out a2.out S1.out S2.out hl.out
        have HN := hid hN
        clear hN
        have Hdot := hid hdot
        clear hdot
        by_cases b0 : b < 0
        · go_wp2_with (go_at_call 25; (with_reducible refine (Hdot.out _ (hid (R3.drewN q)) (hid (R2.drewN q))).mono ?_); rintro e w' ⟨rfl, q', rfl⟩)
          go_roundw
          case rel => exact ⟨k + 1, N, by omega, by go_num, by rw [HT'.out (.inl b0)], rfl, fun _ => by rw [HT'.out (.inl b0)]; exact HN.out, _, rfl⟩
          case measure => simp [intOf]; omega
        · have b1 : 0 ≤ b := by omega
          by_cases hm : y < N
          · have hlt2 : Hid (dotF xs ys b.toNat < dotF xs ys k) := by show _ < _; rw [← HN.out, ← hy.out b1]; exact hm
            go_wp2_with (go_at_call 25; (with_reducible refine (Hdot.out _ (hid (R3.drewN q)) (hid (R2.drewN q))).mono ?_); rintro e w' ⟨rfl, q', rfl⟩)
            go_roundw
            case rel => exact ⟨k + 1, N, by omega, by go_num, by rw [HT'.out (.inr hlt2.out)], rfl, fun _ => by rw [HT'.out (.inr hlt2.out)]; exact HN.out, _, rfl⟩
            case measure => simp [intOf]; omega
          · have hge : Hid (dotF xs ys k ≤ dotF xs ys b.toNat) := by show _ ≤ _; rw [← HN.out, ← hy.out b1]; omega
            go_wp2_with (go_at_call 25; (with_reducible refine (Hdot.out _ (hid (R3.drewN q)) (hid (R2.drewN q))).mono ?_); rintro e w' ⟨rfl, q', rfl⟩)
            go_roundw
            case rel => exact ⟨k + 1, y, by omega, by go_num, by rw [HL'.out b1 hge.out], rfl, fun _ => by rw [HL'.out b1 hge.out]; exact hy.out b1, _, rfl⟩
            case measure => simp [intOf]; omega
      · obtain rfl : k = n + 1 - m := by omega
        clear h1 R1
        go_wp2
        go_ret
        exact ⟨ret_int (by rw [H.out, L1.out, L2.out, HB.out]), _, rfl⟩
  · skip
    obtain ⟨A, n, c, rfl, h1⟩ := h1
    obtain ⟨B, m, d, rfl, h2⟩ := h2
    have R1 : Rd C w (.slice A n c) xs := ⟨_, _, _, rfl, h1⟩
    have R2 : Rd D w (.slice B m d) ys := ⟨_, _, _, rfl, h2⟩
    have l1 := h1.len
    have l2 := h2.len
    have hok' : fpOk xs ys = false := by simpa using hok
    have H := hid (fp_no hok')
    clear hok
    by_cases s1 : seqOk xs = true
    · by_cases s2 : seqOk ys = true
      · rw [fpOk, s1, s2, l2] at hok'
        have z2 : m = 0 := by simpa using hok'
        subst z2
        clear hok' l1 l2
        go_enter Try.func10, Try.ntmps10
        go_wp2_with (first | (go_at_call 7; (with_reducible refine (implSeq_c _ R1).mono ?_); rintro e w' ⟨rfl, rfl⟩) | (go_at_call 7; (with_reducible refine (implSeq_c _ R2).mono ?_); rintro e w' ⟨rfl, rfl⟩))
        go_ret
        exact ⟨ret_int H.out.symm, 0, rfl⟩
      · have s2' : seqOk ys = false := by simpa using s2
        clear s2 hok' l1 l2
        go_enter Try.func10, Try.ntmps10
        go_wp2_with (first | (go_at_call 7; (with_reducible refine (implSeq_c _ R1).mono ?_); rintro e w' ⟨rfl, rfl⟩) | (go_at_call 7; (with_reducible refine (implSeq_c _ R2).mono ?_); rintro e w' ⟨rfl, rfl⟩))
        go_ret
        exact ⟨ret_int H.out.symm, 0, rfl⟩
    · have s1' : seqOk xs = false := by simpa using s1
      clear s1 hok' l1 l2
      go_enter Try.func10, Try.ntmps10
      go_wp2_with (go_at_call 7; (with_reducible refine (implSeq_c _ R1).mono ?_); rintro e w' ⟨rfl, rfl⟩)
      go_ret
      exact ⟨ret_int H.out.symm, 0, rfl⟩

theorem corr_dot {xs ys : List Int} {i n m : Nat} (s1 : seqOk xs = true) (s2 : seqOk ys = true) (l1 : xs.length = n) (l2 : ys.length = m) (h : i + m ≤ n) : corr xs ys i = dotF xs ys i := by
  rw [corr_yes]
  · rfl
  · rw [corrOk, s1, s2, l1, l2]
    simp only [Bool.true_and]
    exact inB_yes (by omega) (by omega)

set_option maxHeartbeats 400000 in
theorem specFind_c {C D : Nat} {v1 v2 : Value} {xs ys : List Int} (w : World) (h1 : Rd C w v1 xs) (h2 : Rd D w v2 ys) :
    Calls Try.prog 11 #[v1, v2] w fun e w' => e = .returned (.int .i64 (fp xs ys)) ∧ ∃ q, w' = w.drewN q := by
  by_cases hok : fpOk xs ys = true
  · skip
    have H := hid (fp_yes hok)
    obtain ⟨⟨s1, s2⟩, z2⟩ : (seqOk xs = true ∧ seqOk ys = true) ∧ ys.length ≠ 0 := by simpa [fpOk] using hok
    obtain ⟨A, n, c, rfl, h1⟩ := h1
    obtain ⟨B, m, d, rfl, h2⟩ := h2
    have R1 : Rd C w (.slice A n c) xs := ⟨_, _, _, rfl, h1⟩
    have R2 : Rd D w (.slice B m d) ys := ⟨_, _, _, rfl, h2⟩
    have L1 := hid h1.len
    have L2 := hid h2.len
    have e1 := h1.sm
    have e2 := h2.sm
    have e3 := h1.le
    have e4 := h1.cap
    have p2 : 0 < m := by have := h2.len; omega
    have p2' : ((m : Int) == 0) = false := by simp; omega
    have S1 := hid s1
    have S2 := hid s2
    clear hok z2
    have hdot : ∀ (W : World) (i : Nat), Hid (i + m ≤ n) → Hid (Rd C W (.slice A n c) xs) → Hid (Rd D W (.slice B m d) ys) → Calls Try.prog 28 #[.slice A n c, .slice B m d, .int .i64 i] W fun e w' => e = .returned (.int .i64 (dotF xs ys i)) ∧ ∃ q, w' = W.drewN q := by
      intro W i hi a1 a2
      have := specCorr_c W (i : Int) a1.out a2.out (by have := hi.out; omega)
      rw [corr_dot s1 s2 L1.out L2.out hi.out] at this
      exact this
    have Hdot := hid hdot
    clear hdot
    go_enter Try.func11, Try.ntmps11
    go_wp2_with (first | (go_at_call 27; (with_reducible refine (specSeq_c _ R1).mono ?_); rintro e w' ⟨rfl, rfl⟩) | (go_at_call 27; (with_reducible refine (specSeq_c _ R2).mono ?_); rintro e w' ⟨rfl, rfl⟩))
    go_loopw [5, 6] (fun b i wr => ∃ k : Nat, k ≤ n + 1 - m ∧ i = .int .i64 k ∧ b = .int .i64 (fpTo xs ys k) ∧ ∃ q, wr = w.drewN q) (fun _ i _ => n + 1 - m - (intOf i).toNat)
    case atStart => exact ⟨0, Nat.zero_le _, rfl, rfl, 0, rfl⟩
    case round =>
      obtain ⟨k, hk, rfl, rfl, q, rfl⟩ := hrel
      have hb := fpTo_in xs ys k
      have HT := fun h => fp_take (xs := xs) (ys := ys) (k := k) (b := fpTo xs ys k) rfl h
      have HL := fun h0 h => fp_leave (xs := xs) (ys := ys) (k := k) (b := fpTo xs ys k) rfl h0 h
      generalize hB : fpTo xs ys k = b at hb HT HL
      have HB := hid hB
      have HT' := hid HT
      have HL' := hid HL
      clear HT HL hB
      by_cases hlt : k + m ≤ n
      · by_cases b0 : b < 0
        · go_wp2
          go_roundw
          case rel => exact ⟨k + 1, by omega, by go_num, by rw [HT'.out (.inl b0)], _, rfl⟩
          case measure => simp [intOf]; omega
        · obtain ⟨b', rfl⟩ := Int.eq_ofNat_of_zero_le (by omega : 0 ≤ b)
          by_cases hm : dotF xs ys b' < dotF xs ys k
          · go_wp2_with (first | (go_at_call 28; (with_reducible refine (Hdot.out _ k (hid (by omega)) (hid (R1.drewN _)) (hid (R2.drewN _))).mono ?_); rintro e w' ⟨rfl, q', rfl⟩) | (go_at_call 28; (with_reducible refine (Hdot.out _ b' (hid (by omega)) (hid (R1.drewN _)) (hid (R2.drewN _))).mono ?_); rintro e w' ⟨rfl, q', rfl⟩))
            go_roundw
            case rel => exact ⟨k + 1, by omega, by go_num, by rw [HT'.out (.inr hm)], _, rfl⟩
            case measure => simp [intOf]; omega
          · have hge : dotF xs ys k ≤ dotF xs ys b' := by omega
            go_wp2_with (first | (go_at_call 28; (with_reducible refine (Hdot.out _ k (hid (by omega)) (hid (R1.drewN _)) (hid (R2.drewN _))).mono ?_); rintro e w' ⟨rfl, q', rfl⟩) | (go_at_call 28; (with_reducible refine (Hdot.out _ b' (hid (by omega)) (hid (R1.drewN _)) (hid (R2.drewN _))).mono ?_); rintro e w' ⟨rfl, q', rfl⟩))
            go_roundw
            case rel => exact ⟨k + 1, by omega, by go_num, by rw [HL'.out (by omega) hge], _, rfl⟩
            case measure => simp [intOf]; omega
      · obtain rfl : k = n + 1 - m := by omega
        go_wp2
        go_ret
        exact ⟨ret_int (by rw [H.out, L1.out, L2.out, HB.out]), _, rfl⟩
  · skip
    obtain ⟨A, n, c, rfl, h1⟩ := h1
    obtain ⟨B, m, d, rfl, h2⟩ := h2
    have R1 : Rd C w (.slice A n c) xs := ⟨_, _, _, rfl, h1⟩
    have R2 : Rd D w (.slice B m d) ys := ⟨_, _, _, rfl, h2⟩
    have l1 := h1.len
    have l2 := h2.len
    have hok' : fpOk xs ys = false := by simpa using hok
    have H := hid (fp_no hok')
    clear hok
    by_cases s1 : seqOk xs = true
    · by_cases s2 : seqOk ys = true
      · rw [fpOk, s1, s2, l2] at hok'
        have z2 : m = 0 := by simpa using hok'
        subst z2
        clear hok' l1 l2
        go_enter Try.func11, Try.ntmps11
        go_wp2_with (first | (go_at_call 27; (with_reducible refine (specSeq_c _ R1).mono ?_); rintro e w' ⟨rfl, rfl⟩) | (go_at_call 27; (with_reducible refine (specSeq_c _ R2).mono ?_); rintro e w' ⟨rfl, rfl⟩))
        go_ret
        exact ⟨ret_int H.out.symm, 0, rfl⟩
      · have s2' : seqOk ys = false := by simpa using s2
        clear s2 hok' l1 l2
        go_enter Try.func11, Try.ntmps11
        go_wp2_with (first | (go_at_call 27; (with_reducible refine (specSeq_c _ R1).mono ?_); rintro e w' ⟨rfl, rfl⟩) | (go_at_call 27; (with_reducible refine (specSeq_c _ R2).mono ?_); rintro e w' ⟨rfl, rfl⟩))
        go_ret
        exact ⟨ret_int H.out.symm, 0, rfl⟩
    · have s1' : seqOk xs = false := by simpa using s1
      clear s1 hok' l1 l2
      go_enter Try.func11, Try.ntmps11
      go_wp2_with (go_at_call 27; (with_reducible refine (specSeq_c _ R1).mono ?_); rintro e w' ⟨rfl, rfl⟩)
      go_ret
      exact ⟨ret_int H.out.symm, 0, rfl⟩

end Go.Proofs.Ytokgonhfmidbeaa
