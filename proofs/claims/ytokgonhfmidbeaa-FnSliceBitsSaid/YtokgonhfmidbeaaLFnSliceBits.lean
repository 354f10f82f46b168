/-
  The law FnSliceBits, walked: for every input the call returns true, and nothing that was there has changed.
-/
import Derived.Test.YtokgonhfmidbeaaSigLaw
import Derived.Test.YtokgonhfmidbeaaSlice
import Derived.Test.YtokgonhfmidbeaaIsB
namespace Go.Proofs.Ytokgonhfmidbeaa
open Go.RowKit

theorem lv1_bit (n : Int) : lv1 n = 0 ∨ lv1 n = 1 := by unfold lv1; split; exact .inr rfl; exact .inl rfl
theorem lv2_bit (n : Int) : ∀ x ∈ lv2 n, x = 0 ∨ x = 1 := by
  unfold lv2
  split
  · simp
  · split
    · simp
    · split <;> simp
theorem smp_bit (o x y : Int) : ∀ z ∈ smp o x y, z = 0 ∨ z = 1 := by
  intro z hz
  unfold smp at hz
  split at hz
  · rw [List.mem_singleton.1 hz]; exact lv1_bit x
  · split at hz
    · rcases List.mem_cons.1 hz with rfl | hz
      · exact lv1_bit x
      · rw [List.mem_singleton.1 hz]; exact lv1_bit y
    · rcases List.mem_append.1 hz with hz | hz
      · exact lv2_bit x z hz
      · exact lv2_bit y z hz
theorem slTo_bit (xs : List Int) (o : Int) : ∀ k, ∀ z ∈ slTo xs o k, z = 0 ∨ z = 1
  | 0 => fun z hz => by simp [slTo] at hz
  | k + 1 => fun z hz => by
    rcases List.mem_append.1 hz with hz | hz
    · exact slTo_bit xs o k z hz
    · exact smp_bit _ _ _ z hz
theorem slTo_one (xs : List Int) : ∀ k, slTo xs 1 k = rg k fun i => lv1 (xs.getD (i * 2) 0)
  | 0 => rfl
  | k + 1 => by
    rw [← rg_snoc, ← slTo_one xs k]
    rfl
theorem slc_bits {xs : List Int} {o : Int} (h : slOk xs o = true) : bitsOk (slc xs o) = true := by
  obtain ⟨⟨h1, h2⟩, h3⟩ : (sigOk xs = true ∧ ordOk o = true) ∧ ((xs.length / 2 : Nat) : Int) * o ≤ 1024 := by simpa [slOk] using h
  have hl := slTo_len (xs := xs) h2 (xs.length / 2)
  rw [slc_yes h]
  exact bitsOk_iff.2 ⟨fun z hz => by rcases slTo_bit xs o _ z hz with rfl | rfl <;> omega, by omega⟩
theorem slOk_one {xs : List Int} (h : sigOk xs = true) : slOk xs 1 = true := by
  have := (sigOk_iff.1 h).2
  have h3 : ((xs.length / 2 : Nat) : Int) * 1 ≤ 1024 := by omega
  simp only [slOk, h, Bool.true_and, Bool.and_eq_true, decide_eq_true_eq]
  exact ⟨by decide, h3⟩
theorem slc_one {xs : List Int} {n : Nat} (h : sigOk xs = true) (hl : xs.length = n * 2) : slc xs 1 = rg n fun i => lv1 (xs.getD (i * 2) 0) := by
  rw [slc_yes (slOk_one h), slTo_one]
  congr 1
  omega
theorem slc_len {xs : List Int} {o : Int} {n : Nat} (h : slOk xs o = true) (hl : xs.length = n * 2) : ((slc xs o).length : Int) = n * o ∧ (n : Int) * o ≤ 1024 ∧ sigOk xs = true ∧ (o = 1 ∨ o = 2 ∨ o = 4) := by
  obtain ⟨⟨h1, h2⟩, h3⟩ : (sigOk xs = true ∧ ordOk o = true) ∧ ((xs.length / 2 : Nat) : Int) * o ≤ 1024 := by simpa [slOk] using h
  have e : xs.length / 2 = n := by omega
  rw [slc_yes h, slTo_len h2, e]
  rw [e] at h3
  exact ⟨rfl, h3, h1, ordOk_iff.1 h2⟩
theorem neg_one {xs : List Int} {n k : Nat} (h : sigOk xs = true) (hl : xs.length = n * 2) (hk : k < n) : (slc (turn xs 2) 1).length = n ∧ (slc (turn xs 2) 1).getD k 0 = lv1 (-(xs.getD (k * 2) 0)) := by
  have e : turn xs 2 = turnN xs 2 := turn_yes h rfl
  have hl2 : (turnN xs 2).length = n * 2 := by rw [turnN_len, hl]
  rw [e, slc_one (turnN_ok h) hl2, rg_length]
  refine ⟨rfl, ?_⟩
  rw [rg_getD hk, turnN_at (by omega), trF_even]
  rfl

set_option maxHeartbeats 4000000 in
theorem FnSliceBits_walk (a0 : Option Addr) (len0 cap0 : Nat) (z0 : List Int) (w : World)  (w0 : IsRow .u8 w a0 len0 cap0 z0) :
    Calls Try.prog 5 #[.slice a0 len0 cap0] w fun e w' => e = .returned (.bool true) ∧ Below w.heap.size w w' := by
  by_cases hl0 : len0 ≤ 1048576
  case neg =>
    have hl0' : 1048576 < len0 := by omega
    go_enter Try.func5, Try.ntmps5
    go_wp2
    go_ret
    exact ⟨rfl, Below.refl _ _⟩
  have B0 := w0.bytes
  have hc0 := B0.le
  have hm0 := B0.cap
  clear w0
  go_enter Try.func5, Try.ntmps5
  go_wp2_with fail
  refine (DrawSliceBits_c _ B0 (Nat.le_refl _)).mono ?_
  rintro e w1 ⟨v1, n, xs, o, rfl, O, hm, ⟨o0, o1⟩, bb⟩
  have t1 := bb.size
  go_wp2_with fail
  refine (implSlice_c w1 o O.rd (Nat.le_refl _)).mono ?_
  rintro e w2 ⟨v2, rfl, X, b2⟩
  have t2 := b2.size
  have O := O.below b2 (Nat.le_refl _)
  have bb := bb.trans (b2.mono (by omega))
  go_wp2_with fail
  refine (specSlice_c w2 o O.rd (by omega)).mono ?_
  rintro e w3 ⟨v3, rfl, Y, b3⟩
  have t3 := b3.size
  have O := O.below b3 (by omega)
  have X := X.below b3 (by omega)
  have bb := bb.trans (b3.mono (by omega))
  go_wp2_with fail
  refine (sameInts_t _ X.rd Y.rd).mono ?_
  rintro e w4 ⟨rfl, b4⟩
  have t4 := b4.size
  have O := O.below b4 (by omega)
  have X := X.below b4 (by omega)
  have bb := bb.trans (b4.mono (by omega))
  clear b2 b3 b4 Y
  have hl := O.len
  have dead : (slc xs o).length = 0 ∨ (0 < n ∧ slOk xs o = true) := by
    cases hok : slOk xs o with
    | false => rw [slc_no hok]; exact .inl rfl
    | true =>
      by_cases hn : n = 0
      · have := (slc_len hok hl).1; subst hn; left; omega
      · exact .inr ⟨by omega, rfl⟩
  obtain ⟨A2, M, c2, rfl, QX⟩ := X.rd
  have hML := QX.len
  rcases dead with hd | ⟨hn0, hok⟩
  · obtain rfl : M = 0 := by omega
    clear QX O X hd hl
    go_wp2_with fail
    refine (alive_c _).mono ?_
    rintro e w5 ⟨rfl, b5⟩
    have bb := bb.trans (b5.mono (by omega))
    go_wp2_with fail
    go_ret
    exact ⟨rfl, bb⟩
  obtain ⟨hl1, hl2, hs, ho⟩ := slc_len hok hl
  have HB := hid (slc_bits hok)
  have hM : (M : Int) = n * o := by omega
  have M0 : ((M : Int) == 0) = false := by
    rcases ho with rfl | rfl | rfl <;> simp <;> omega
  have HM := hid hM
  have HL2 := hid hl2
  have HN := hid (fun k (hk : k < n) => neg_one hs hl hk)
  have HO := hid (slc_one hs hl)
  have hn0l := (HN.out 0 hn0).1
  have hxb := fun k => sigOk_at hs k
  obtain ⟨us, hus⟩ : ∃ us, slc xs 1 = us := ⟨_, rfl⟩
  obtain ⟨vs, hvs⟩ : ∃ vs, slc (turn xs 2) 1 = vs := ⟨_, rfl⟩
  rw [hus] at HO
  rw [hvs] at hn0l HN
  have hul : us.length = n := by rw [HO.out, rg_length]
  have CU := implSlice_c w4 1 O.rd (by omega)
  rw [hus] at CU
  have CU := hid CU
  obtain ⟨A1, n1, c1, rfl, Q⟩ := O.rd
  obtain rfl : n1 = n := by have := Q.len; omega
  clear hM hl2 hl1 hML hok hus
  go_wp2_with fail
  refine CU.out.mono ?_
  rintro e w5 ⟨v5, rfl, U, b5⟩
  have t5 := b5.size
  have O := O.below b5 (by omega)
  have X := X.below b5 (by omega)
  have bb := bb.trans (b5.mono (by omega))
  clear b5 CU
  go_wp2_with fail
  refine (implTurn_c w5 2 O.rd (by omega)).mono ?_
  rintro e w6 ⟨v6, m6, rfl, T, b6⟩
  have t6 := b6.size
  have O := O.below b6 (by omega)
  have X := X.below b6 (by omega)
  have U := U.below b6 (by omega)
  have bb := bb.trans (b6.mono (by omega))
  have CV := implSlice_c w6 1 T.rd (by omega)
  rw [hvs] at CV
  have CV := hid CV
  clear b6 hvs
  go_wp2_with fail
  refine CV.out.mono ?_
  rintro e w7 ⟨v7, rfl, V, b7⟩
  have t7 := b7.size
  have O := O.below b7 (by omega)
  have X := X.below b7 (by omega)
  have U := U.below b7 (by omega)
  have bb := bb.trans (b7.mono (by omega))
  clear b7 CV T
  have Q : RdMA w1.heap.size w7 A1 n1 c1 xs := by
    obtain ⟨A, m, c, h, q⟩ := O.rd
    injection h with e1 e2 e3
    subst e1 e2 e3
    exact q
  obtain ⟨A5, n5, c5, rfl, QU⟩ := U.rd
  obtain ⟨A7, n7, c7, rfl, QV⟩ := V.rd
  have e5 : n5 = n1 := by have := QU.len; omega
  have e7 : n7 = n1 := by have := QV.len; omega
  subst e5 e7
  clear O hn0l hul
  go_wp2_with fail
  go_loopw [8] (fun i wr => ∃ k q : Nat, k ≤ n7 ∧ i = .int .i64 k ∧ wr = w7.drewN q) (fun i _ => n7 - (intOf i).toNat)
  case atStart => exact ⟨0, 0, Nat.zero_le _, rfl, rfl⟩
  case round =>
    obtain ⟨k, q, hk, rfl, rfl⟩ := hrel
    by_cases hlt : k < n7
    · obtain ⟨b, off, x, y, rfl, _, d1, d2, hx, hy⟩ := Q.at_ hlt
      obtain ⟨b5, off5, u, rfl, _, d3, hu⟩ := QU.at_ hlt
      obtain ⟨b7, off7, v, rfl, _, d4, hv⟩ := QV.at_ hlt
      have eu : u = lv1 x := by rw [← hu.out, HO.out, rg_getD hlt, hx.out]
      have ev : v = lv1 (-x) := by rw [← hv.out, (HN.out k hlt).2, hx.out]
      have i1 : (k : Int) < (n7 : Int) := by omega
      clear HN HO HB HM HL2 hx hy hu hv Q QU QV U V X hxb
      by_cases h0 : x = 0
      · subst h0
        obtain rfl : u = 0 := by rw [eu]; decide
        obtain rfl : v = 0 := by rw [ev]; decide
        clear eu ev
        go_wp2_with fail
        go_quiet (fail)
        go_wp2
        go_roundw
        case rel => exact ⟨k + 1, _, by omega, by go_num, rfl⟩
        case measure => simp [intOf]; omega
      · have xn : (x != 0) = true := by simpa using h0
        by_cases h1 : 0 < x
        · obtain rfl : u = 1 := by rw [eu, lv1, if_pos h1]
          obtain rfl : v = 0 := by rw [ev, lv1, if_neg (by omega)]
          clear eu ev h0
          go_wp2_with fail
          go_quiet (fail)
          go_wp2
          go_roundw
          case rel => exact ⟨k + 1, _, by omega, by go_num, rfl⟩
          case measure => simp [intOf]; omega
        · obtain rfl : u = 0 := by rw [eu, lv1, if_neg h1]
          obtain rfl : v = 1 := by rw [ev, lv1, if_pos (by omega)]
          clear eu ev h0
          go_wp2_with fail
          go_quiet (fail)
          go_wp2
          go_roundw
          case rel => exact ⟨k + 1, _, by omega, by go_num, rfl⟩
          case measure => simp [intOf]; omega
    · obtain rfl : k = n7 := by omega
      have IB := isBits_c (w7.drewN q) (X.drewN q).rd
      rw [HB.out] at IB
      have IB := hid IB
      have bb := below_drewN bb q
      have hMM := HM.out
      have hLL := HL2.out
      clear HN HO HB HM HL2 Q QU QV U V X hxb hlt
      rcases ho with rfl | rfl | rfl
      · obtain rfl : M = k := by omega
        clear hMM
        go_wp2_with fail
        refine IB.out.mono ?_
        rintro e w8 ⟨rfl, rfl⟩
        go_wp2_with fail
        go_ret
        exact ⟨rfl, bb⟩
      · have mE : ((M : Int) == 2 * (k : Int)) = true := by simp; omega
        clear hMM
        go_wp2_with fail
        refine IB.out.mono ?_
        rintro e w8 ⟨rfl, rfl⟩
        go_wp2_with fail
        go_ret
        exact ⟨rfl, bb⟩
      · have mE : ((M : Int) == 4 * (k : Int)) = true := by simp; omega
        clear hMM
        go_wp2_with fail
        refine IB.out.mono ?_
        rintro e w8 ⟨rfl, rfl⟩
        go_wp2_with fail
        go_ret
        exact ⟨rfl, bb⟩

end Go.Proofs.Ytokgonhfmidbeaa
