/-
  RaiseRate and LowerRate, of the program and of the reference: zeros between the numbers; every n-th number.
-/
import Derived.Test.YtebbljgmliikfaaSeq
namespace Go.Proofs.Ytebbljgmliikfaa
open Go.RowKit

def raiseOk (xs : List Int) (n : Int) : Bool := seqOk xs && inB n 1 8 && decide ((xs.length : Int) * n ≤ 64)
def raised (xs : List Int) (n : Nat) : List Int := rg (xs.length * n) fun j => if j % n = 0 then xs.getD (j / n) 0 else 0
def raise (xs : List Int) (n : Int) : List Int := if raiseOk xs n = true then raised xs n.toNat else []
theorem raise_yes {xs : List Int} {n : Int} (h : raiseOk xs n = true) : raise xs n = raised xs n.toNat := by simp [raise, h]
theorem raise_no {xs : List Int} {n : Int} (h : raiseOk xs n = false) : raise xs n = [] := by simp [raise, h]
theorem raise_step {N n k : Nat} {x : Int} {xs : List Int} (hn : 1 ≤ n) (hx : xs.getD k 0 = x) :
    (rg N fun j => if j % n = 0 ∧ j / n < k then xs.getD (j / n) 0 else 0).set (k * n) x = rg N fun j => if j % n = 0 ∧ j / n < k + 1 then xs.getD (j / n) 0 else 0 := by
  rw [rg_set]
  apply rg_congr
  intro j _
  by_cases h : j = k * n
  · subst h
    rw [if_pos rfl, Nat.mul_mod_left, Nat.mul_div_cancel _ (by omega), if_pos ⟨rfl, by omega⟩, hx]
  · rw [if_neg h]
    by_cases h1 : j % n = 0 ∧ j / n < k
    · rw [if_pos h1, if_pos ⟨h1.1, by omega⟩]
    · rw [if_neg h1, if_neg]
      rintro ⟨h2, h3⟩
      have h4 : j / n = k := by
        have : ¬ j / n < k := fun h5 => h1 ⟨h2, h5⟩
        omega
      have := Nat.div_add_mod j n
      rw [h4, h2, Nat.mul_comm] at this
      omega
theorem raise_all (xs : List Int) (n : Nat) : (rg (xs.length * n) fun j => if j % n = 0 ∧ j / n < xs.length then xs.getD (j / n) 0 else 0) = raised xs n := by
  apply rg_congr
  intro j _
  by_cases h1 : j % n = 0
  · by_cases h2 : j / n < xs.length
    · rw [if_pos ⟨h1, h2⟩, if_pos h1]
    · rw [if_neg (fun h => h2 h.2), if_pos h1]
      simp [List.getD, List.getElem?_eq_none (by omega : xs.length ≤ j / n)]
  · rw [if_neg (fun h => h1 h.1), if_neg h1]

def lowerN (len n p : Nat) : Nat := (len + n - 1 - p) / n
def lowered (xs : List Int) (n p : Nat) : List Int := rg (lowerN xs.length n p) fun j => xs.getD (p + j * n) 0
def lowerOk (xs : List Int) (n p : Int) : Bool := seqOk xs && inB n 1 8 && inB p 0 (n - 1)
def lower (xs : List Int) (n p : Int) : List Int := if lowerOk xs n p = true then lowered xs n.toNat p.toNat else []
theorem lower_yes {xs : List Int} {n p : Int} (h : lowerOk xs n p = true) : lower xs n p = lowered xs n.toNat p.toNat := by simp [lower, h]
theorem lower_no {xs : List Int} {n p : Int} (h : lowerOk xs n p = false) : lower xs n p = [] := by simp [lower, h]
theorem lower_lt {len n p j : Nat} (hn : 1 ≤ n) : j < lowerN len n p ↔ p + j * n < len := by
  unfold lowerN
  rw [Nat.lt_div_iff_mul_lt (by omega)]
  constructor <;> intro h <;> omega

set_option maxHeartbeats 400000 in
theorem rateValid_c (n : Int) (w : World) : Calls Try.prog 39 #[.int .i64 n] w fun e w' => e = .returned (.bool (inB n 1 8)) ∧ w = w' := by
  by_cases h1 : 1 ≤ n
  · by_cases h2 : n ≤ 8
    · have H := hid (inB_yes h1 h2)
      go_enter Try.func39, Try.ntmps39
      go_wp2
      go_ret
      exact ⟨ret_bool H.out.symm, rfl⟩
    · have H := hid (inB_hi (lo := 1) h2)
      go_enter Try.func39, Try.ntmps39
      go_wp2
      go_ret
      exact ⟨ret_bool H.out.symm, rfl⟩
  · have H := hid (inB_lo (hi := 8) h1)
    go_enter Try.func39, Try.ntmps39
    go_wp2
    go_ret
    exact ⟨ret_bool H.out.symm, rfl⟩


set_option maxHeartbeats 400000 in
theorem implRaise_c {C : Nat} {v : Value} {xs : List Int} (w : World) (n : Int) (h1 : Rd C w v xs) (hC : C ≤ w.heap.size) (hn : -9223372036854775808 ≤ n ∧ n ≤ 9223372036854775807) :
    Calls Try.prog 25 #[v, .int .i64 n] w fun e w' => ∃ v', e = .returned v' ∧ Own w.heap.size w'.heap.size w' v' (raise xs n) ∧ Below w.heap.size w w' := by
  by_cases hok : raiseOk xs n = true
  · skip
    have H := hid (raise_yes hok)
    obtain ⟨⟨s1, hin⟩, h64⟩ : (seqOk xs = true ∧ inB n 1 8 = true) ∧ (xs.length : Int) * n ≤ 64 := by simpa [raiseOk] using hok
    obtain ⟨A, L, c, rfl, h1⟩ := h1
    have R1 : Rd C w (.slice A L c) xs := ⟨_, _, _, rfl, h1⟩
    have L1 := hid h1.len
    have e1 := h1.sm
    have l1 := h1.len
    rw [l1] at h64
    have n1 := (inB_iff.1 hin).1
    have n8 := (inB_iff.1 hin).2
    obtain ⟨n, rfl⟩ := Int.eq_ofNat_of_zero_le (by omega : 0 ≤ n)
    obtain ⟨N, hN⟩ : ∃ N : Nat, N = L * n := ⟨_, rfl⟩
    have hNi : (L : Int) * (n : Int) = (N : Int) := by rw [hN]; exact (Int.natCast_mul L n).symm
    rw [hNi] at h64
    have HN := hid hN
    clear hN hok l1
    go_enter Try.func25, Try.ntmps25
    go_wp2_with (first | (go_at_call 16; refine (implSeq_c _ R1).mono ?_; rintro e w' ⟨rfl, rfl⟩) | (go_at_call 39; refine (rateValid_c _ _).mono ?_; rintro e w' ⟨rfl, rfl⟩) | (refine wpl_make intSl _ rfl (.tmp 26) (.tmp 26) rfl _ _ N rfl rfl rfl rfl (by omega) ?_; intro w1 hown hbel hlt1))
    go_loopw [30] (fun i wr => ∃ k : Nat, k ≤ L ∧ i = .int .i64 k ∧ Own w.heap.size w1.heap.size wr (.slice (some ⟨w.heap.size, 0, none⟩) N N) (rg N fun j => if j % n = 0 ∧ j / n < k then xs.getD (j / n) 0 else 0) ∧ Below w.heap.size w wr ∧ Hid (wr.heap.size = w1.heap.size)) (fun i _ => L - (intOf i).toNat)
    case atStart => exact ⟨0, Nat.zero_le _, rfl, by simpa [rg_zero] using hown, hbel, rfl⟩
    case round =>
      obtain ⟨k, hk, rfl, ho, hb, hz⟩ := hrel
      clear hown hbel
      by_cases hlt : k < L
      · obtain ⟨b, off, x, rfl, hbC, hcell, hx⟩ := h1.at_ hlt
        have c1 := (hb.cell (p := ⟨b, off + k, none⟩) (by simp; omega)).trans hcell
        have hP : k * n < N := by rw [HN.out]; exact Nat.mul_lt_mul_of_pos_right hlt (by omega)
        have c2 := ho.cell (k := k * n) (by rw [rg_length]; exact hP)
        have c3 := ho.free (k * n)
        have ho2 := ho.store (k * n) x
        rw [raise_step (by omega) hx.out] at ho2
        have hb2 := hb.setCell (p := ⟨w.heap.size, k * n, none⟩) (Nat.le_refl _) (.int .i64 x)
        have hPi : (k : Int) * (n : Int) = ((k * n : Nat) : Int) := (Int.natCast_mul k n).symm
        generalize k * n = P at *
        clear hcell ho hb
        go_wp2
        go_roundw
        case rel => exact ⟨k + 1, by omega, by go_num, ho2, hb2, hid (by simpa using hz.out)⟩
        case measure => simp [intOf]; omega
      · obtain rfl : k = L := by omega
        go_wp2
        go_ret
        refine ⟨_, rfl, ?_, hb⟩
        rw [H.out]
        have e := raise_all xs n
        rw [L1.out, ← HN.out] at e
        rw [Int.toNat_natCast, ← e]
        exact ho.more (by rw [hz.out]; exact Nat.le_refl _)
  · have hok' : raiseOk xs n = false := by simpa using hok
    have H := hid (raise_no hok')
    clear hok
    obtain ⟨A, L, c, rfl, h1⟩ := h1
    have R1 : Rd C w (.slice A L c) xs := ⟨_, _, _, rfl, h1⟩
    have l1 := h1.len
    by_cases s1 : seqOk xs = true
    · by_cases hin : inB n 1 8 = true
      · rw [raiseOk, s1, hin, l1] at hok'
        have hp : ¬ (L : Int) * n ≤ 64 := by simpa using hok'
        have n1 := (inB_iff.1 hin).1
        have n8 := (inB_iff.1 hin).2
        have L64 : L ≤ 64 := by have := seqOk_len s1; omega
        have hpb : (L : Int) * n ≤ 512 := by
          have := Int.mul_le_mul (show (L : Int) ≤ 64 by omega) n8 (by omega) (by omega)
          omega
        generalize hP : (L : Int) * n = p at hp hpb
        have hp' : 64 < p := by omega
        clear hok' l1 hp
        go_enter Try.func25, Try.ntmps25
        go_wp2_with (first | (go_at_call 16; refine (implSeq_c _ R1).mono ?_; rintro e w' ⟨rfl, rfl⟩) | (go_at_call 39; refine (rateValid_c _ _).mono ?_; rintro e w' ⟨rfl, rfl⟩))
        go_ret
        exact ⟨_, rfl, by rw [H.out]; exact Own.nil _ _ _, Below.refl _ _⟩
      · have hin' : inB n 1 8 = false := by simpa using hin
        clear hin hok' l1
        go_enter Try.func25, Try.ntmps25
        go_wp2_with (first | (go_at_call 16; refine (implSeq_c _ R1).mono ?_; rintro e w' ⟨rfl, rfl⟩) | (go_at_call 39; refine (rateValid_c _ _).mono ?_; rintro e w' ⟨rfl, rfl⟩))
        go_ret
        exact ⟨_, rfl, by rw [H.out]; exact Own.nil _ _ _, Below.refl _ _⟩
    · have s1' : seqOk xs = false := by simpa using s1
      clear s1 hok' l1
      go_enter Try.func25, Try.ntmps25
      go_wp2_with (go_at_call 16; refine (implSeq_c _ R1).mono ?_; rintro e w' ⟨rfl, rfl⟩)
      go_ret
      exact ⟨_, rfl, by rw [H.out]; exact Own.nil _ _ _, Below.refl _ _⟩

theorem raise_next {n k d : Nat} {xs : List Int} (h : k % n = 0 → xs.getD d 0 = xs.getD (k / n) 0) :
    (rg k fun j => if j % n = 0 then xs.getD (j / n) 0 else 0) ++ [if k % n = 0 then xs.getD d 0 else 0] = rg (k + 1) fun j => if j % n = 0 then xs.getD (j / n) 0 else 0 := by
  rw [← rg_snoc]
  congr 2
  by_cases h1 : k % n = 0
  · rw [if_pos h1, if_pos h1, h h1]
  · rw [if_neg h1, if_neg h1]

set_option maxHeartbeats 400000 in
theorem specRaise_c {C : Nat} {v : Value} {xs : List Int} (w : World) (n : Int) (h1 : Rd C w v xs) (hC : C ≤ w.heap.size) (hn : -9223372036854775808 ≤ n ∧ n ≤ 9223372036854775807) :
    Calls Try.prog 26 #[v, .int .i64 n] w fun e w' => ∃ v', e = .returned v' ∧ Own w.heap.size w'.heap.size w' v' (raise xs n) ∧ Below w.heap.size w w' := by
  by_cases hok : raiseOk xs n = true
  · skip
    have H := hid (raise_yes hok)
    obtain ⟨⟨s1, hin⟩, h64⟩ : (seqOk xs = true ∧ inB n 1 8 = true) ∧ (xs.length : Int) * n ≤ 64 := by simpa [raiseOk] using hok
    obtain ⟨A, L, c, rfl, h1⟩ := h1
    have R1 : Rd C w (.slice A L c) xs := ⟨_, _, _, rfl, h1⟩
    have L1 := hid h1.len
    have e1 := h1.sm
    have l1 := h1.len
    rw [l1] at h64
    have n1 := (inB_iff.1 hin).1
    have n8 := (inB_iff.1 hin).2
    obtain ⟨n, rfl⟩ := Int.eq_ofNat_of_zero_le (by omega : 0 ≤ n)
    obtain ⟨N, hN⟩ : ∃ N : Nat, N = L * n := ⟨_, rfl⟩
    have hNi : (L : Int) * (n : Int) = (N : Int) := by rw [hN]; exact (Int.natCast_mul L n).symm
    rw [hNi] at h64
    have HN := hid hN
    clear hN hok l1
    have hown := Own.empty w
    have hbel := (Below.refl w.heap.size w).alloc (Nat.le_refl _) (.cells #[] 3)
    go_enter Try.func26, Try.ntmps26
    go_wp2_with (first | (go_at_call 35; refine (specSeq_c _ (R1.below hbel hC)).mono ?_; rintro e w' ⟨rfl, rfl⟩) | (go_at_call 40; refine (l1In_c _ _ _ _).mono ?_; rintro e w' ⟨rfl, rfl⟩))
    go_loopw [5, 6] (fun out i wr => ∃ k : Nat, k ≤ N ∧ i = .int .i64 k ∧ Own w.heap.size wr.heap.size wr out (rg k fun j => if j % n = 0 then xs.getD (j / n) 0 else 0) ∧ Below w.heap.size w wr) (fun _ i _ => N - (intOf i).toNat)
    case atStart => exact ⟨0, Nat.zero_le _, rfl, by simpa [rg] using hown, hbel⟩
    case round =>
      obtain ⟨k, hk, rfl, ho, hb⟩ := hrel
      clear hown hbel
      have hsz := hb.size
      by_cases hlt : k < N
      · by_cases hkn : k % n = 0
        · have hd : k / n < L := by rw [Nat.div_lt_iff_lt_mul (by omega)]; rw [← HN.out]; exact hlt
          obtain ⟨b, off, x, rfl, hbC, hcell, hx⟩ := h1.at_ hd
          have c1 := (hb.cell (p := ⟨b, off + k / n, none⟩) (by simp; omega)).trans hcell
          have e2 : (k : Int) / (n : Int) = ((k / n : Nat) : Int) := by simp
          have e3 : ((k : Int) % (n : Int) == 0) = true := by
            have : (k : Int) % (n : Int) = ((k % n : Nat) : Int) := by simp
            rw [this, hkn]; rfl
          have hnext := raise_next (n := n) (k := k) (d := k / n) (xs := xs) (fun _ => rfl)
          rw [if_pos hkn, hx.out] at hnext
          have Hn := hid hnext
          generalize k / n = d at *
          clear hcell hkn hnext hx
          go_wp2_with (at_builtin; refine wpl_appl intSl _ rfl (.tmp 43) (.tmp 45) rfl w.heap.size wr.heap.size _ _ _ [x] 1 rfl rfl rfl rfl ho (Nat.le_refl _) (by rw [rg_length]; omega) hsz ?_; intro v' w1 ho1 hg1)
          rw [Hn.out] at ho1
          have hb1 := hb.grown hg1 hsz (fun q hq => (ho.lt q hq).1)
          clear ho hb hg1
          go_wp2
          go_roundw
          case rel => exact ⟨k + 1, by omega, by go_num, ho1, hb1⟩
          case measure => simp [intOf]; omega
        · have e3 : ((k : Int) % (n : Int) == 0) = false := by
            have : (k : Int) % (n : Int) = ((k % n : Nat) : Int) := by simp
            rw [this]; simp; omega
          have hnext := raise_next (n := n) (k := k) (d := 0) (xs := xs) (fun h => absurd h hkn)
          rw [if_neg hkn] at hnext
          have Hn := hid hnext
          clear hkn hnext
          go_wp2_with (at_builtin; refine wpl_appl intSl _ rfl (.tmp 43) (.tmp 45) rfl w.heap.size wr.heap.size _ _ _ [0] 1 rfl rfl rfl rfl ho (Nat.le_refl _) (by rw [rg_length]; omega) hsz ?_; intro v' w1 ho1 hg1)
          rw [Hn.out] at ho1
          have hb1 := hb.grown hg1 hsz (fun q hq => (ho.lt q hq).1)
          clear ho hb hg1
          go_wp2
          go_roundw
          case rel => exact ⟨k + 1, by omega, by go_num, ho1, hb1⟩
          case measure => simp [intOf]; omega
      · obtain rfl : k = N := by omega
        go_wp2
        go_ret
        refine ⟨_, rfl, ?_, hb⟩
        rw [H.out, raised, L1.out, Int.toNat_natCast, ← HN.out]
        exact ho
  · have hok' : raiseOk xs n = false := by simpa using hok
    have H := hid (raise_no hok')
    clear hok
    obtain ⟨A, L, c, rfl, h1⟩ := h1
    have R1 : Rd C w (.slice A L c) xs := ⟨_, _, _, rfl, h1⟩
    have l1 := h1.len
    by_cases s1 : seqOk xs = true
    · by_cases hin : inB n 1 8 = true
      · rw [raiseOk, s1, hin, l1] at hok'
        have hp : ¬ (L : Int) * n ≤ 64 := by simpa using hok'
        have n1 := (inB_iff.1 hin).1
        have n8 := (inB_iff.1 hin).2
        have L64 : L ≤ 64 := by have := seqOk_len s1; omega
        have hpb : (L : Int) * n ≤ 512 := by
          have := Int.mul_le_mul (show (L : Int) ≤ 64 by omega) n8 (by omega) (by omega)
          omega
        generalize hP : (L : Int) * n = p at hp hpb
        have hp' : 64 < p := by omega
        clear hok' l1 hp
        go_enter Try.func26, Try.ntmps26
        go_wp2_with (first | (go_at_call 35; refine (specSeq_c _ (R1.below ((Below.refl w.heap.size w).alloc (Nat.le_refl _) _) hC)).mono ?_; rintro e w' ⟨rfl, rfl⟩) | (go_at_call 40; refine (l1In_c _ _ _ _).mono ?_; rintro e w' ⟨rfl, rfl⟩))
        go_ret
        exact ⟨_, rfl, by rw [H.out]; exact (Own.empty w).more (by simp), (Below.refl _ _).alloc (Nat.le_refl _) _⟩
      · have hin' : inB n 1 8 = false := by simpa using hin
        clear hin hok' l1
        go_enter Try.func26, Try.ntmps26
        go_wp2_with (first | (go_at_call 35; refine (specSeq_c _ (R1.below ((Below.refl w.heap.size w).alloc (Nat.le_refl _) _) hC)).mono ?_; rintro e w' ⟨rfl, rfl⟩) | (go_at_call 40; refine (l1In_c _ _ _ _).mono ?_; rintro e w' ⟨rfl, rfl⟩))
        go_ret
        exact ⟨_, rfl, by rw [H.out]; exact (Own.empty w).more (by simp), (Below.refl _ _).alloc (Nat.le_refl _) _⟩
    · have s1' : seqOk xs = false := by simpa using s1
      clear s1 hok' l1
      go_enter Try.func26, Try.ntmps26
      go_wp2_with (go_at_call 35; refine (specSeq_c _ (R1.below ((Below.refl w.heap.size w).alloc (Nat.le_refl _) _) hC)).mono ?_; rintro e w' ⟨rfl, rfl⟩)
      go_ret
      exact ⟨_, rfl, by rw [H.out]; exact (Own.empty w).more (by simp), (Below.refl _ _).alloc (Nat.le_refl _) _⟩

/-! ### LowerRate -/
set_option maxHeartbeats 400000 in
theorem implLower_c {C : Nat} {v : Value} {xs : List Int} (w : World) (n p : Int) (h1 : Rd C w v xs) (hC : C ≤ w.heap.size) (hn : -9223372036854775808 ≤ n ∧ n ≤ 9223372036854775807) (hp : -9223372036854775808 ≤ p ∧ p ≤ 9223372036854775807) :
    Calls Try.prog 19 #[v, .int .i64 n, .int .i64 p] w fun e w' => ∃ v', e = .returned v' ∧ Own w.heap.size w'.heap.size w' v' (lower xs n p) ∧ Below w.heap.size w w' := by
  by_cases hok : lowerOk xs n p = true
  · skip
    have H := hid (lower_yes hok)
    obtain ⟨⟨s1, hin⟩, hin2⟩ : (seqOk xs = true ∧ inB n 1 8 = true) ∧ inB p 0 (n - 1) = true := by simpa [lowerOk] using hok
    obtain ⟨A, L, c, rfl, h1⟩ := h1
    have R1 : Rd C w (.slice A L c) xs := ⟨_, _, _, rfl, h1⟩
    have L1 := hid h1.len
    have e1 : L ≤ 64 := by have := seqOk_len s1; have := h1.len; omega
    have n1 := (inB_iff.1 hin).1
    have n8 := (inB_iff.1 hin).2
    have p0 := (inB_iff.1 hin2).1
    have p1 := (inB_iff.1 hin2).2
    obtain ⟨n, rfl⟩ := Int.eq_ofNat_of_zero_le (by omega : 0 ≤ n)
    obtain ⟨p, rfl⟩ := Int.eq_ofNat_of_zero_le p0
    clear hok
    have hown := Own.nil w.heap.size w.heap.size w
    have hbel := Below.refl w.heap.size w
    have d1 : decide ((p : Int) < 0) = false := by simp
    have d2 : decide (n ≤ p) = false := by simp; omega
    have d3 : decide ((n : Int) ≤ (p : Int)) = false := by simp; omega
    go_enter Try.func19, Try.ntmps19
    go_wp2_with (first | (go_at_call 16; refine (implSeq_c _ R1).mono ?_; rintro e w' ⟨rfl, rfl⟩) | (go_at_call 39; refine (rateValid_c _ _).mono ?_; rintro e w' ⟨rfl, rfl⟩))
    go_loopw [7, 8] (fun out i wr => ∃ j a : Nat, a ≤ L + 8 ∧ i = .int .i64 a ∧ Hid (a = p + j * n) ∧ j ≤ lowerN L n p ∧ Own w.heap.size wr.heap.size wr out (rg j fun i => xs.getD (p + i * n) 0) ∧ Below w.heap.size w wr) (fun _ i _ => L + 8 - (intOf i).toNat)
    case atStart => exact ⟨0, p, by omega, rfl, hid (by simp), Nat.zero_le _, by simpa [rg] using hown, hbel⟩
    case round =>
      obtain ⟨j, a, ha, rfl, hj, hjn, ho, hb⟩ := hrel
      clear hown hbel
      have hsz := hb.size
      by_cases hlt : a < L
      · obtain ⟨b, off, x, rfl, hbC, hcell, hx⟩ := h1.at_ hlt
        have c1 := (hb.cell (p := ⟨b, off + a, none⟩) (by simp; omega)).trans hcell
        have hj2 : Hid (a + n = p + (j + 1) * n) := by show _ = _; rw [hj.out, Nat.add_mul]; omega
        have hjn2 : j < lowerN L n p := (lower_lt (by omega)).2 (by rw [← hj.out]; exact hlt)
        have hnext := rg_snoc j fun i => xs.getD (p + i * n) 0
        rw [← hj.out, hx.out] at hnext
        have Hn := hid hnext
        have hl64 : j ≤ 64 := by
          have h1 := hj.out
          have h2 : j * 1 ≤ j * n := Nat.mul_le_mul_left j (by omega)
          omega
        clear hcell hx hnext
        go_wp2_with (at_builtin; refine wpl_appl intSl _ rfl (.tmp 34) (.tmp 39) rfl w.heap.size wr.heap.size _ _ _ [x] 1 rfl rfl rfl rfl ho (Nat.le_refl _) (by rw [rg_length]; omega) hsz ?_; intro v' w1 ho1 hg1)
        rw [Hn.out] at ho1
        have hb1 := hb.grown hg1 hsz (fun q hq => (ho.lt q hq).1)
        clear ho hb hg1
        go_wp2
        go_roundw
        case rel => exact ⟨j + 1, a + n, by omega, by go_num, hj2, hjn2, ho1, hb1⟩
        case measure => simp [intOf]; omega
      · have hje : j = lowerN L n p := by
          have : ¬ j < lowerN L n p := fun h => hlt (by rw [hj.out]; exact (lower_lt (by omega)).1 h)
          omega
        have HJ := hid hje
        clear hje
        go_wp2
        go_ret
        refine ⟨_, rfl, ?_, hb⟩
        rw [H.out, lowered, L1.out, Int.toNat_natCast, Int.toNat_natCast, ← HJ.out]
        exact ho
  · have hok' : lowerOk xs n p = false := by simpa using hok
    have H := hid (lower_no hok')
    clear hok
    obtain ⟨A, L, c, rfl, h1⟩ := h1
    have R1 : Rd C w (.slice A L c) xs := ⟨_, _, _, rfl, h1⟩
    by_cases s1 : seqOk xs = true
    · by_cases hin : inB n 1 8 = true
      · rw [lowerOk, s1, hin] at hok'
        have hin2 : inB p 0 (n - 1) = false := by simpa using hok'
        have n1 := (inB_iff.1 hin).1
        have n8 := (inB_iff.1 hin).2
        clear hok'
        by_cases g0 : p < 0
        · clear hin2
          go_enter Try.func19, Try.ntmps19
          go_wp2_with (first | (go_at_call 16; refine (implSeq_c _ R1).mono ?_; rintro e w' ⟨rfl, rfl⟩) | (go_at_call 39; refine (rateValid_c _ _).mono ?_; rintro e w' ⟨rfl, rfl⟩))
          go_ret
          exact ⟨_, rfl, by rw [H.out]; exact Own.nil _ _ _, Below.refl _ _⟩
        · have g1 : n ≤ p := by
            have h0 : (0 : Int) ≤ p := by omega
            simp [inB, h0] at hin2
            omega
          have g2 : 0 ≤ p := by omega
          clear hin2
          go_enter Try.func19, Try.ntmps19
          go_wp2_with (first | (go_at_call 16; refine (implSeq_c _ R1).mono ?_; rintro e w' ⟨rfl, rfl⟩) | (go_at_call 39; refine (rateValid_c _ _).mono ?_; rintro e w' ⟨rfl, rfl⟩))
          go_ret
          exact ⟨_, rfl, by rw [H.out]; exact Own.nil _ _ _, Below.refl _ _⟩
      · have hin' : inB n 1 8 = false := by simpa using hin
        clear hin hok'
        go_enter Try.func19, Try.ntmps19
        go_wp2_with (first | (go_at_call 16; refine (implSeq_c _ R1).mono ?_; rintro e w' ⟨rfl, rfl⟩) | (go_at_call 39; refine (rateValid_c _ _).mono ?_; rintro e w' ⟨rfl, rfl⟩))
        go_ret
        exact ⟨_, rfl, by rw [H.out]; exact Own.nil _ _ _, Below.refl _ _⟩
    · have s1' : seqOk xs = false := by simpa using s1
      clear s1 hok'
      go_enter Try.func19, Try.ntmps19
      go_wp2_with (go_at_call 16; refine (implSeq_c _ R1).mono ?_; rintro e w' ⟨rfl, rfl⟩)
      go_ret
      exact ⟨_, rfl, by rw [H.out]; exact Own.nil _ _ _, Below.refl _ _⟩

set_option maxHeartbeats 400000 in
theorem specLower_c {C : Nat} {v : Value} {xs : List Int} (w : World) (n p : Int) (h1 : Rd C w v xs) (hC : C ≤ w.heap.size) (hn : -9223372036854775808 ≤ n ∧ n ≤ 9223372036854775807) (hp : -9223372036854775808 ≤ p ∧ p ≤ 9223372036854775807) :
    Calls Try.prog 20 #[v, .int .i64 n, .int .i64 p] w fun e w' => ∃ v', e = .returned v' ∧ Own w.heap.size w'.heap.size w' v' (lower xs n p) ∧ Below w.heap.size w w' := by
  by_cases hok : lowerOk xs n p = true
  · skip
    have H := hid (lower_yes hok)
    obtain ⟨⟨s1, hin⟩, hin2⟩ : (seqOk xs = true ∧ inB n 1 8 = true) ∧ inB p 0 (n - 1) = true := by simpa [lowerOk] using hok
    obtain ⟨A, L, c, rfl, h1⟩ := h1
    have R1 : Rd C w (.slice A L c) xs := ⟨_, _, _, rfl, h1⟩
    have L1 := hid h1.len
    have e1 : L ≤ 64 := by have := seqOk_len s1; have := h1.len; omega
    have n1 := (inB_iff.1 hin).1
    have n8 := (inB_iff.1 hin).2
    have p0 := (inB_iff.1 hin2).1
    have p1 := (inB_iff.1 hin2).2
    obtain ⟨n, rfl⟩ := Int.eq_ofNat_of_zero_le (by omega : 0 ≤ n)
    obtain ⟨p, rfl⟩ := Int.eq_ofNat_of_zero_le p0
    clear hok
    have hown := Own.empty w
    have hbel := (Below.refl w.heap.size w).alloc (Nat.le_refl _) (.cells #[] 3)
    go_enter Try.func20, Try.ntmps20
    go_wp2_with (first | (go_at_call 35; refine (specSeq_c _ (R1.below hbel hC)).mono ?_; rintro e w' ⟨rfl, rfl⟩) | (go_at_call 40; refine (l1In_c _ _ _ _).mono ?_; rintro e w' ⟨rfl, rfl⟩))
    go_loopw [7, 8] (fun out i wr => ∃ j a : Nat, a ≤ L + 8 ∧ i = .int .i64 a ∧ Hid (a = p + j * n) ∧ j ≤ lowerN L n p ∧ Own w.heap.size wr.heap.size wr out (rg j fun i => xs.getD (p + i * n) 0) ∧ Below w.heap.size w wr) (fun _ i _ => L + 8 - (intOf i).toNat)
    case atStart => exact ⟨0, p, by omega, rfl, hid (by simp), Nat.zero_le _, by simpa [rg] using hown, hbel⟩
    case round =>
      obtain ⟨j, a, ha, rfl, hj, hjn, ho, hb⟩ := hrel
      clear hown hbel
      have hsz := hb.size
      by_cases hlt : a < L
      · obtain ⟨b, off, x, rfl, hbC, hcell, hx⟩ := h1.at_ hlt
        have c1 := (hb.cell (p := ⟨b, off + a, none⟩) (by simp; omega)).trans hcell
        have hj2 : Hid (a + n = p + (j + 1) * n) := by show _ = _; rw [hj.out, Nat.add_mul]; omega
        have hjn2 : j < lowerN L n p := (lower_lt (by omega)).2 (by rw [← hj.out]; exact hlt)
        have hnext := rg_snoc j fun i => xs.getD (p + i * n) 0
        rw [← hj.out, hx.out] at hnext
        have Hn := hid hnext
        have hl64 : j ≤ 64 := by
          have h1 := hj.out
          have h2 : j * 1 ≤ j * n := Nat.mul_le_mul_left j (by omega)
          omega
        clear hcell hx hnext
        go_wp2_with (at_builtin; refine wpl_appl intSl _ rfl (.tmp 34) (.tmp 39) rfl w.heap.size wr.heap.size _ _ _ [x] 1 rfl rfl rfl rfl ho (Nat.le_refl _) (by rw [rg_length]; omega) hsz ?_; intro v' w1 ho1 hg1)
        rw [Hn.out] at ho1
        have hb1 := hb.grown hg1 hsz (fun q hq => (ho.lt q hq).1)
        clear ho hb hg1
        go_wp2
        go_roundw
        case rel => exact ⟨j + 1, a + n, by omega, by go_num, hj2, hjn2, ho1, hb1⟩
        case measure => simp [intOf]; omega
      · have hje : j = lowerN L n p := by
          have : ¬ j < lowerN L n p := fun h => hlt (by rw [hj.out]; exact (lower_lt (by omega)).1 h)
          omega
        have HJ := hid hje
        clear hje
        go_wp2
        go_ret
        refine ⟨_, rfl, ?_, hb⟩
        rw [H.out, lowered, L1.out, Int.toNat_natCast, Int.toNat_natCast, ← HJ.out]
        exact ho
  · have hok' : lowerOk xs n p = false := by simpa using hok
    have H := hid (lower_no hok')
    clear hok
    obtain ⟨A, L, c, rfl, h1⟩ := h1
    have R1 : Rd C w (.slice A L c) xs := ⟨_, _, _, rfl, h1⟩
    have R2 : Rd C (w.alloc (.cells #[] 3)) (.slice A L c) xs := R1.below ((Below.refl w.heap.size w).alloc (Nat.le_refl _) _) hC
    by_cases s1 : seqOk xs = true
    · by_cases hin : inB n 1 8 = true
      · rw [lowerOk, s1, hin] at hok'
        have hin2 : inB p 0 (n - 1) = false := by simpa using hok'
        have n1 := (inB_iff.1 hin).1
        have n8 := (inB_iff.1 hin).2
        clear hok'
        go_enter Try.func20, Try.ntmps20
        go_wp2_with (first | (go_at_call 35; refine (specSeq_c _ R2).mono ?_; rintro e w' ⟨rfl, rfl⟩) | (go_at_call 40; refine (l1In_c _ _ _ _).mono ?_; rintro e w' ⟨rfl, rfl⟩))
        go_ret
        exact ⟨_, rfl, by rw [H.out]; exact (Own.empty w).more (by simp), (Below.refl _ _).alloc (Nat.le_refl _) _⟩
      · have hin' : inB n 1 8 = false := by simpa using hin
        clear hin hok'
        go_enter Try.func20, Try.ntmps20
        go_wp2_with (first | (go_at_call 35; refine (specSeq_c _ R2).mono ?_; rintro e w' ⟨rfl, rfl⟩) | (go_at_call 40; refine (l1In_c _ _ _ _).mono ?_; rintro e w' ⟨rfl, rfl⟩))
        go_ret
        exact ⟨_, rfl, by rw [H.out]; exact (Own.empty w).more (by simp), (Below.refl _ _).alloc (Nat.le_refl _) _⟩
    · have s1' : seqOk xs = false := by simpa using s1
      clear s1 hok'
      go_enter Try.func20, Try.ntmps20
      go_wp2_with (go_at_call 35; refine (specSeq_c _ R2).mono ?_; rintro e w' ⟨rfl, rfl⟩)
      go_ret
      exact ⟨_, rfl, by rw [H.out]; exact (Own.empty w).more (by simp), (Below.refl _ _).alloc (Nat.le_refl _) _⟩

end Go.Proofs.Ytebbljgmliikfaa
