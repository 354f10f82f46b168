/-
  BurstSpread, of the program and of the reference: the greatest number of bits of a burst in one row.
-/
import Derived.Test.YtfefkpjikjjjjaaBits
import Derived.StillTailTactics
import Derived.RegionTactic
import Derived.BigRegion
namespace Go.Proofs.Ytfefkpjikjjjjaa
open Go.RowKit

def bsOk (r c a n : Int) : Bool := inB r 1 32 && inB c 1 32 && inB a 0 (r * c) && inB n 0 (r * c - a)
def bs (r c a n : Int) : Int := if bsOk r c a n = true then (n + r - 1) / r else -1
theorem bs_yes {r c a n : Int} (h : bsOk r c a n = true) : bs r c a n = (n + r - 1) / r := by simp [bs, h]
theorem bs_no {r c a n : Int} (h : bsOk r c a n = false) : bs r c a n = -1 := by simp [bs, h]
theorem bs_why {r c a n : Int} (h : bsOk r c a n = false) :
    (r < 1 ∨ 32 < r) ∨ (1 ≤ r ∧ r ≤ 32) ∧ ((c < 1 ∨ 32 < c) ∨ (1 ≤ c ∧ c ≤ 32) ∧ ((a < 0 ∨ r * c < a) ∨ (0 ≤ a ∧ a ≤ r * c) ∧ (n < 0 ∨ r * c - a < n))) := by
  by_cases h1 : 1 ≤ r ∧ r ≤ 32
  · by_cases h2 : 1 ≤ c ∧ c ≤ 32
    · by_cases h3 : 0 ≤ a ∧ a ≤ r * c
      · by_cases h4 : 0 ≤ n ∧ n ≤ r * c - a
        · rw [bsOk, inB_yes h1.1 h1.2, inB_yes h2.1 h2.2, inB_yes h3.1 h3.2, inB_yes h4.1 h4.2] at h
          cases h
        · exact .inr ⟨h1, .inr ⟨h2, .inr ⟨h3, by omega⟩⟩⟩
      · exact .inr ⟨h1, .inr ⟨h2, .inl (by omega)⟩⟩
    · exact .inr ⟨h1, .inl (by omega)⟩
  · exact .inl (by omega)
theorem prod_in {r c : Int} (h1 : 1 ≤ r) (h2 : r ≤ 32) (h3 : 1 ≤ c) (h4 : c ≤ 32) : 1 ≤ r * c ∧ r * c ≤ 1024 := by
  have a1 := Int.mul_le_mul h1 h3 (by omega) (by omega)
  have a2 := Int.mul_le_mul h2 h4 (by omega) (by omega)
  omega

def I4 (r c a n : Int) : Prop := (-9223372036854775808 ≤ r ∧ r ≤ 9223372036854775807) ∧ (-9223372036854775808 ≤ c ∧ c ≤ 9223372036854775807) ∧ (-9223372036854775808 ≤ a ∧ a ≤ 9223372036854775807) ∧ (-9223372036854775808 ≤ n ∧ n ≤ 9223372036854775807)

set_option maxHeartbeats 1000000 in
theorem implBurst_c (r c a n : Int) (w : World) :
    Calls Try.prog 10 #[.int .i64 r, .int .i64 c, .int .i64 a, .int .i64 n] w fun e w' => e = .returned (.int .i64 (bs r c a n)) ∧ w = w' := by
  cases hok : bsOk r c a n with
  | true =>
    have H := hid (bs_yes hok)
    obtain ⟨⟨⟨h1, h2⟩, h3⟩, h4⟩ : ((inB r 1 32 = true ∧ inB c 1 32 = true) ∧ inB a 0 (r * c) = true) ∧ inB n 0 (r * c - a) = true := by simpa [bsOk] using hok
    have h1 := inB_iff.1 h1
    have h2 := inB_iff.1 h2
    have h3 := inB_iff.1 h3
    have h4 := inB_iff.1 h4
    have hp := prod_in h1.1 h1.2 h2.1 h2.2
    obtain ⟨a1, a2⟩ := h1
    obtain ⟨b1, b2⟩ := h2
    obtain ⟨c1, c2⟩ := h3
    obtain ⟨d1, d2⟩ := h4
    obtain ⟨p1, p2⟩ := hp
    clear hok
    generalize hP : r * c = p at *
    go_enter Try.func10, Try.ntmps10
    go_wp2
    go_ret
    exact ⟨ret_int H.out.symm, rfl⟩
  | false =>
    have H := hid (bs_no hok)
    have hw := bs_why hok
    clear hok
    rcases hw with (g | g) | ⟨⟨a1, a2⟩, (g | g) | ⟨⟨b1, b2⟩, (g | g) | ⟨⟨c1, c2⟩, (g | g)⟩⟩⟩
    · go_enter Try.func10, Try.ntmps10
      go_wp2
      go_ret
      exact ⟨ret_int H.out.symm, rfl⟩
    · go_enter Try.func10, Try.ntmps10
      go_wp2
      go_ret
      exact ⟨ret_int H.out.symm, rfl⟩
    · go_enter Try.func10, Try.ntmps10
      go_wp2
      go_ret
      exact ⟨ret_int H.out.symm, rfl⟩
    · go_enter Try.func10, Try.ntmps10
      go_wp2
      go_ret
      exact ⟨ret_int H.out.symm, rfl⟩
    all_goals
      have hp := prod_in a1 a2 b1 b2
      obtain ⟨p1, p2⟩ := hp
      generalize hP : r * c = p at *
      go_enter Try.func10, Try.ntmps10
      go_wp2
      go_ret
      exact ⟨ret_int H.out.symm, rfl⟩

/-! ### how often a row is met -/
def cntN (len n p : Nat) : Nat := (len + n - 1 - p) / n
theorem cnt_step {t n d : Nat} (hn : 0 < n) (hd : d < n) : cntN (t + 1) n d = cntN t n d + if t % n = d then 1 else 0 := by
  unfold cntN
  have hm := Nat.div_add_mod t n
  have hl := Nat.mod_lt t hn
  generalize t / n = q at hm
  generalize t % n = m at hm hl
  subst hm
  by_cases h : m = d
  · subst h
    rw [if_pos rfl, show n * q + m + 1 + n - 1 - m = n * (q + 1) by rw [Nat.mul_add]; omega, Nat.mul_div_cancel_left _ hn, show n * q + m + n - 1 - m = n - 1 + n * q by omega, Nat.add_mul_div_left _ _ hn, Nat.div_eq_of_lt (by omega)]
    omega
  · rw [if_neg h]
    by_cases h2 : d < m
    · rw [show n * q + m + 1 + n - 1 - d = (m - d) + n * (q + 1) by rw [Nat.mul_add]; omega, Nat.add_mul_div_left _ _ hn, Nat.div_eq_of_lt (by omega), show n * q + m + n - 1 - d = (m - d - 1) + n * (q + 1) by rw [Nat.mul_add]; omega, Nat.add_mul_div_left _ _ hn, Nat.div_eq_of_lt (by omega)]
      omega
    · rw [show n * q + m + 1 + n - 1 - d = (n + m - d) + n * q by omega, Nat.add_mul_div_left _ _ hn, Nat.div_eq_of_lt (by omega), show n * q + m + n - 1 - d = (n + m - d - 1) + n * q by omega, Nat.add_mul_div_left _ _ hn, Nat.div_eq_of_lt (by omega)]
      omega
theorem cnt_self {t n : Nat} (hn : 0 < n) : cntN t n (t % n) = t / n := by
  unfold cntN
  have hm := Nat.div_add_mod t n
  have hl := Nat.mod_lt t hn
  generalize t % n = m at hm hl
  have e : t + n - 1 - m = n - 1 + n * (t / n) := by omega
  rw [e, Nat.add_mul_div_left _ _ hn, Nat.div_eq_of_lt (by omega), Nat.zero_add]
def dist (a n i : Nat) : Nat := (i + n - a % n) % n
theorem dist_eq {a n t i : Nat} (hn : 0 < n) (hi : i < n) : i = (a + t) % n ↔ t % n = dist a n i := by
  unfold dist
  have ha := Nat.mod_lt a hn
  have ht := Nat.mod_lt t hn
  rw [Nat.add_mod]
  generalize a % n = A at ha
  generalize t % n = T at ht
  have e1 : (A + T) % n = if A + T < n then A + T else A + T - n := by
    split
    · exact Nat.mod_eq_of_lt ‹_›
    · rw [Nat.mod_eq_sub_mod (by omega)]; exact Nat.mod_eq_of_lt (by omega)
  have e2 : (i + n - A) % n = if i < A then i + n - A else i - A := by
    split
    · exact Nat.mod_eq_of_lt (by omega)
    · rw [Nat.mod_eq_sub_mod (by omega), show i + n - A - n = i - A by omega]; exact Nat.mod_eq_of_lt (by omega)
  rw [e1, e2]
  split <;> split <;> omega
theorem cnt_set {a n t : Nat} (hn : 0 < n) :
    (rg n fun i => ((cntN t n (dist a n i) : Nat) : Int)).set ((a + t) % n) (((t / n : Nat) : Int) + 1) = rg n fun i => ((cntN (t + 1) n (dist a n i) : Nat) : Int) := by
  rw [rg_set]
  apply rg_congr
  intro i hi
  have hd : dist a n i < n := Nat.mod_lt _ hn
  rw [cnt_step hn hd]
  by_cases h : i = (a + t) % n
  · have h2 := (dist_eq hn hi).1 h
    rw [if_pos h, if_pos h2, ← h2, cnt_self hn]
    simp
  · have h2 : ¬ t % n = dist a n i := fun h3 => h ((dist_eq hn hi).2 h3)
    rw [if_neg h, if_neg h2]
    simp
theorem cnt_at {a n t : Nat} (hn : 0 < n) : cntN t n (dist a n ((a + t) % n)) = t / n := by
  have := (dist_eq (a := a) (t := t) hn (Nat.mod_lt (a + t) hn)).1 rfl
  rw [← this, cnt_self hn]

set_option maxHeartbeats 1000000 in
theorem specBurst_c (r c a n : Int) (w : World) :
    Calls Try.prog 9 #[.int .i64 r, .int .i64 c, .int .i64 a, .int .i64 n] w fun e w' => e = .returned (.int .i64 (bs r c a n)) ∧ Below w.heap.size w w' := by
  cases hok : bsOk r c a n with
  | true =>
    have H := hid (bs_yes hok)
    obtain ⟨⟨⟨h1, h2⟩, h3⟩, h4⟩ : ((inB r 1 32 = true ∧ inB c 1 32 = true) ∧ inB a 0 (r * c) = true) ∧ inB n 0 (r * c - a) = true := by simpa [bsOk] using hok
    have hp := prod_in (inB_iff.1 h1).1 (inB_iff.1 h1).2 (inB_iff.1 h2).1 (inB_iff.1 h2).2
    obtain ⟨p1, p2⟩ := hp
    obtain ⟨a1, a2⟩ := inB_iff.1 h1
    obtain ⟨c1, c2⟩ := inB_iff.1 h3
    obtain ⟨d1, d2⟩ := inB_iff.1 h4
    clear hok h4
    generalize hP : r * c = p at *
    obtain ⟨r, rfl⟩ := Int.eq_ofNat_of_zero_le (show 0 ≤ r by omega)
    obtain ⟨a, rfl⟩ := Int.eq_ofNat_of_zero_le c1
    obtain ⟨n, rfl⟩ := Int.eq_ofNat_of_zero_le d1
    have hr : 0 < r := by omega
    have z1 : decide ((n : Int) < 0) = false := by simp
    have z2 : decide (p - (a : Int) < (n : Int)) = false := by simp; omega
    go_enter Try.func9, Try.ntmps9
    go_wp2_with (first | (go_at_call 25; refine (l1In_c _ _ _ _).mono ?_; rintro e w' ⟨rfl, rfl⟩) | (refine wpl_make intSl _ rfl (.tmp 41) (.tmp 41) rfl _ _ r rfl rfl rfl rfl (by omega) ?_; intro w1 hown hbel hlt1))
    go_loopw [10, 11] (fun M i wr => ∃ t : Nat, t ≤ n ∧ i = .int .i64 ((a : Int) + t) ∧ M = .int .i64 (((t + r - 1) / r : Nat) : Int) ∧ Own w.heap.size w1.heap.size wr (.slice (some ⟨w.heap.size, 0, none⟩) r r) (rg r fun i => ((cntN t r (dist a r i) : Nat) : Int)) ∧ Below w.heap.size w wr ∧ Hid (wr.heap.size = w1.heap.size)) (fun _ i _ => a + n - (intOf i).toNat)
    case atStart =>
      refine ⟨0, Nat.zero_le _, by simp, ?_, ?_, hbel, rfl⟩
      · rw [Nat.zero_add, Nat.div_eq_of_lt (by omega)]; rfl
      · have e : (rg r fun i => ((cntN 0 r (dist a r i) : Nat) : Int)) = List.replicate r 0 := by
          rw [rg_zero]
          apply rg_congr
          intro i _
          have := Nat.mod_lt (i + r - a % r) hr
          unfold cntN dist
          rw [Nat.zero_add, Nat.div_eq_of_lt (by omega)]
          rfl
        rw [e]; exact hown
    case round =>
      obtain ⟨t, ht, rfl, rfl, ho, hb, hz⟩ := hrel
      clear hown hbel
      have hM : (t + r - 1) / r ≤ t / r + 1 := by
        have : (t + r - 1) / r ≤ (t + r) / r := Nat.div_le_div_right (by omega)
        rw [Nat.add_div_right _ hr] at this
        exact this
      have hM2 : Hid ((t + 1 + r - 1) / r = t / r + 1) := by
        show _ = _
        rw [show t + 1 + r - 1 = t + r by omega, Nat.add_div_right _ hr]
      have hq : t / r ≤ t := Nat.div_le_self t r
      by_cases hlt : t < n
      · have hm := Nat.mod_lt (a + t) hr
        have ho2 := ho.store ((a + t) % r) (((t / r : Nat) : Int) + 1)
        rw [cnt_set hr] at ho2
        have c2 := ho.cell (k := (a + t) % r) (by rw [rg_length]; exact hm)
        rw [rg_getD hm, cnt_at hr] at c2
        have c3 := ho.free ((a + t) % r)
        have hb2 := hb.setCell (p := ⟨w.heap.size, (a + t) % r, none⟩) (Nat.le_refl _) (.int .i64 (((t / r : Nat) : Int) + 1))
        have c4 := ho2.cell (k := (a + t) % r) (by rw [rg_length]; exact hm)
        have e1 : Int.tmod ((a : Int) + t) (r : Int) = (((a + t) % r : Nat) : Int) := by
          rw [Int.tmod_eq_emod_of_nonneg (by omega)]; simp
        have e2 : ((a : Int) + t) % (r : Int) = (((a + t) % r : Nat) : Int) := by simp
        have c5 : (wr.setCell ⟨w.heap.size, (a + t) % r, none⟩ (.int .i64 (((t / r : Nat) : Int) + 1))).cell? ⟨w.heap.size, (a + t) % r, none⟩ = some (.int .i64 (((t / r : Nat) : Int) + 1)) := by
          rw [c4, rg_getD hm, cnt_step (d := dist a r ((a + t) % r)) hr (Nat.mod_lt _ hr), if_pos ((dist_eq hr hm).1 rfl), cnt_at hr]
          simp
        clear c4
        generalize (a + t) % r = m at *
        generalize (t + r - 1) / r = M at *
        generalize t / r = q at *
        have i1 : (m : Int) < (r : Int) := by omega
        have i2 : (M : Int) ≤ (q : Int) + 1 := by omega
        have i3 : max (M : Int) ((q : Int) + 1) = (q : Int) + 1 := by omega
        clear ho hb
        go_wp2
        go_region
        all_goals
          go_wp2
          go_roundw
          case rel => exact ⟨t + 1, by omega, by go_num, by rw [hM2.out]; go_num, ho2.keep (fun _ _ => rfl), below_like hb2 rfl rfl rfl rfl, hid (by simpa using hz.out)⟩
          case measure => simp [intOf]; omega
      · obtain rfl : t = n := by omega
        go_wp2
        go_ret
        refine ⟨ret_int ?_, hb⟩
        rw [H.out]
        have : (t : Int) + r - 1 = ((t + r - 1 : Nat) : Int) := by omega
        rw [this]; simp
  | false =>
    have H := hid (bs_no hok)
    have hw := bs_why hok
    clear hok
    by_cases b1 : inB r 1 32 = true
    · by_cases b2 : inB c 1 32 = true
      · have hp := prod_in (inB_iff.1 b1).1 (inB_iff.1 b1).2 (inB_iff.1 b2).1 (inB_iff.1 b2).2
        obtain ⟨p1, p2⟩ := hp
        have k1 := inB_iff.1 b1
        have k2 := inB_iff.1 b2
        generalize hP : r * c = p at *
        by_cases g0 : n < 0
        · clear hw k1 k2
          go_enter Try.func9, Try.ntmps9
          go_wp2_with (go_at_call 25; refine (l1In_c _ _ _ _).mono ?_; rintro e w' ⟨rfl, rfl⟩)
          go_ret
          exact ⟨ret_int H.out.symm, Below.refl _ _⟩
        · by_cases b3 : inB a 0 p = true
          · have k3 := inB_iff.1 b3
            have g1 : p - a < n := by omega
            have k4 : 0 ≤ a := k3.1
            have k5 : a ≤ p := k3.2
            have g2 : 0 ≤ n := by omega
            clear hw k1 k2 k3
            go_enter Try.func9, Try.ntmps9
            go_wp2_with (go_at_call 25; refine (l1In_c _ _ _ _).mono ?_; rintro e w' ⟨rfl, rfl⟩)
            go_ret
            exact ⟨ret_int H.out.symm, Below.refl _ _⟩
          · have b3' : inB a 0 p = false := by simpa using b3
            have g2 : 0 ≤ n := by omega
            clear hw k1 k2 b3
            go_enter Try.func9, Try.ntmps9
            go_wp2_with (go_at_call 25; refine (l1In_c _ _ _ _).mono ?_; rintro e w' ⟨rfl, rfl⟩)
            go_ret
            exact ⟨ret_int H.out.symm, Below.refl _ _⟩
      · have b2' : inB c 1 32 = false := by simpa using b2
        clear hw b2
        go_enter Try.func9, Try.ntmps9
        go_wp2_with (go_at_call 25; refine (l1In_c _ _ _ _).mono ?_; rintro e w' ⟨rfl, rfl⟩)
        go_ret
        exact ⟨ret_int H.out.symm, Below.refl _ _⟩
    · have b1' : inB r 1 32 = false := by simpa using b1
      clear hw b1
      go_enter Try.func9, Try.ntmps9
      go_wp2_with (go_at_call 25; refine (l1In_c _ _ _ _).mono ?_; rintro e w' ⟨rfl, rfl⟩)
      go_ret
      exact ⟨ret_int H.out.symm, Below.refl _ _⟩

theorem implBurst_t {r c a n : Int} (w : World) (_ : -9223372036854775808 ≤ r ∧ r ≤ 9223372036854775807) (_ : -9223372036854775808 ≤ c ∧ c ≤ 9223372036854775807) (_ : -9223372036854775808 ≤ a ∧ a ≤ 9223372036854775807) (_ : -9223372036854775808 ≤ n ∧ n ≤ 9223372036854775807) :
    Calls Try.prog 10 #[.int .i64 r, .int .i64 c, .int .i64 a, .int .i64 n] w fun e w' => e = .returned (.int .i64 (bs r c a n)) ∧ Below w.heap.size w w' := b_same (implBurst_c r c a n w)
theorem specBurst_t {r c a n : Int} (w : World) (_ : -9223372036854775808 ≤ r ∧ r ≤ 9223372036854775807) (_ : -9223372036854775808 ≤ c ∧ c ≤ 9223372036854775807) (_ : -9223372036854775808 ≤ a ∧ a ≤ 9223372036854775807) (_ : -9223372036854775808 ≤ n ∧ n ≤ 9223372036854775807) :
    Calls Try.prog 9 #[.int .i64 r, .int .i64 c, .int .i64 a, .int .i64 n] w fun e w' => e = .returned (.int .i64 (bs r c a n)) ∧ Below w.heap.size w w' := specBurst_c r c a n w

end Go.Proofs.Ytfefkpjikjjjjaa
