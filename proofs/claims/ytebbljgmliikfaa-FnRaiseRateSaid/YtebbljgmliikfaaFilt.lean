/-
  FilterSequence, of the program and of the reference: both return the same list of sums of products.
-/
import Derived.Test.YtebbljgmliikfaaSeq
import Derived.StillTailTactics
namespace Go.Proofs.Ytebbljgmliikfaa
open Go.RowKit

/-! ### sums, and the convolution -/
def sm : Nat → (Nat → Int) → Int
  | 0, _ => 0
  | n + 1, f => sm n f + f n
theorem sm_congr {n : Nat} {f g : Nat → Int} (h : ∀ i, i < n → f i = g i) : sm n f = sm n g := by
  induction n with
  | zero => rfl
  | succ n ih => simp only [sm]; rw [ih fun i hi => h i (by omega), h n (by omega)]
theorem sm_bound {n : Nat} {f : Nat → Int} {c : Int} (h : ∀ i, i < n → -c ≤ f i ∧ f i ≤ c) : -(n * c) ≤ sm n f ∧ sm n f ≤ n * c := by
  induction n with
  | zero => simp [sm]
  | succ n ih =>
    have h1 := ih fun i hi => h i (by omega)
    have h2 := h n (by omega)
    simp only [sm]
    have e : ((n + 1 : Nat) : Int) * c = n * c + c := by rw [Int.natCast_add, Int.add_mul]; simp
    rw [e]
    omega
theorem mul_bound {x y : Int} (hx : -1000 ≤ x ∧ x ≤ 1000) (hy : -1000 ≤ y ∧ y ≤ 1000) : -1000000 ≤ x * y ∧ x * y ≤ 1000000 := by
  have h := Int.natAbs_mul x y
  have h1 : x.natAbs ≤ 1000 := by omega
  have h2 : y.natAbs ≤ 1000 := by omega
  have h3 := Nat.mul_le_mul h1 h2
  omega

def convT (a b : List Int) (k i : Nat) : Int := if i ≤ k then a.getD i 0 * b.getD (k - i) 0 else 0
def convF (a b : List Int) (k : Nat) : Int := sm a.length (convT a b k)
def conv (a b : List Int) : List Int := rg (a.length + b.length - 1) (convF a b)
def filtOk (a b : List Int) : Bool := seqOk a && seqOk b && !decide (a.length = 0) && !decide (b.length = 0)
def filt (a b : List Int) : List Int := if filtOk a b = true then conv a b else []
/-- number k when the rows before i are done, and of row i the places before j -/
def cf (a b : List Int) (i j k : Nat) : Int := sm i (convT a b k) + if i ≤ k ∧ k - i < j then a.getD i 0 * b.getD (k - i) 0 else 0
theorem cf_start (a b : List Int) (i : Nat) : cf a b i 0 = fun k => sm i (convT a b k) := by
  funext k
  simp [cf]
theorem cf_end (a b : List Int) (i : Nat) : cf a b i b.length = fun k => sm (i + 1) (convT a b k) := by
  funext k
  simp only [cf, sm, convT]
  congr 1
  by_cases h1 : i ≤ k
  · by_cases h2 : k - i < b.length
    · rw [if_pos ⟨h1, h2⟩, if_pos h1]
    · rw [if_neg (by omega), if_pos h1]
      simp [List.getD, List.getElem?_eq_none (by omega : b.length ≤ k - i)]
  · rw [if_neg (by omega), if_neg h1]
theorem cf_step (a b : List Int) (n i j : Nat) {x y : Int} (hx : a.getD i 0 = x) (hy : b.getD j 0 = y) :
    (rg n (cf a b i j)).set (i + j) (cf a b i j (i + j) + x * y) = rg n (cf a b i (j + 1)) := by
  rw [rg_set]
  apply rg_congr
  intro k _
  by_cases h : k = i + j
  · subst h
    rw [if_pos rfl]
    simp only [cf]
    rw [if_neg (by omega), if_pos ⟨by omega, by omega⟩, show i + j - i = j by omega, hx, hy]
    omega
  · rw [if_neg h]
    simp only [cf]
    congr 1
    by_cases h1 : i ≤ k ∧ k - i < j
    · rw [if_pos h1, if_pos ⟨h1.1, by omega⟩]
    · rw [if_neg h1, if_neg (by omega)]
theorem convT_bound {a b : List Int} (ha : seqOk a = true) (hb : seqOk b = true) (k i : Nat) : -1000000 ≤ convT a b k i ∧ convT a b k i ≤ 1000000 := by
  unfold convT
  split
  · exact mul_bound (seqOk_at ha i) (seqOk_at hb _)
  · omega
theorem cf_bound {a b : List Int} (ha : seqOk a = true) (hb : seqOk b = true) {i : Nat} (hi : i ≤ 64) (j k : Nat) : -65000000 ≤ cf a b i j k ∧ cf a b i j k ≤ 65000000 := by
  have h1 := sm_bound (n := i) (f := convT a b k) (c := 1000000) fun i _ => convT_bound ha hb k i
  have h2 := mul_bound (seqOk_at ha i) (seqOk_at hb (k - i))
  unfold cf
  split <;> omega
theorem cf_all (a b : List Int) (n : Nat) : rg n (cf a b a.length 0) = rg n (convF a b) := by rw [cf_start]; rfl
theorem filt_no {a b : List Int} (h : filtOk a b = false) : filt a b = [] := by simp [filt, h]
theorem filt_yes {a b : List Int} (h : filtOk a b = true) : filt a b = conv a b := by simp [filt, h]

set_option maxHeartbeats 400000 in
theorem implFilt_c {C D : Nat} {v1 v2 : Value} {xs ys : List Int} (w : World) (h1 : Rd C w v1 xs) (h2 : Rd D w v2 ys) (hC : C ≤ w.heap.size) (hD : D ≤ w.heap.size) :
    Calls Try.prog 13 #[v1, v2] w fun e w' => ∃ v', e = .returned v' ∧ Own w.heap.size w'.heap.size w' v' (filt xs ys) ∧ Below w.heap.size w w' := by
  by_cases hok : filtOk xs ys = true
  · have H := hid (filt_yes hok)
    obtain ⟨⟨⟨s1, s2⟩, e1⟩, e2⟩ : ((seqOk xs = true ∧ seqOk ys = true) ∧ xs.length ≠ 0) ∧ ys.length ≠ 0 := by simpa [filtOk] using hok
    clear hok
    obtain ⟨A, n, c, rfl, h1⟩ := h1
    obtain ⟨B, m, d, rfl, h2⟩ := h2
    have R1 : Rd C w (.slice A n c) xs := ⟨_, _, _, rfl, h1⟩
    have R2 : Rd D w (.slice B m d) ys := ⟨_, _, _, rfl, h2⟩
    have l1 := hid h1.len
    have l2 := hid h2.len
    have m1 : n ≤ 64 := by have := seqOk_len s1; have := h1.len; omega
    have m2 : m ≤ 64 := by have := seqOk_len s2; have := h2.len; omega
    have p1 : 0 < n := by have := h1.len; omega
    have p2 : 0 < m := by have := h2.len; omega
    have z1 : ((n : Int) == 0) = false := by simp; omega
    have z2 : ((m : Int) == 0) = false := by simp; omega
    have S1 := hid s1
    have S2 := hid s2
    clear e1 e2
    go_enter Try.func13, Try.ntmps13
    go_wp2_with (first | (go_at_call 16; (with_reducible refine (implSeq_c _ R1).mono ?_); rintro e w' ⟨rfl, rfl⟩) | (go_at_call 16; (with_reducible refine (implSeq_c _ R2).mono ?_); rintro e w' ⟨rfl, rfl⟩) | (refine wpl_make intSl _ rfl (.tmp 33) (.tmp 33) rfl _ _ (n + m - 1) rfl rfl (by omega) (by omega) (by omega) ?_; intro w1 hown hbel hlt1))
    have N := hid (rfl : n + m - 1 = n + m - 1)
    go_loopw [37] (fun i wr => ∃ k : Nat, k ≤ n ∧ i = .int .i64 k ∧ Own w.heap.size w1.heap.size wr (.slice (some ⟨w.heap.size, 0, none⟩) (n + m - 1) (n + m - 1)) (rg (n + m - 1) (cf xs ys k 0)) ∧ Below w.heap.size w wr ∧ Hid (wr.heap.size = w1.heap.size)) (fun i _ => n - (intOf i).toNat)
    case atStart =>
      refine ⟨0, Nat.zero_le _, rfl, ?_, hbel, rfl⟩
      have e : rg (n + m - 1) (cf xs ys 0 0) = List.replicate (n + m - 1) 0 := by rw [rg_zero]; exact rg_congr fun i _ => by simp [cf, sm]
      rw [e]; exact hown
    case round =>
      obtain ⟨k, hk, rfl, ho, hb, hz⟩ := hrel
      clear hown hbel
      by_cases hlt : k < n
      · obtain ⟨b, off, x, rfl, hbC, hcell, hx⟩ := h1.at_ hlt
        have c1 := (hb.cell (p := ⟨b, off + k, none⟩) (by simp; omega)).trans hcell
        have bx := seqOk_at S1.out k
        rw [hx.out] at bx
        go_wp2
        obtain ⟨wo, rfl⟩ : ∃ wo, wo = wr := ⟨_, rfl⟩
        go_loopw [44] (fun j wr => ∃ q : Nat, q ≤ m ∧ j = .int .i64 q ∧ Own w.heap.size w1.heap.size wr (.slice (some ⟨w.heap.size, 0, none⟩) (n + m - 1) (n + m - 1)) (rg (n + m - 1) (cf xs ys k q)) ∧ Below w.heap.size w wr ∧ Hid (wr.heap.size = w1.heap.size)) (fun j _ => m - (intOf j).toNat)
        case atStart => exact ⟨0, Nat.zero_le _, rfl, ho, hb, hz⟩
        case round =>
          obtain ⟨q, hq, rfl, ho, hb, hz⟩ := hrel
          by_cases hlq : q < m
          · obtain ⟨b', off', y, rfl, hbD, hcell', hy⟩ := h2.at_ hlq
            have c2 := (hb.cell (p := ⟨b', off' + q, none⟩) (by simp; omega)).trans hcell'
            have c3 := ho.cell (k := k + q) (by rw [rg_length]; omega)
            rw [rg_getD (by omega)] at c3
            have c4 := ho.free (k + q)
            have by' := seqOk_at S2.out q
            rw [hy.out] at by'
            have bm := mul_bound bx by'
            have bf := cf_bound S1.out S2.out (i := k) (by omega) q (k + q)
            have ho2 := ho.store (k + q) (cf xs ys k q (k + q) + x * y)
            rw [cf_step xs ys _ k q hx.out hy.out] at ho2
            have hb2 := hb.setCell (p := ⟨w.heap.size, k + q, none⟩) (Nat.le_refl _) (.int .i64 (cf xs ys k q (k + q) + x * y))
            generalize cf xs ys k q (k + q) = u at c3 bf ho2 hb2
            generalize hp : x * y = p at bm ho2 hb2
            clear ho hb hcell hcell'
            go_wp2
            go_roundw
            case rel => exact ⟨q + 1, by omega, by go_num, ho2, hb2, hid (by simpa using hz.out)⟩
            case measure => simp [intOf]; omega
          · obtain rfl : q = m := by omega
            have ho2 : Own w.heap.size w1.heap.size wr (.slice (some ⟨w.heap.size, 0, none⟩) (n + q - 1) (n + q - 1)) (rg (n + q - 1) (cf xs ys (k + 1) 0)) := by
              rw [cf_start, ← cf_end, l2.out]; exact ho
            clear ho
            go_wp2
            go_roundw
            case rel => exact ⟨k + 1, by omega, by go_num, ho2, hb, hz⟩
            case measure => simp [intOf]; omega
      · obtain rfl : k = n := by omega
        go_wp2
        go_ret
        refine ⟨_, rfl, ?_, hb⟩
        rw [H.out, conv, l1.out, l2.out, ← cf_all, l1.out]
        exact ho.more (by rw [hz.out]; exact Nat.le_refl _)
  · have hok' : filtOk xs ys = false := by simpa using hok
    have H := hid (filt_no hok')
    clear hok
    obtain ⟨A, n, c, rfl, h1⟩ := h1
    obtain ⟨B, m, d, rfl, h2⟩ := h2
    have R1 : Rd C w (.slice A n c) xs := ⟨_, _, _, rfl, h1⟩
    have R2 : Rd D w (.slice B m d) ys := ⟨_, _, _, rfl, h2⟩
    have l1 := h1.len
    have l2 := h2.len
    by_cases s1 : seqOk xs = true
    · by_cases s2 : seqOk ys = true
      · rw [filtOk, s1, s2, l1, l2] at hok'
        by_cases z1 : n = 0
        · subst z1
          clear hok' l1 l2
          go_enter Try.func13, Try.ntmps13
          go_wp2_with (first | (go_at_call 16; (with_reducible refine (implSeq_c _ R1).mono ?_); rintro e w' ⟨rfl, rfl⟩) | (go_at_call 16; (with_reducible refine (implSeq_c _ R2).mono ?_); rintro e w' ⟨rfl, rfl⟩))
          go_ret
          exact ⟨_, rfl, by rw [H.out]; exact Own.nil _ _ _, Below.refl _ _⟩
        · have z2 : m = 0 := by simpa [z1] using hok'
          subst z2
          have z1' : ((n : Int) == 0) = false := by simp; omega
          clear hok' l1 l2
          go_enter Try.func13, Try.ntmps13
          go_wp2_with (first | (go_at_call 16; (with_reducible refine (implSeq_c _ R1).mono ?_); rintro e w' ⟨rfl, rfl⟩) | (go_at_call 16; (with_reducible refine (implSeq_c _ R2).mono ?_); rintro e w' ⟨rfl, rfl⟩))
          go_ret
          exact ⟨_, rfl, by rw [H.out]; exact Own.nil _ _ _, Below.refl _ _⟩
      · have s2' : seqOk ys = false := by simpa using s2
        clear s2 hok' l1 l2
        go_enter Try.func13, Try.ntmps13
        go_wp2_with (first | (go_at_call 16; (with_reducible refine (implSeq_c _ R1).mono ?_); rintro e w' ⟨rfl, rfl⟩) | (go_at_call 16; (with_reducible refine (implSeq_c _ R2).mono ?_); rintro e w' ⟨rfl, rfl⟩))
        go_ret
        exact ⟨_, rfl, by rw [H.out]; exact Own.nil _ _ _, Below.refl _ _⟩
    · have s1' : seqOk xs = false := by simpa using s1
      clear s1 hok' l1 l2
      go_enter Try.func13, Try.ntmps13
      go_wp2_with (go_at_call 16; (with_reducible refine (implSeq_c _ R1).mono ?_); rintro e w' ⟨rfl, rfl⟩)
      go_ret
      exact ⟨_, rfl, by rw [H.out]; exact Own.nil _ _ _, Below.refl _ _⟩

set_option maxHeartbeats 400000 in
theorem specFilt_c {C D : Nat} {v1 v2 : Value} {xs ys : List Int} (w : World) (h1 : Rd C w v1 xs) (h2 : Rd D w v2 ys) (hC : C ≤ w.heap.size) (hD : D ≤ w.heap.size) :
    Calls Try.prog 15 #[v1, v2] w fun e w' => ∃ v', e = .returned v' ∧ Own w.heap.size w'.heap.size w' v' (filt xs ys) ∧ Below w.heap.size w w' := by
  by_cases hok : filtOk xs ys = true
  · have H := hid (filt_yes hok)
    obtain ⟨⟨⟨s1, s2⟩, e1⟩, e2⟩ : ((seqOk xs = true ∧ seqOk ys = true) ∧ xs.length ≠ 0) ∧ ys.length ≠ 0 := by simpa [filtOk] using hok
    clear hok
    obtain ⟨A, n, c, rfl, h1⟩ := h1
    obtain ⟨B, m, d, rfl, h2⟩ := h2
    have R1 : Rd C w (.slice A n c) xs := ⟨_, _, _, rfl, h1⟩
    have R2 : Rd D w (.slice B m d) ys := ⟨_, _, _, rfl, h2⟩
    have l1 := hid h1.len
    have l2 := hid h2.len
    have m1 : n ≤ 64 := by have := seqOk_len s1; have := h1.len; omega
    have m2 : m ≤ 64 := by have := seqOk_len s2; have := h2.len; omega
    have p1 : 0 < n := by have := h1.len; omega
    have p2 : 0 < m := by have := h2.len; omega
    have z1 : ((n : Int) == 0) = false := by simp; omega
    have z2 : ((m : Int) == 0) = false := by simp; omega
    have S1 := hid s1
    have S2 := hid s2
    clear e1 e2
    go_enter Try.func15, Try.ntmps15
    go_wp2_with (first | (go_at_call 35; (with_reducible refine (specSeq_c _ R1).mono ?_); rintro e w' ⟨rfl, rfl⟩) | (go_at_call 35; (with_reducible refine (specSeq_c _ R2).mono ?_); rintro e w' ⟨rfl, rfl⟩) | (refine wpl_make intSl _ rfl (.tmp 32) (.tmp 32) rfl _ _ (n + m - 1) rfl rfl (by omega) (by omega) (by omega) ?_; intro w1 hown hbel hlt1))
    have N := hid (rfl : n + m - 1 = n + m - 1)
    go_loopw [6] (fun i wr => ∃ k : Nat, k ≤ n ∧ i = .int .i64 k ∧ Own w.heap.size w1.heap.size wr (.slice (some ⟨w.heap.size, 0, none⟩) (n + m - 1) (n + m - 1)) (rg (n + m - 1) (cf xs ys k 0)) ∧ Below w.heap.size w wr ∧ Hid (wr.heap.size = w1.heap.size)) (fun i _ => n - (intOf i).toNat)
    case atStart =>
      refine ⟨0, Nat.zero_le _, rfl, ?_, hbel, rfl⟩
      have e : rg (n + m - 1) (cf xs ys 0 0) = List.replicate (n + m - 1) 0 := by rw [rg_zero]; exact rg_congr fun i _ => by simp [cf, sm]
      rw [e]; exact hown
    case round =>
      obtain ⟨k, hk, rfl, ho, hb, hz⟩ := hrel
      clear hown hbel
      by_cases hlt : k < n
      · obtain ⟨b, off, x, rfl, hbC, hcell, hx⟩ := h1.at_ hlt
        have c1 := (hb.cell (p := ⟨b, off + k, none⟩) (by simp; omega)).trans hcell
        have bx := seqOk_at S1.out k
        rw [hx.out] at bx
        go_wp2
        obtain ⟨wo, rfl⟩ : ∃ wo, wo = wr := ⟨_, rfl⟩
        go_loopw [7] (fun j wr => ∃ q : Nat, q ≤ m ∧ j = .int .i64 q ∧ Own w.heap.size w1.heap.size wr (.slice (some ⟨w.heap.size, 0, none⟩) (n + m - 1) (n + m - 1)) (rg (n + m - 1) (cf xs ys k q)) ∧ Below w.heap.size w wr ∧ Hid (wr.heap.size = w1.heap.size)) (fun j _ => m - (intOf j).toNat)
        case atStart => exact ⟨0, Nat.zero_le _, rfl, ho, hb, hz⟩
        case round =>
          obtain ⟨q, hq, rfl, ho, hb, hz⟩ := hrel
          by_cases hlq : q < m
          · obtain ⟨b', off', y, rfl, hbD, hcell', hy⟩ := h2.at_ hlq
            have c2 := (hb.cell (p := ⟨b', off' + q, none⟩) (by simp; omega)).trans hcell'
            have c5 := (hb.cell (p := ⟨b, off + k, none⟩) (by simp; omega)).trans hcell
            have c3 := ho.cell (k := k + q) (by rw [rg_length]; omega)
            rw [rg_getD (by omega)] at c3
            have c4 := ho.free (k + q)
            have by' := seqOk_at S2.out q
            rw [hy.out] at by'
            have bm := mul_bound bx by'
            have bf := cf_bound S1.out S2.out (i := k) (by omega) q (k + q)
            have ho2 := ho.store (k + q) (cf xs ys k q (k + q) + x * y)
            rw [cf_step xs ys _ k q hx.out hy.out] at ho2
            have hb2 := hb.setCell (p := ⟨w.heap.size, k + q, none⟩) (Nat.le_refl _) (.int .i64 (cf xs ys k q (k + q) + x * y))
            generalize cf xs ys k q (k + q) = u at c3 bf ho2 hb2
            generalize hp : x * y = p at bm ho2 hb2
            clear c1
            clear ho hb hcell hcell'
            have w1' : IntKind.i64.wrap ((k : Int) + q) = (k : Int) + q := IntWalk.i64_in _ (by omega)
            have w2' : IntKind.i64.wrap (x * y) = p := by rw [hp]; exact IntWalk.i64_in _ (by omega)
            clear hp
            have w3' : IntKind.i64.wrap (u + p) = u + p := IntWalk.i64_in _ (by omega)
            have w4' : (0 : Int) ≤ (k : Int) + q := by omega
            have w5' : ((k : Int) + q).toNat = k + q := by omega
            have w6' : (k : Int) + q < ((n + m - 1 : Nat) : Int) := by omega
            have w7' : (k : Int) < (n : Int) := by omega
            have w8' : (q : Int) < (m : Int) := by omega
            go_wp2
            go_still_tail 21, (by kernel_rfl)
            change wpList _ _ _ _ _ wr.drew
            go_wp2
            go_roundw
            case rel => exact ⟨q + 1, by omega, by go_num, ho2.drewN 1, below_drewN hb2 1, hid (by simpa using hz.out)⟩
            case measure => simp [intOf]; omega
          · obtain rfl : q = m := by omega
            have ho2 : Own w.heap.size w1.heap.size wr (.slice (some ⟨w.heap.size, 0, none⟩) (n + q - 1) (n + q - 1)) (rg (n + q - 1) (cf xs ys (k + 1) 0)) := by
              rw [cf_start, ← cf_end, l2.out]; exact ho
            clear ho
            go_wp2
            go_roundw
            case rel => exact ⟨k + 1, by omega, by go_num, ho2, hb, hz⟩
            case measure => simp [intOf]; omega
      · obtain rfl : k = n := by omega
        go_wp2
        go_ret
        refine ⟨_, rfl, ?_, hb⟩
        rw [H.out, conv, l1.out, l2.out, ← cf_all, l1.out]
        exact ho.more (by rw [hz.out]; exact Nat.le_refl _)
  · have hok' : filtOk xs ys = false := by simpa using hok
    have H := hid (filt_no hok')
    clear hok
    obtain ⟨A, n, c, rfl, h1⟩ := h1
    obtain ⟨B, m, d, rfl, h2⟩ := h2
    have R1 : Rd C w (.slice A n c) xs := ⟨_, _, _, rfl, h1⟩
    have R2 : Rd D w (.slice B m d) ys := ⟨_, _, _, rfl, h2⟩
    have l1 := h1.len
    have l2 := h2.len
    by_cases s1 : seqOk xs = true
    · by_cases s2 : seqOk ys = true
      · rw [filtOk, s1, s2, l1, l2] at hok'
        by_cases z1 : n = 0
        · subst z1
          clear hok' l1 l2
          go_enter Try.func15, Try.ntmps15
          go_wp2_with (first | (go_at_call 35; (with_reducible refine (specSeq_c _ R1).mono ?_); rintro e w' ⟨rfl, rfl⟩) | (go_at_call 35; (with_reducible refine (specSeq_c _ R2).mono ?_); rintro e w' ⟨rfl, rfl⟩))
          go_ret
          exact ⟨_, rfl, by rw [H.out]; exact (Own.made w #[] [] rfl rfl (Nat.zero_le _)).more (by simp), (Below.refl _ _).alloc (Nat.le_refl _) _⟩
        · have z2 : m = 0 := by simpa [z1] using hok'
          subst z2
          have z1' : ((n : Int) == 0) = false := by simp; omega
          clear hok' l1 l2
          go_enter Try.func15, Try.ntmps15
          go_wp2_with (first | (go_at_call 35; (with_reducible refine (specSeq_c _ R1).mono ?_); rintro e w' ⟨rfl, rfl⟩) | (go_at_call 35; (with_reducible refine (specSeq_c _ R2).mono ?_); rintro e w' ⟨rfl, rfl⟩))
          go_ret
          exact ⟨_, rfl, by rw [H.out]; exact (Own.made w #[] [] rfl rfl (Nat.zero_le _)).more (by simp), (Below.refl _ _).alloc (Nat.le_refl _) _⟩
      · have s2' : seqOk ys = false := by simpa using s2
        clear s2 hok' l1 l2
        go_enter Try.func15, Try.ntmps15
        go_wp2_with (first | (go_at_call 35; (with_reducible refine (specSeq_c _ R1).mono ?_); rintro e w' ⟨rfl, rfl⟩) | (go_at_call 35; (with_reducible refine (specSeq_c _ R2).mono ?_); rintro e w' ⟨rfl, rfl⟩))
        go_ret
        exact ⟨_, rfl, by rw [H.out]; exact (Own.made w #[] [] rfl rfl (Nat.zero_le _)).more (by simp), (Below.refl _ _).alloc (Nat.le_refl _) _⟩
    · have s1' : seqOk xs = false := by simpa using s1
      clear s1 hok' l1 l2
      go_enter Try.func15, Try.ntmps15
      go_wp2_with (go_at_call 35; (with_reducible refine (specSeq_c _ R1).mono ?_); rintro e w' ⟨rfl, rfl⟩)
      go_ret
      exact ⟨_, rfl, by rw [H.out]; exact (Own.made w #[] [] rfl rfl (Nat.zero_le _)).more (by simp), (Below.refl _ _).alloc (Nat.le_refl _) _⟩

end Go.Proofs.Ytebbljgmliikfaa
