/-
  InterleaveBits and DeinterleaveBits, of the program and of the reference: a table that is written by rows and read by columns.
-/
import Derived.Test.YtokgonhfmidbeaaDoorBits
import Derived.StillTailTactics
import Derived.Deep.RegionWith
import Derived.Deep.RegionHeld3
import Derived.RegionTactic
import Derived.BigRegion
namespace Go.Proofs.YtokgonhfmidbeaaDoor
open Go.RowKit

def tabOk (xs : List Int) (n : Int) : Bool := bitsOk xs && inB n 1 32 && decide ((xs.length : Int) % n = 0)
def interN (xs : List Int) (r : Nat) : List Int := rg xs.length fun k => xs.getD (k % r * (xs.length / r) + k / r) 0
def inter (xs : List Int) (n : Int) : List Int := if tabOk xs n = true then interN xs n.toNat else []
def deinterN (xs : List Int) (r : Nat) : List Int := rg xs.length fun k => xs.getD (k % (xs.length / r) * r + k / (xs.length / r)) 0
def deinter (xs : List Int) (n : Int) : List Int := if tabOk xs n = true then deinterN xs n.toNat else []
theorem inter_yes {xs : List Int} {n : Int} (h : tabOk xs n = true) : inter xs n = interN xs n.toNat := by simp [inter, h]
theorem inter_no {xs : List Int} {n : Int} (h : tabOk xs n = false) : inter xs n = [] := by simp [inter, h]
theorem deinter_yes {xs : List Int} {n : Int} (h : tabOk xs n = true) : deinter xs n = deinterN xs n.toNat := by simp [deinter, h]
theorem deinter_no {xs : List Int} {n : Int} (h : tabOk xs n = false) : deinter xs n = [] := by simp [deinter, h]

/-! ### the places of a table of r rows and c columns -/
theorem place_lt {r c k : Nat} (hk : k < r * c) : k % r * c + k / r < r * c := by
  have hr : 0 < r := by rcases Nat.eq_zero_or_pos r with h | h; · subst h; simp at hk
                        · exact h
  have h1 := Nat.mod_lt k hr
  have h2 : k / r < c := by rw [Nat.div_lt_iff_lt_mul hr, Nat.mul_comm]; exact hk
  have h3 : (k % r + 1) * c ≤ r * c := Nat.mul_le_mul_right c h1
  rw [Nat.add_mul] at h3
  omega
theorem place_mod {r c k : Nat} (hk : k < r * c) : (k % r * c + k / r) % c = k / r := by
  have hr : 0 < r := by rcases Nat.eq_zero_or_pos r with h | h; · subst h; simp at hk
                        · exact h
  have h2 : k / r < c := by rw [Nat.div_lt_iff_lt_mul hr, Nat.mul_comm]; exact hk
  rw [Nat.add_comm, Nat.add_mul_mod_self_right, Nat.mod_eq_of_lt h2]
theorem place_div {r c k : Nat} (hk : k < r * c) : (k % r * c + k / r) / c = k % r := by
  have hr : 0 < r := by rcases Nat.eq_zero_or_pos r with h | h; · subst h; simp at hk
                        · exact h
  have h2 : k / r < c := by rw [Nat.div_lt_iff_lt_mul hr, Nat.mul_comm]; exact hk
  rw [Nat.add_comm, Nat.add_mul_div_right _ _ (Nat.lt_of_le_of_lt (Nat.zero_le _) h2), Nat.div_eq_of_lt h2, Nat.zero_add]
theorem place_inv {r c k : Nat} (hk : k < r * c) : (k % r * c + k / r) % c * r + (k % r * c + k / r) / c = k := by
  rw [place_mod hk, place_div hk, Nat.mul_comm]
  exact Nat.div_add_mod k r

theorem tab_len {L r : Nat} (h : (L : Int) % (r : Int) = 0) : r * (L / r) = L := by
  have h2 : L % r = 0 := by
    have : ((L % r : Nat) : Int) = 0 := by rw [Int.natCast_emod]; exact h
    omega
  have := Nat.div_add_mod L r
  omega


theorem tabOk_bits {xs : List Int} {n : Int} (h : bitsOk xs = false) : tabOk xs n = false := by simp [tabOk, h]

/- the guard of both functions -/
set_option maxHeartbeats 400000 in
theorem implTab_c {C : Nat} {v : Value} {xs : List Int} (w : World) (n : Int) (h1 : Rd C w v xs) :
    Calls Tryd.prog 21 #[v, .int .i64 n] w fun e w' => e = .returned (.bool (tabOk xs n)) ∧ w = w' := by
  obtain ⟨A, L, c, rfl, h1⟩ := h1
  have R1 : Rd C w (.slice A L c) xs := ⟨_, _, _, rfl, h1⟩
  have H : Hid (tabOk xs n = (bitsOk xs && inB n 1 32 && decide ((L : Int) % n = 0))) := by show _ = _; rw [tabOk, h1.len]
  have hm := h1.sm
  by_cases s1 : bitsOk xs = true
  · by_cases hin : inB n 1 32 = true
    · have n1 := (inB_iff.1 hin).1
      have n32 := (inB_iff.1 hin).2
      by_cases hmod : (L : Int) % n = 0
      · have e : ((L : Int) % n == 0) = true := by simpa using hmod
        have H2 : Hid (tabOk xs n = true) := by show _ = _; rw [H.out, s1, hin]; simp [hmod]
        clear hmod
        go_enter Tryd.func21, Tryd.ntmps21
        go_wp2_with (first | (go_at_call 16; (with_reducible refine (implBits_c _ R1).mono ?_); rintro e w' ⟨rfl, rfl⟩) | fail)
        go_ret
        exact ⟨ret_bool H2.out.symm, rfl⟩
      · have e : ((L : Int) % n == 0) = false := by simpa using hmod
        have H2 : Hid (tabOk xs n = false) := by show _ = _; rw [H.out, s1, hin]; simp [hmod]
        clear hmod
        go_enter Tryd.func21, Tryd.ntmps21
        go_wp2_with (first | (go_at_call 16; (with_reducible refine (implBits_c _ R1).mono ?_); rintro e w' ⟨rfl, rfl⟩) | fail)
        go_ret
        exact ⟨ret_bool H2.out.symm, rfl⟩
    · have hin' : inB n 1 32 = false := by simpa using hin
      have H2 : Hid (tabOk xs n = false) := by show _ = _; rw [H.out, s1, hin']; rfl
      have hb : n < 1 ∨ 32 < n := by
        by_cases h : 1 ≤ n
        · simp [inB, h] at hin'
          omega
        · omega
      clear hin
      rcases hb with hb | hb
      all_goals
        go_enter Tryd.func21, Tryd.ntmps21
        go_wp2_with (first | (go_at_call 16; (with_reducible refine (implBits_c _ R1).mono ?_); rintro e w' ⟨rfl, rfl⟩) | fail)
        go_ret
        exact ⟨ret_bool H2.out.symm, rfl⟩
  · have s1' : bitsOk xs = false := by simpa using s1
    have H2 : Hid (tabOk xs n = false) := by show _ = _; rw [H.out, s1']; rfl
    clear s1
    go_enter Tryd.func21, Tryd.ntmps21
    go_wp2_with (first | (go_at_call 16; (with_reducible refine (implBits_c _ R1).mono ?_); rintro e w' ⟨rfl, rfl⟩) | fail)
    go_ret
    exact ⟨ret_bool H2.out.symm, rfl⟩


theorem tdiv_nat (a b : Nat) : Int.tdiv (a : Int) (b : Int) = ((a / b : Nat) : Int) := by
  rw [Int.tdiv_eq_ediv_of_nonneg (by omega)]; simp
theorem tmod_nat (a b : Nat) : Int.tmod (a : Int) (b : Int) = ((a % b : Nat) : Int) := by
  rw [Int.tmod_eq_emod_of_nonneg (by omega)]; simp
theorem ediv_nat (a b : Nat) : (a : Int) / (b : Int) = ((a / b : Nat) : Int) := by simp
theorem emod_nat (a b : Nat) : (a : Int) % (b : Int) = ((a % b : Nat) : Int) := by simp
theorem mul_nat (a b : Nat) : (a : Int) * (b : Int) = ((a * b : Nat) : Int) := by simp

set_option maxHeartbeats 400000 in
theorem placeInTable_c (k r c : Nat) (w : World) (hk : k ≤ 1024) (h1 : 1 ≤ r) (h2 : r ≤ 32) (hc : c ≤ 1024) :
    Calls Tryd.prog 22 #[.int .i64 k, .int .i64 r, .int .i64 c] w fun e w' => e = .returned (.int .i64 ((k % r * c + k / r : Nat) : Int)) ∧ ∃ q, w' = w.drewN q := by
  have hm := Nat.mod_lt k (show 0 < r by omega)
  have hd : k / r ≤ 1024 := Nat.le_trans (Nat.div_le_self k r) hk
  have hp : k % r * c ≤ 32 * 1024 := Nat.mul_le_mul (by omega) hc
  have e1 := tdiv_nat k r
  have e2 := tmod_nat k r
  have e3 := ediv_nat k r
  have e4 := emod_nat k r
  have e5 := mul_nat (k % r) c
  generalize hP : k % r * c = p at hp e5
  have HP := hid hP
  generalize hM : k % r = m at hm e2 e4 e5
  have HM := hid hM
  generalize hD : k / r = d at hd e1 e3
  have HD := hid hD
  clear hP hM hD
  have u1 : IntKind.i64.wrap ((m : Int)) = (m : Int) := IntWalk.i64_in _ (by omega)
  have u2 : IntKind.i64.wrap ((d : Int)) = (d : Int) := IntWalk.i64_in _ (by omega)
  have u3 : IntKind.i64.wrap ((p : Int)) = (p : Int) := IntWalk.i64_in _ (by omega)
  have u4 : IntKind.i64.wrap ((p : Int) + d) = (p : Int) + d := IntWalk.i64_in _ (by omega)
  have u5 : ((r : Int) == 0) = false := by simp; omega
  go_enter Tryd.func22, Tryd.ntmps22
  go_wp2
  go_quiet (fail)
  go_wp2
  go_ret
  exact ⟨ret_int (by have := HP.out; have := HM.out; have := HD.out; simp [*]), _, rfl⟩

theorem fill_step {n k : Nat} {f : Nat → Int} {x : Int} (hx : f k = x) : (rg n fun i => if i < k then f i else 0).set k x = rg n fun i => if i < k + 1 then f i else 0 := copy_step hx
theorem fill_all (n : Nat) (f : Nat → Int) : (rg n fun i => if i < n then f i else 0) = rg n f := rg_congr fun i hi => by rw [if_pos hi]
/-- the places of the table that the first k steps have reached -/
theorem deint_step {n r c k : Nat} {xs : List Int} {x : Int} (hn : n = r * c) (hk : k < n) (hx : xs.getD k 0 = x) :
    (rg n fun i => if i % c * r + i / c < k then xs.getD (i % c * r + i / c) 0 else 0).set (k % r * c + k / r) x = rg n fun i => if i % c * r + i / c < k + 1 then xs.getD (i % c * r + i / c) 0 else 0 := by
  rw [rg_set]
  apply rg_congr
  intro i hi
  by_cases h : i = k % r * c + k / r
  · subst h
    have := place_inv (r := r) (c := c) (k := k) (by omega)
    rw [if_pos rfl, this, if_pos (by omega), hx]
  · rw [if_neg h]
    have hne : i % c * r + i / c ≠ k := by
      intro he
      apply h
      have := place_inv (r := c) (c := r) (k := i) (by rw [Nat.mul_comm, ← hn]; exact hi)
      rw [he] at this
      exact this.symm
    by_cases h2 : i % c * r + i / c < k
    · rw [if_pos h2, if_pos (by omega)]
    · rw [if_neg h2, if_neg (by omega)]
theorem deint_all {n r c : Nat} {xs : List Int} (hn : n = r * c) : (rg n fun i => if i % c * r + i / c < n then xs.getD (i % c * r + i / c) 0 else 0) = rg n fun i => xs.getD (i % c * r + i / c) 0 := by
  apply rg_congr
  intro i hi
  rw [if_pos]
  have := place_lt (r := c) (c := r) (k := i) (by rw [Nat.mul_comm, ← hn]; exact hi)
  exact Nat.lt_of_lt_of_eq this (by rw [hn, Nat.mul_comm])

set_option maxHeartbeats 400000 in
theorem implInter_c {C : Nat} {v : Value} {xs : List Int} (w : World) (n : Int) (h1 : Rd C w v xs) (hC : C ≤ w.heap.size) :
    Calls Tryd.prog 9 #[v, .int .i64 n] w fun e w' => ∃ v', e = .returned v' ∧ Own w.heap.size w'.heap.size w' v' (inter xs n) ∧ Below w.heap.size w w' := by
  by_cases hok : tabOk xs n = true
  · skip
    have H := hid (inter_yes hok)
    obtain ⟨⟨s1, hin⟩, hmod⟩ : (bitsOk xs = true ∧ inB n 1 32 = true) ∧ (xs.length : Int) % n = 0 := by simpa [tabOk] using hok
    obtain ⟨A, L, c, rfl, h1⟩ := h1
    have R1 : Rd C w (.slice A L c) xs := ⟨_, _, _, rfl, h1⟩
    have L1 := hid h1.len
    have hL : L ≤ 1024 := by have := bitsOk_len s1; have := h1.len; omega
    have n1 := (inB_iff.1 hin).1
    have n32 := (inB_iff.1 hin).2
    obtain ⟨r, rfl⟩ := Int.eq_ofNat_of_zero_le (by omega : 0 ≤ n)
    rw [h1.len] at hmod
    have hrc := tab_len hmod
    obtain ⟨K, hK⟩ : ∃ K, K = L / r := ⟨_, rfl⟩
    rw [← hK] at hrc
    have hdiv : (L : Int) / (r : Int) = (K : Int) := by rw [hK]; simp
    have hKL : K ≤ 1024 := by rw [hK]; exact Nat.le_trans (Nat.div_le_self _ _) hL
    have HK := hid hK
    have HRC := hid hrc
    have TOK := hid hok
    clear hK hrc hmod hok
    have hok := TOK.out
    go_enter Tryd.func9, Tryd.ntmps9
    go_wp2_with (first | (go_at_call 21; (with_reducible refine (implTab_c _ _ R1).mono ?_); rintro e w' ⟨rfl, rfl⟩) | (refine wpl_make intSl _ rfl (.tmp 12) (.tmp 12) rfl _ _ L rfl rfl rfl rfl (by omega) ?_; intro w1 hown hbel hlt1))
    clear hok
    go_loopw [16] (fun i wr => ∃ k : Nat, k ≤ L ∧ i = .int .i64 k ∧ Own w.heap.size w1.heap.size wr (.slice (some ⟨w.heap.size, 0, none⟩) L L) (rg L fun i => if i < k then xs.getD (i % r * K + i / r) 0 else 0) ∧ Below w.heap.size w wr ∧ Hid (wr.heap.size = w1.heap.size)) (fun i _ => L - (intOf i).toNat)
    case atStart => exact ⟨0, Nat.zero_le _, rfl, by simpa [rg_zero] using hown, hbel, rfl⟩
    case round =>
      obtain ⟨k, hk, rfl, ho, hb, hz⟩ := hrel
      clear hown hbel
      by_cases hlt : k < L
      · have hP : k % r * K + k / r < L := by rw [← HRC.out]; exact place_lt (by rw [HRC.out]; exact hlt)
        have hpl := fun W => placeInTable_c k r K W (by omega) (by omega) (by omega) hKL
        have ho2 := fun x (hx : xs.getD (k % r * K + k / r) 0 = x) => (fill_step (n := L) (k := k) (f := fun i => xs.getD (i % r * K + i / r) 0) hx) ▸ ho.store k x
        generalize k % r * K + k / r = P at hP hpl ho2
        obtain ⟨b, off, x, rfl, hbC, hcell, hx⟩ := h1.at_ hP
        have ho3 := ho2 x hx.out
        have c1 := (hb.cell (p := ⟨b, off + P, none⟩) (by simp; omega)).trans hcell
        have c2 := ho.cell (k := k) (by rw [rg_length]; exact hlt)
        have c3 := ho.free k
        have hb2 := hb.setCell (p := ⟨w.heap.size, k, none⟩) (Nat.le_refl _) (.int .i64 x)
        have Hpl := hid hpl
        have i1 : (P : Int) < (L : Int) := by omega
        clear hcell ho hb ho2 hpl
        go_wp2_with (go_at_call 22; (with_reducible refine (Hpl.out _).mono ?_); rintro e w' ⟨rfl, q, rfl⟩)
        go_roundw
        case rel => exact ⟨k + 1, by omega, by go_num, ho3.drewN q, below_drewN hb2 q, hid (by simpa using hz.out)⟩
        case measure => simp [intOf]; omega
      · obtain rfl : k = L := by omega
        go_wp2
        go_ret
        refine ⟨_, rfl, ?_, hb⟩
        rw [H.out, interN, L1.out, Int.toNat_natCast, ← HK.out]
        rw [fill_all] at ho
        exact ho.more (by rw [hz.out]; exact Nat.le_refl _)
  · have hok' : tabOk xs n = false := by simpa using hok
    have H := hid (inter_no hok')
    clear hok
    go_enter Tryd.func9, Tryd.ntmps9
    go_wp2_with (go_at_call 21; (with_reducible refine (implTab_c _ _ h1).mono ?_); rintro e w' ⟨rfl, rfl⟩)
    go_ret
    exact ⟨_, rfl, by rw [H.out]; exact Own.nil _ _ _, Below.refl _ _⟩

set_option maxHeartbeats 400000 in
theorem implDeint_c {C : Nat} {v : Value} {xs : List Int} (w : World) (n : Int) (h1 : Rd C w v xs) (hC : C ≤ w.heap.size) :
    Calls Tryd.prog 11 #[v, .int .i64 n] w fun e w' => ∃ v', e = .returned v' ∧ Own w.heap.size w'.heap.size w' v' (deinter xs n) ∧ Below w.heap.size w w' := by
  by_cases hok : tabOk xs n = true
  · skip
    have H := hid (deinter_yes hok)
    obtain ⟨⟨s1, hin⟩, hmod⟩ : (bitsOk xs = true ∧ inB n 1 32 = true) ∧ (xs.length : Int) % n = 0 := by simpa [tabOk] using hok
    obtain ⟨A, L, c, rfl, h1⟩ := h1
    have R1 : Rd C w (.slice A L c) xs := ⟨_, _, _, rfl, h1⟩
    have L1 := hid h1.len
    have hL : L ≤ 1024 := by have := bitsOk_len s1; have := h1.len; omega
    have n1 := (inB_iff.1 hin).1
    have n32 := (inB_iff.1 hin).2
    obtain ⟨r, rfl⟩ := Int.eq_ofNat_of_zero_le (by omega : 0 ≤ n)
    rw [h1.len] at hmod
    have hrc := tab_len hmod
    obtain ⟨K, hK⟩ : ∃ K, K = L / r := ⟨_, rfl⟩
    rw [← hK] at hrc
    have hdiv : (L : Int) / (r : Int) = (K : Int) := by rw [hK]; simp
    have hKL : K ≤ 1024 := by rw [hK]; exact Nat.le_trans (Nat.div_le_self _ _) hL
    have HK := hid hK
    have HRC := hid hrc
    have TOK := hid hok
    clear hK hrc hmod hok
    have hok := TOK.out
    go_enter Tryd.func11, Tryd.ntmps11
    go_wp2_with (first | (go_at_call 21; (with_reducible refine (implTab_c _ _ R1).mono ?_); rintro e w' ⟨rfl, rfl⟩) | (refine wpl_make intSl _ rfl (.tmp 12) (.tmp 12) rfl _ _ L rfl rfl rfl rfl (by omega) ?_; intro w1 hown hbel hlt1))
    clear hok
    go_loopw [16] (fun i wr => ∃ k : Nat, k ≤ L ∧ i = .int .i64 k ∧ Own w.heap.size w1.heap.size wr (.slice (some ⟨w.heap.size, 0, none⟩) L L) (rg L fun i => if i % K * r + i / K < k then xs.getD (i % K * r + i / K) 0 else 0) ∧ Below w.heap.size w wr ∧ Hid (wr.heap.size = w1.heap.size)) (fun i _ => L - (intOf i).toNat)
    case atStart => exact ⟨0, Nat.zero_le _, rfl, by simpa [rg_zero] using hown, hbel, rfl⟩
    case round =>
      obtain ⟨k, hk, rfl, ho, hb, hz⟩ := hrel
      clear hown hbel
      by_cases hlt : k < L
      · have hP : k % r * K + k / r < L := by rw [← HRC.out]; exact place_lt (by rw [HRC.out]; exact hlt)
        have hpl := fun W => placeInTable_c k r K W (by omega) (by omega) (by omega) hKL
        obtain ⟨b, off, x, rfl, hbC, hcell, hx⟩ := h1.at_ hlt
        have ho3 := ho.store (k % r * K + k / r) x
        rw [deint_step HRC.out.symm hlt hx.out] at ho3
        generalize k % r * K + k / r = P at hP hpl ho3
        have c1 := (hb.cell (p := ⟨b, off + k, none⟩) (by simp; omega)).trans hcell
        have c2 := ho.cell (k := P) (by rw [rg_length]; exact hP)
        have c3 := ho.free P
        have hb2 := hb.setCell (p := ⟨w.heap.size, P, none⟩) (Nat.le_refl _) (.int .i64 x)
        have Hpl := hid hpl
        have i1 : (P : Int) < (L : Int) := by omega
        clear hcell ho hb hpl
        have i2 : (k : Int) < (L : Int) := by omega
        go_wp2
        go_region_with (go_at_call 22; (with_reducible refine (Hpl.out _).mono ?_); rintro e w' ⟨rfl, q, rfl⟩)
        all_goals
          clear Hpl
          go_wp2
          go_roundw
          case rel => exact ⟨k + 1, by omega, by go_num, ho3.keep (fun _ _ => rfl), below_like hb2 rfl rfl rfl rfl, hid (by simpa using hz.out)⟩
          case measure => simp [intOf]; omega
      · obtain rfl : k = L := by omega
        go_wp2
        go_ret
        refine ⟨_, rfl, ?_, hb⟩
        rw [H.out, deinterN, L1.out, Int.toNat_natCast, ← HK.out]
        rw [deint_all HRC.out.symm] at ho
        exact ho.more (by rw [hz.out]; exact Nat.le_refl _)
  · have hok' : tabOk xs n = false := by simpa using hok
    have H := hid (deinter_no hok')
    clear hok
    go_enter Tryd.func11, Tryd.ntmps11
    go_wp2_with (go_at_call 21; (with_reducible refine (implTab_c _ _ h1).mono ?_); rintro e w' ⟨rfl, rfl⟩)
    go_ret
    exact ⟨_, rfl, by rw [H.out]; exact Own.nil _ _ _, Below.refl _ _⟩

theorem col_lt {r K q j : Nat} (hq : q < K) (hj : j < r) : j * K + q < r * K := by
  have h3 : (j + 1) * K ≤ r * K := Nat.mul_le_mul_right K hj
  rw [Nat.add_mul] at h3
  omega
theorem col_next {xs : List Int} {r K q j : Nat} (hj : j < r) :
    (rg (q * r + j) fun k => xs.getD (k % r * K + k / r) 0) ++ [xs.getD (j * K + q) 0] = rg (q * r + (j + 1)) fun k => xs.getD (k % r * K + k / r) 0 := by
  have h1 : (q * r + j) % r = j := by rw [Nat.add_comm, Nat.add_mul_mod_self_right, Nat.mod_eq_of_lt hj]
  have h2 : (q * r + j) / r = q := by rw [Nat.add_comm, Nat.add_mul_div_right _ _ (by omega), Nat.div_eq_of_lt hj, Nat.zero_add]
  have := rg_snoc (q * r + j) fun k => xs.getD (k % r * K + k / r) 0
  simp only [h1, h2] at this
  exact this

section
variable {C : Nat} {v : Value} {xs : List Int} {n : Int} (w : World)
theorem implInter_t (h1 : Rd C w v xs) (hC : C ≤ w.heap.size) (_ : -9223372036854775808 ≤ n ∧ n ≤ 9223372036854775807) :
    Calls Tryd.prog 9 #[v, .int .i64 n] w fun e w' => ∃ v', e = .returned v' ∧ Own w.heap.size w'.heap.size w' v' (inter xs n) ∧ Below w.heap.size w w' := implInter_c w n h1 hC
theorem implDeint_t (h1 : Rd C w v xs) (hC : C ≤ w.heap.size) (_ : -9223372036854775808 ≤ n ∧ n ≤ 9223372036854775807) :
    Calls Tryd.prog 11 #[v, .int .i64 n] w fun e w' => ∃ v', e = .returned v' ∧ Own w.heap.size w'.heap.size w' v' (deinter xs n) ∧ Below w.heap.size w w' := implDeint_c w n h1 hC
end

end Go.Proofs.YtokgonhfmidbeaaDoor
