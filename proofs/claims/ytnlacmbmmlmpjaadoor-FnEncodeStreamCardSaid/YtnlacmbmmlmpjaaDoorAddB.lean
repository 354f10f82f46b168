/-
  Sums of bits: impl.AddBits, isBits, and that the code of a sum is the sum of the codes.
-/
import Derived.Test.YtnlacmbmmlmpjaaDoorStreamP
import Derived.Test.YtnlacmbmmlmpjaaDoorDecS7
namespace Go.Proofs.YtnlacmbmmlmpjaaDoor
open Go.RowKit T

/-- sums, place by place -/
def adF (p q : List Int) : List Int := List.zipWith (fun x y => (x + y) % 2) p q
theorem adF_length {p q : List Int} (h : p.length = q.length) : (adF p q).length = p.length := by simp [adF, h]
theorem adF_getD : ∀ (p q : List Int) (i : Nat), p.length = q.length → (adF p q).getD i 0 = (p.getD i 0 + q.getD i 0) % 2
  | [], [], i, _ => by simp [adF]
  | [], _ :: _, _, h => by simp at h
  | _ :: _, [], _, h => by simp at h
  | a :: p, b :: q, 0, _ => rfl
  | a :: p, b :: q, i + 1, h => adF_getD p q i (by simpa using h)
theorem adF_bits : ∀ (p q : List Int), T.Bits (adF p q)
  | [], _ => fun x hx => by simp [adF] at hx
  | _ :: _, [] => fun x hx => by simp [adF] at hx
  | a :: p, b :: q => fun x hx => by
    rcases List.mem_cons.1 hx with rfl | hx
    · exact (by omega : (a + b) % 2 = 0 ∨ (a + b) % 2 = 1)
    · exact adF_bits p q x hx
theorem adF_sA : ∀ (p q : List Int), p.length = q.length → sA (adF p q) = (sA p + sA q) % 2
  | [], [], _ => rfl
  | [], _ :: _, h => by simp at h
  | _ :: _, [], h => by simp at h
  | _ :: _, _ :: _, _ => rfl
theorem adF_sC (p q : List Int) (h : p.length = q.length) : sC (adF p q) = (sC p + sC q) % 2 := by
  unfold sC
  exact adF_getD p q 1 h
theorem adF_cdf : ∀ (p q : List Int), p.length = q.length → ∀ i, cdf (adF p q) i = (cdf p i + cdf q i) % 2
  | [], [], _, i => by simp [adF, cdf]
  | [], _ :: _, h, _ => by simp at h
  | _ :: _, [], h, _ => by simp at h
  | a :: p, b :: q, h, i => by
    have hl : p.length = q.length := by simpa using h
    have ih := adF_cdf p q hl i
    have h1 := adF_sA p q hl
    have h2 := adF_sC p q hl
    have h3 := adF_length hl
    show (if i = 2 * (adF p q).length then o1 ((a + b) % 2) (sA (adF p q)) (sC (adF p q)) else if i = 2 * (adF p q).length + 1 then o2 ((a + b) % 2) (sC (adF p q)) else cdf (adF p q) i) = ((if i = 2 * p.length then o1 a (sA p) (sC p) else if i = 2 * p.length + 1 then o2 a (sC p) else cdf p i) + (if i = 2 * q.length then o1 b (sA q) (sC q) else if i = 2 * q.length + 1 then o2 b (sC q) else cdf q i)) % 2
    rw [h3, h1, h2, ih, ← hl]
    unfold o1 o2
    split
    · omega
    · split
      · omega
      · rfl
theorem way_adF {p q : List Int} (h : p.length = q.length) : way (adF p q) = adF (way p) (way q) := by
  unfold way
  show _ = 0 :: 0 :: adF p.reverse q.reverse
  unfold adF
  rw [List.reverse_zipWith h]
theorem encS_adF {xs ys : List Int} (h : sOk xs = true) (k : sOk ys = true) (hl : xs.length = ys.length) : encS (adF xs ys) = adF (encS xs) (encS ys) := by
  have ho : sOk (adF xs ys) = true := sOk_mk (adF_bits xs ys) (by rw [adF_length hl]; exact (sOk_iff.1 h).2)
  have e1 : (encS xs).length = (encS ys).length := by rw [encS_length h, encS_length k, hl]
  refine list_ext_getD (by rw [encS_length ho, adF_length e1, encS_length h, adF_length hl]) fun i hi => ?_
  rw [encS_length ho, adF_length hl] at hi
  rw [encS_getD ho (by rw [adF_length hl]; exact hi), adF_getD _ _ _ e1, encS_getD h hi, encS_getD k (by rw [← hl]; exact hi), way_adF hl, adF_cdf _ _ (by rw [way_length, way_length, hl])]
theorem twin_mk {xs ys : List Int} (h : bitsOk xs = true) (k : bitsOk ys = true) (hl : xs.length = ys.length) : twinOk xs ys = true := by simp [twinOk, h, k, hl]
theorem sOk_rev {xs : List Int} (h : sOk xs = true) : sOk xs.reverse = true :=
  sOk_mk (fun x hx => sOk_bits h x (by simpa using hx)) (by rw [List.length_reverse]; exact (sOk_iff.1 h).2)
theorem rev_snoc {xs : List Int} {m K : Nat} (hK : K + m + 1 = xs.length) : xs.reverse.take m ++ [xs.getD K 0] = xs.reverse.take (m + 1) := by
  have hm : m < xs.reverse.length := by rw [List.length_reverse]; omega
  rw [List.take_add_one, List.getElem?_eq_getElem hm, List.getElem_reverse]
  have e : xs.length - 1 - m = K := by omega
  simp only [e]
  rw [List.getD_eq_getElem?_getD, List.getElem?_eq_getElem (by omega)]
  rfl
/-- the sum, as the loop lays it -/
def adL (xs ys : List Int) (n k : Nat) : List Int := rg n fun i => if i < k then (xs.getD i 0 + ys.getD i 0) % 2 else 0
theorem adL_zero (xs ys : List Int) (n : Nat) : List.replicate n (0 : Int) = adL xs ys n 0 := by
  rw [rg_zero]
  exact rg_congr fun i _ => (if_neg (by omega)).symm
theorem adL_all {xs ys : List Int} {n : Nat} (h : xs.length = n) (hl : xs.length = ys.length) : adL xs ys n n = adF xs ys := by
  refine list_ext_getD (by rw [adF_length hl, h, adL, rg_length]) fun i hi => ?_
  rw [adL, rg_length] at hi
  rw [adL, rg_getD hi, if_pos hi, adF_getD _ _ _ hl]

set_option maxHeartbeats 2000000 in
theorem implAdd_c {C D : Nat} {v1 v2 : Value} {xs ys : List Int} (w : World) (h1 : Rd C w v1 xs) (h2 : Rd D w v2 ys) (hC : C ≤ w.heap.size) (hD : D ≤ w.heap.size) (hok : twinOk xs ys = true) :
    Calls Tryd.prog 27 #[v1, v2] w fun e w' => ∃ v', e = .returned v' ∧ Own w.heap.size w'.heap.size w' v' (adF xs ys) ∧ Below w.heap.size w w' := by
  have SP := samePlaces_c w h1 h2
  rw [hok] at SP
  have SP := hid SP
  obtain ⟨⟨s1, s2⟩, hl⟩ : (bitsOk xs = true ∧ bitsOk ys = true) ∧ xs.length = ys.length := by simpa [twinOk] using hok
  have S1 := hid s1
  have S2 := hid s2
  have HL := hid hl
  have hm := bitsOk_len s1
  obtain ⟨A, n, c, rfl, h1⟩ := h1
  obtain ⟨B, m, d, rfl, h2⟩ := h2
  obtain rfl : n = m := by rw [← h1.len, ← h2.len]; exact hl
  rw [h1.len] at hm
  have HN := hid h1.len
  clear hok s1 s2 hl
  go_enter Tryd.func27, Tryd.ntmps27
  go_wp2_with fail
  refine SP.out.mono ?_
  rintro e w' ⟨rfl, rfl⟩
  clear SP
  go_wp2_with (refine wpl_make intSl _ rfl (.tmp 12) (.tmp 12) rfl _ _ n rfl rfl (by omega) (by omega) (by omega) ?_; intro wm om bm hltm)
  rw [adL_zero xs ys] at om
  go_loopw [6, 16] (fun _ i wr => ∃ k : Nat, k ≤ n ∧ i = .int .i64 k ∧ Own w.heap.size wm.heap.size wr (.slice (some ⟨w.heap.size, 0, none⟩) n n) (adL xs ys n k) ∧ Below w.heap.size w wr ∧ wm.heap.size ≤ wr.heap.size) (fun _ i _ => n - (intOf i).toNat)
  case atStart => exact ⟨0, Nat.zero_le _, rfl, om, bm, Nat.le_refl _⟩
  case round =>
    obtain ⟨k, hk, rfl, ho, hb, hs⟩ := hrel
    clear om
    by_cases hlt : k < n
    · have R1 := h1.below hb hC
      have R2 := h2.below hb hD
      obtain ⟨b, off, x, rfl, _, c1, hx⟩ := R1.at_ hlt
      obtain ⟨b', off', y, rfl, _, c2, hy⟩ := R2.at_ hlt
      have bx := bitsOk_at S1.out k
      have by' := bitsOk_at S2.out k
      rw [hx.out] at bx
      rw [hy.out] at by'
      have st : (adL xs ys n k).set k ((x + y) % 2) = adL xs ys n (k + 1) := copy_step (f := fun i => (xs.getD i 0 + ys.getD i 0) % 2) (by show (xs.getD k 0 + ys.getD k 0) % 2 = _; rw [hx.out, hy.out])
      have cw := ho.cell (k := k) (by rw [adL, rg_length]; exact hlt)
      have cf := ho.free k
      have ho2 := ho.store k ((x + y) % 2)
      rw [st] at ho2
      have g2 := grown_set (World.grownBy.refl wr (some w.heap.size)) (i := k) (.int .i64 ((x + y) % 2))
      have hb2 := hb.trans (below_of_grown g2 (Nat.le_refl _) (by omega))
      generalize (adL xs ys n k).getD k 0 = old at cw
      have i1 : (k : Int) < (n : Int) := by omega
      have x00 := xor00
      have x01 := xor01
      have x10 := xor10
      have x11 := xor11
      clear st ho hb R1 R2 h1 h2 hx hy g2
      rcases bx with rfl | rfl <;> rcases by' with rfl | rfl
      all_goals
        go_wp2_with fail
        go_region
        all_goals
          clear x00 x01 x10 x11
          go_wp2
          go_roundw
          case rel => exact ⟨k + 1, by omega, by go_num, ho2.keep (fun _ _ => rfl), ⟨hb2.os, hb2.tape, hb2.output, hb2.size, hb2.block⟩, by simp; omega⟩
          case measure => simp [intOf]; omega
    · obtain rfl : k = n := by omega
      rw [adL_all HN.out HL.out] at ho
      go_wp2
      go_ret
      exact ⟨_, rfl, ho.more hs, hb⟩

theorem not_bit {xs : List Int} {k : Nat} {x : Int} (h : xs.getD k 0 = x) (h0 : x ≠ 0) (h1 : x ≠ 1) : bitsOk xs = false := by
  cases hb : bitsOk xs with
  | false => rfl
  | true => have := bitsOk_at hb k; omega
theorem all_bits {xs : List Int} {n : Nat} (hn : xs.length = n) (h : ∀ j, j < n → xs.getD j 0 = 0 ∨ xs.getD j 0 = 1) : bitsOk xs = decide ((n : Int) ≤ 1024) := by
  have hm : ∀ x ∈ xs, 0 ≤ x ∧ x ≤ 1 := fun x hx => by
    obtain ⟨i, hi, rfl⟩ := List.mem_iff_getElem.1 hx
    have := h i (by omega)
    rw [List.getD_eq_getElem?_getD, List.getElem?_eq_getElem hi] at this
    simp at this
    omega
  by_cases hl : n ≤ 1024
  · rw [decide_eq_true (by omega)]
    exact bitsOk_iff.2 ⟨hm, by omega⟩
  · rw [decide_eq_false (by omega)]
    cases hb : bitsOk xs with
    | false => rfl
    | true => exact absurd (bitsOk_len hb) (by omega)
set_option maxHeartbeats 1000000 in
theorem isBits_c {C : Nat} {v : Value} {xs : List Int} (w : World) (h : Rd C w v xs) :
    Calls Tryd.prog 26 #[v] w fun e w' => e = .returned (.bool (bitsOk xs)) ∧ w = w' := by
  have hm := h.sm
  obtain ⟨A, n, c, rfl, h1⟩ := h
  have l1 := hid h1.len
  rw [h1.len] at hm
  go_enter Tryd.func26, Tryd.ntmps26
  go_wp2_with fail
  go_loopw [3] (fun i wr => ∃ k : Nat, k ≤ n ∧ i = .int .i64 k ∧ Hid (∀ j, j < k → xs.getD j 0 = 0 ∨ xs.getD j 0 = 1) ∧ w = wr) (fun i _ => n - (intOf i).toNat)
  case atStart => exact ⟨0, Nat.zero_le _, rfl, fun j hj => absurd hj (by omega), rfl⟩
  case round =>
    obtain ⟨k, hk, rfl, hb, rfl⟩ := hrel
    by_cases hlt : k < n
    · obtain ⟨b, off, x, rfl, _, c1, hx⟩ := h1.at_ hlt
      have i1 : (k : Int) < (n : Int) := by omega
      by_cases hx01 : x = 0 ∨ x = 1
      · have hb2 : Hid (∀ j, j < k + 1 → xs.getD j 0 = 0 ∨ xs.getD j 0 = 1) := fun j hj => by
          by_cases e : j = k
          · rw [e, hx.out]; exact hx01
          · exact hb.out j (by omega)
        clear hb h1 hx
        rcases hx01 with rfl | rfl
        all_goals
          go_wp2
          go_roundw
          case rel => exact ⟨k + 1, by omega, by go_num, hb2, trivial⟩
          case measure => simp [intOf]; omega
      · have HB := hid (not_bit hx.out (fun e => hx01 (.inl e)) (fun e => hx01 (.inr e)))
        have n0 : (x != 0) = true := by simpa using fun e => hx01 (.inl e)
        have n1 : (x != 1) = true := by simpa using fun e => hx01 (.inr e)
        clear hb h1 hx hx01
        go_wp2
        go_ret
        exact ⟨ret_bool HB.out.symm, rfl⟩
    · obtain rfl : k = n := by omega
      have HB := hid (all_bits l1.out hb.out)
      go_wp2
      go_ret
      exact ⟨ret_bool HB.out.symm, rfl⟩

end Go.Proofs.YtnlacmbmmlmpjaaDoor
