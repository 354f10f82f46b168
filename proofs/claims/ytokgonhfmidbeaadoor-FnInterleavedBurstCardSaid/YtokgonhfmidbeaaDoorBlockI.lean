/-
  The block code: impl.EncodeBlocks, and spec.EncodeBlocks for lists that are not valid.
-/
import Derived.Test.YtokgonhfmidbeaaDoorBlockA
import Derived.Test.YtokgonhfmidbeaaDoorBlockE
namespace Go.Proofs.YtokgonhfmidbeaaDoor
open Go.RowKit

theorem four_list {xs : List Int} {K : Nat} (h : K + 4 ≤ xs.length) : (xs.drop K).take 4 = [xs.getD K 0, xs.getD (K + 1) 0, xs.getD (K + 2) 0, xs.getD (K + 3) 0] := by
  refine list_ext_getD (by simp; omega) fun i hi => ?_
  have hi4 : i < 4 := by simp at hi; omega
  rcases (by omega : i = 0 ∨ i = 1 ∨ i = 2 ∨ i = 3) with rfl | rfl | rfl | rfl <;> simp [List.getD_eq_getElem?_getD, List.getElem?_take, List.getElem?_drop]
/-- why a list is not one of blocks -/
theorem blNo {xs : List Int} (h : blOk xs = false) : bitsOk xs = false ∨ (bitsOk xs = true ∧ ∃ m, Int.tmod (xs.length : Int) 4 = (m : Nat) ∧ 0 < m) ∨ (bitsOk xs = true ∧ Int.tmod (xs.length : Int) 4 = 0 ∧ 512 < xs.length) := by
  have e := tmod_nat xs.length 4
  cases hb : bitsOk xs with
  | false => exact .inl rfl
  | true =>
    by_cases h4 : xs.length % 4 = 0
    · refine .inr (.inr ⟨rfl, by rw [h4] at e; exact e, ?_⟩)
      by_cases h5 : xs.length ≤ 512
      · rw [blOk, hb, decide_eq_true h4, decide_eq_true h5] at h; cases h
      · omega
    · exact .inr (.inl ⟨rfl, _, e, by omega⟩)

set_option maxHeartbeats 2000000 in
theorem specEncB_no {C : Nat} {v : Value} {xs : List Int} (w : World) (h : Rd C w v xs) (hC : C ≤ w.heap.size) (hok : blOk xs = false) :
    Calls Tryd.prog 7 #[v] w fun e w' => ∃ v', e = .returned v' ∧ Own w.heap.size w'.heap.size w' v' (encB xs) ∧ Below w.heap.size w w' := by
  have hE := (Own.empty w).more (show w.heap.size + 1 ≤ (w.alloc (.cells #[] 3)).heap.size by simp)
  have bE := (Below.refl w.heap.size w).alloc (Nat.le_refl _) (.cells #[] 3)
  have SB := specBits_c (w.alloc (.cells #[] 3)) (h.below bE hC)
  have HR := hid (encB_no hok)
  obtain ⟨A, n, c, rfl, h1⟩ := h
  have hsm := h1.sm
  have hle := h1.le
  have hcap := h1.cap
  rcases blNo hok with hb | ⟨hb, m, hm, hm0⟩ | ⟨hb, hm, h5⟩
  · rw [hb] at SB
    have SB := hid SB
    clear hok h1 hb
    go_enter Tryd.func7, Tryd.ntmps7
    go_wp2_with fail
    refine SB.out.mono ?_
    rintro e w' ⟨rfl, rfl⟩
    go_wp2
    go_ret
    exact ⟨_, rfl, by rw [HR.out]; exact hE, bE⟩
  · rw [hb] at SB
    rw [h1.len] at hm
    have SB := hid SB
    have n1 : ((m : Int) != 0) = true := by simp; omega
    clear hok h1 hb
    go_enter Tryd.func7, Tryd.ntmps7
    go_wp2_with fail
    refine SB.out.mono ?_
    rintro e w' ⟨rfl, rfl⟩
    go_wp2
    go_ret
    exact ⟨_, rfl, by rw [HR.out]; exact hE, bE⟩
  · rw [hb] at SB
    rw [h1.len] at hm h5
    have SB := hid SB
    clear hok h1 hb
    go_enter Tryd.func7, Tryd.ntmps7
    go_wp2_with fail
    refine SB.out.mono ?_
    rintro e w' ⟨rfl, rfl⟩
    go_wp2
    go_ret
    exact ⟨_, rfl, by rw [HR.out]; exact hE, bE⟩

set_option maxHeartbeats 2000000 in
theorem implEncB_c {C : Nat} {v : Value} {xs : List Int} (w : World) (T1 : TdataPlaces w) (T2 : TcheckMasks w) (h : Rd C w v xs) (hC : C ≤ w.heap.size) :
    Calls Tryd.prog 5 #[v] w fun e w' => ∃ v', e = .returned v' ∧ Own w.heap.size w'.heap.size w' v' (encB xs) ∧ Below w.heap.size w w' := by
  have Q := implBits_c w h
  cases hok : blOk xs with
  | false =>
    have HR := hid (encB_no hok)
    obtain ⟨A, n, c, rfl, h1⟩ := h
    have hsm := h1.sm
    have hle := h1.le
    have hcap := h1.cap
    rcases blNo hok with hb | ⟨hb, m, hm, hm0⟩ | ⟨hb, hm, h5⟩
    · rw [hb] at Q
      have Q := hid Q
      clear hok h1 hb T1 T2
      go_enter Tryd.func5, Tryd.ntmps5
      go_wp2_with fail
      refine Q.out.mono ?_
      rintro e w' ⟨rfl, rfl⟩
      go_wp2
      go_ret
      exact ⟨_, rfl, by rw [HR.out]; exact Own.nil _ _ _, Below.refl _ _⟩
    · rw [hb] at Q
      rw [h1.len] at hm
      have Q := hid Q
      have n1 : ((m : Int) != 0) = true := by simp; omega
      clear hok h1 hb T1 T2
      go_enter Tryd.func5, Tryd.ntmps5
      go_wp2_with fail
      refine Q.out.mono ?_
      rintro e w' ⟨rfl, rfl⟩
      go_wp2
      go_ret
      exact ⟨_, rfl, by rw [HR.out]; exact Own.nil _ _ _, Below.refl _ _⟩
    · rw [hb] at Q
      rw [h1.len] at hm h5
      have Q := hid Q
      clear hok h1 hb T1 T2
      go_enter Tryd.func5, Tryd.ntmps5
      go_wp2_with fail
      refine Q.out.mono ?_
      rintro e w' ⟨rfl, rfl⟩
      go_wp2
      go_ret
      exact ⟨_, rfl, by rw [HR.out]; exact Own.nil _ _ _, Below.refl _ _⟩
  | true =>
    obtain ⟨hb, h4, h512⟩ := blOk_iff.1 hok
    rw [hb] at Q
    have Q := hid Q
    have HR := hid (encB_yes hok)
    obtain ⟨G, hG⟩ : ∃ G, xs.length / 4 = G := ⟨_, rfl⟩
    rw [hG] at HR
    obtain ⟨A, n, c, rfl, h1⟩ := h
    have hn : n = 4 * G := by rw [← h1.len]; omega
    subst hn
    have hle := h1.le
    have hcap := h1.cap
    have G128 : G ≤ 128 := by have := h1.len; omega
    have e4 : ((4 * G : Nat) : Int) = 4 * (G : Int) := by omega
    have t4 : Int.tmod (4 * (G : Int)) 4 = 0 := by have := tmod_nat (4 * G) 4; rw [show 4 * G % 4 = 0 by omega] at this; rw [← e4]; exact this
    have d4 : Int.tdiv (4 * (G : Int)) 4 = (G : Int) := by have := tdiv_nat (4 * G) 4; rw [show 4 * G / 4 = G by omega] at this; rw [← e4]; exact this
    have l1 := T1.lt
    have l2 := T2.lt
    clear hok hG h4
    go_enter Tryd.func5, Tryd.ntmps5
    go_wp2_with fail
    refine Q.out.mono ?_
    rintro e w' ⟨rfl, rfl⟩
    go_wp2_with (refine wpl_make0 intSl _ rfl (.const (.int .i64 0)) (.tmp 22) rfl _ (G * 7) rfl rfl (by omega) (by omega) ?_; intro w1 hE bE hlt1)
    go_loopw [3, 4] (fun o i wr => ∃ g : Nat, g ≤ G ∧ i = .int .i64 ((4 * g : Nat) : Int) ∧ Own w.heap.size wr.heap.size wr o (encTo xs g) ∧ Below w.heap.size w wr) (fun _ i _ => 4 * G - (intOf i).toNat)
    case atStart => exact ⟨0, by omega, rfl, hE, bE⟩
    case round =>
      obtain ⟨g, hg, rfl, ho, hbw⟩ := hrel
      clear hE bE
      have hsz := hbw.size
      by_cases hlt : g < G
      · obtain ⟨K, hK⟩ : ∃ K, 4 * g = K := ⟨_, rfl⟩
        rw [hK]
        have HK := hid hK
        have hbits := fun k => bitsOk_at hb k
        have hf := (h1.from (k := K) (by omega)).below hbw hC
        have hq : RdA C wr _ 4 (c - K) ((xs.drop K).take 4) := hf.till (k := 4) (by omega)
        rw [if_neg (show ¬ c = K by omega), four_list (by have := h1.len; omega)] at hq
        have hnext : Hid (encTo xs (g + 1) = encTo xs g ++ cw (xs.getD K 0) (xs.getD (K + 1) 0) (xs.getD (K + 2) 0) (xs.getD (K + 3) 0)) := by show _ = _; rw [encTo, cwAt, hK]
        have RQ := hid (show Rd C wr (.slice (A.map (·.add K)) 4 (c - K)) [xs.getD K 0, xs.getD (K + 1) 0, xs.getD (K + 2) 0, xs.getD (K + 3) 0] from ⟨_, _, _, rfl, hq⟩)
        have NB := hid (appendNibble_c wr ho (Nat.le_refl _) hsz RQ.out (by omega) (hbits K) (hbits (K + 1)) (hbits (K + 2)) (hbits (K + 3)) (by rw [encTo_length]; omega) (T1.below hbw l1) (T2.below hbw l2))
        have i1 : (K : Int) < 4 * (G : Int) := by omega
        have i2 : (K : Int) + 4 ≤ (c : Int) := by omega
        have i3 : (0 : Int) ≤ (K : Int) := by omega
        have i4 : K + 4 ≤ c := by omega
        have i5 : ¬ c = K := by omega
        clear hf hq hbits hb ho
        cases A with
        | none => exact absurd RQ.out (by rintro ⟨A', n', c', hv, q⟩; injection hv with h1' h2' h3'; subst h1' h2' h3'; obtain ⟨b, off, ha, _⟩ := q.cells (by omega); cases ha)
        | some AA =>
          simp only [Option.map_some] at NB RQ
          go_wp2_with fail
          refine NB.out.mono ?_
          rintro e w2 ⟨v2, rfl, O2, b2⟩
          rw [← hnext.out] at O2
          have hb2 := hbw.trans b2
          clear NB RQ hbw b2
          go_wp2
          go_roundw
          case rel => exact ⟨g + 1, by omega, by have := HK.out; go_num, O2, hb2⟩
          case measure => have := HK.out; simp [intOf]; omega
      · obtain rfl : g = G := by omega
        go_wp2
        go_ret
        exact ⟨_, rfl, by rw [HR.out]; exact ho, hbw⟩

end Go.Proofs.YtokgonhfmidbeaaDoor
