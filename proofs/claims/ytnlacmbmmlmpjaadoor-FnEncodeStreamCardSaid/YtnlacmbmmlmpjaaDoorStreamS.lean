/-
  Encoding a stream, the reference's way.
-/
import Derived.Test.YtnlacmbmmlmpjaaDoorStream
namespace Go.Proofs.YtnlacmbmmlmpjaaDoor
open Go.RowKit T

theorem ret_two {a b c d : Int} (h : a = c) (k : b = d) : Ending.returned (.tuple #[.int .i64 a, .int .i64 b]) = .returned (.tuple #[.int .i64 c, .int .i64 d]) := by rw [h, k]
set_option maxHeartbeats 1000000 in
theorem l7Pair_c (st b : Int) (w : World) (hs : st = 0 ∨ st = 1 ∨ st = 2 ∨ st = 3) (hb : b = 0 ∨ b = 1) :
    Calls Tryd.prog 32 #[.int .i64 st, .int .i64 b] w fun e w' => e = .returned (.tuple #[.int .i64 (o1 b (st % 2) (st / 2)), .int .i64 (o2 b (st / 2))]) ∧ w = w' := by
  have x00 := xor00
  have x01 := xor01
  have x10 := xor10
  have x11 := xor11
  rcases hs with rfl | rfl | rfl | rfl <;> rcases hb with rfl | rfl
  all_goals
    go_enter Tryd.func32, Tryd.ntmps32
    go_wp2
    go_ret2
    exact ⟨rfl, rfl⟩
set_option maxHeartbeats 1000000 in
theorem l7Next_c (st b : Int) (w : World) (hs : st = 0 ∨ st = 1 ∨ st = 2 ∨ st = 3) (hb : b = 0 ∨ b = 1) :
    Calls Tryd.prog 33 #[.int .i64 st, .int .i64 b] w fun e w' => e = .returned (.int .i64 (st % 2 * 2 + b)) ∧ w = w' := by
  rcases hs with rfl | rfl | rfl | rfl <;> rcases hb with rfl | rfl
  all_goals
    go_enter Tryd.func33, Tryd.ntmps33
    go_wp2
    go_ret
    exact ⟨rfl, rfl⟩

set_option maxHeartbeats 4000000 in
theorem specEncS_c {C : Nat} {v : Value} {xs : List Int} (w : World) (h : Rd C w v xs) (hC : C ≤ w.heap.size) :
    Calls Tryd.prog 11 #[v] w fun e w' => ∃ v', e = .returned v' ∧ Own w.heap.size w'.heap.size w' v' (encS xs) ∧ Below w.heap.size w w' := by
  have hE := Own.empty w
  have b1 := (Below.refl w.heap.size w).alloc (Nat.le_refl _) (.cells #[] 3)
  have hE := hE.more (show w.heap.size + 1 ≤ (w.alloc (.cells #[] 3)).heap.size by simp)
  have Q := specBits_c (w.alloc (.cells #[] 3)) (h.below b1 hC)
  cases s1 : sOk xs with
  | false =>
    have H := hid (encS_no s1)
    by_cases hb : bitsOk xs = true
    · have hl : ¬ xs.length ≤ 40 := fun e => by rw [sOk, hb, decide_eq_true e] at s1; cases s1
      rw [hb] at Q
      have Q := hid Q
      obtain ⟨A, n, c, rfl, h⟩ := h
      have hn : ¬ n ≤ 40 := by rw [← h.len]; exact hl
      have hsm := h.sm
      have hn' : 40 < n := by omega
      clear s1 hl h hb hn
      go_enter Tryd.func11, Tryd.ntmps11
      go_wp2_with fail
      refine Q.out.mono ?_
      rintro e w' ⟨rfl, rfl⟩
      go_wp2
      go_ret
      exact ⟨_, rfl, by rw [H.out]; exact hE, b1⟩
    · have hb' : bitsOk xs = false := by simpa using hb
      rw [hb'] at Q
      have Q := hid Q
      clear s1 h hb hb'
      go_enter Tryd.func11, Tryd.ntmps11
      go_wp2_with fail
      refine Q.out.mono ?_
      rintro e w' ⟨rfl, rfl⟩
      go_wp2
      go_ret
      exact ⟨_, rfl, by rw [H.out]; exact hE, b1⟩
  | true =>
    have H := hid (encS_yes s1)
    obtain ⟨hb, hl⟩ : bitsOk xs = true ∧ xs.length ≤ 40 := by simpa [sOk] using s1
    rw [hb] at Q
    have Q := hid Q
    have HB := hid hb
    obtain ⟨A, n, c, rfl, h⟩ := h
    have HL := hid h.len
    rw [h.len] at hl
    clear s1 hb
    go_enter Tryd.func11, Tryd.ntmps11
    go_wp2_with fail
    refine Q.out.mono ?_
    rintro e w' ⟨rfl, rfl⟩
    go_wp2_with fail
    go_loopw [3, 4, 5, 6, 7, 8] (fun o s i _ _ _ wr => ∃ (k : Nat) (st : Int), k ≤ n + 2 ∧ i = .int .i64 k ∧ s = .int .i64 st ∧ Hid (st = sA (wy xs k) + 2 * sC (wy xs k)) ∧ Own w.heap.size wr.heap.size wr o (rg (2 * k) (cdf (wy xs k))) ∧ Below w.heap.size w wr) (fun _ _ i _ _ _ _ => n + 2 - (intOf i).toNat)
    case atStart => exact ⟨0, 0, by omega, rfl, rfl, rfl, hE, b1⟩
    case round =>
      rename_i wr
      obtain ⟨k, st, hk, rfl, rfl, hst, ho, hb⟩ := hrel
      have hsz := hb.size
      by_cases hlt : k < n + 2
      · have R' := h.below hb hC
        have wb := wy_bits HB.out (show k ≤ xs.length + 2 by rw [HL.out]; omega)
        have ha := wb.sA
        have hc := wb.sC
        have step : ∀ b, xk xs k = b → Hid (rg (2 * k) (cdf (wy xs k)) ++ [o1 b (sA (wy xs k)) (sC (wy xs k)), o2 b (sC (wy xs k))] = rg (2 * (k + 1)) (cdf (wy xs (k + 1))) ∧ sA (wy xs (k + 1)) = b ∧ sC (wy xs (k + 1)) = sA (wy xs k)) := fun b hb => code_step (by rw [HL.out]; exact hlt) hb
        have hlen : (rg (2 * k) (cdf (wy xs k))).length = 2 * k := rg_length _ _
        have HLN := hid hlen
        clear wb hlen
        generalize rg (2 * k) (cdf (wy xs k)) = ys at ho step HLN
        generalize sA (wy xs k) = a at hst ha step
        generalize sC (wy xs k) = c' at hst hc step
        have hs4 : st = 0 ∨ st = 1 ∨ st = 2 ∨ st = 3 := by have := hst.out; omega
        have ea : st % 2 = a := by have := hst.out; omega
        have ec : st / 2 = c' := by have := hst.out; omega
        have HH : ∀ b, b = 0 ∨ b = 1 → Hid (Calls Tryd.prog 32 #[.int .i64 st, .int .i64 b] wr fun e w' => e = .returned (.tuple #[.int .i64 (o1 b a c'), .int .i64 (o2 b c')]) ∧ wr = w') := fun b hb => by
          have := l7Pair_c st b wr hs4 hb
          rw [ea, ec] at this
          exact this
        have HN : ∀ b, b = 0 ∨ b = 1 → ∀ W, Hid (Calls Tryd.prog 33 #[.int .i64 st, .int .i64 b] W fun e w' => e = .returned (.int .i64 (a * 2 + b)) ∧ W = w') := fun b hb W => by
          have := l7Next_c st b W hs4 hb
          rw [ea] at this
          exact this
        have HST := hid ha
        clear hst ha hc hs4 ea ec
        by_cases hkn : k < n
        · obtain ⟨b, off, x, rfl, _, c1, hx⟩ := R'.at_ hkn
          have hxk : xk xs k = x := by unfold xk; rw [if_pos (by rw [HL.out]; exact hkn)]; exact hx.out
          have hxb := xk_bit HB.out k
          rw [hxk] at hxb
          have S := step x hxk
          have P := HH x hxb
          have N := HN x hxb
          clear step hxk hx R' HH HN
          have HXB := hid hxb
          clear hxb
          go_wp2_with fail
          refine P.out.mono ?_
          rintro e w' ⟨rfl, rfl⟩
          generalize o1 x a c' = p1 at S ⊢
          generalize o2 x c' = p2 at S ⊢
          go_wp2_with (at_builtin; refine wpl_appl intSl _ rfl (.tmp 40) (.tmp 43) rfl w.heap.size wr.heap.size _ _ _ [p1, p2] 2 rfl rfl rfl rfl ho (Nat.le_refl _) (by rw [HLN.out]; omega) hsz ?_; intro v' w6 ho6 g6; have hb6 := hb.trans (below_of_own ho g6 (Nat.le_refl _) hsz); rw [S.out.1] at ho6; clear g6)
          refine (N _).out.mono ?_
          rintro e w' ⟨rfl, rfl⟩
          go_wp2_with fail
          go_roundw
          case rel => exact ⟨k + 1, _, by omega, by go_num, rfl, by show _ = _; rw [S.out.2.1, S.out.2.2]; omega, ho6, hb6⟩
          case measure => simp [intOf]; omega
        · have hxk : xk xs k = 0 := by unfold xk; rw [if_neg (by rw [HL.out]; exact hkn)]
          have S := step 0 hxk
          have P := HH 0 (.inl rfl)
          have N := HN 0 (.inl rfl)
          clear step hxk R' HH HN
          have hkn' : n ≤ k := by omega
          go_wp2_with fail
          refine P.out.mono ?_
          rintro e w' ⟨rfl, rfl⟩
          generalize o1 0 a c' = p1 at S ⊢
          generalize o2 0 c' = p2 at S ⊢
          go_wp2_with (at_builtin; refine wpl_appl intSl _ rfl (.tmp 40) (.tmp 43) rfl w.heap.size wr.heap.size _ _ _ [p1, p2] 2 rfl rfl rfl rfl ho (Nat.le_refl _) (by rw [HLN.out]; omega) hsz ?_; intro v' w6 ho6 g6; have hb6 := hb.trans (below_of_own ho g6 (Nat.le_refl _) hsz); rw [S.out.1] at ho6; clear g6)
          refine (N _).out.mono ?_
          rintro e w' ⟨rfl, rfl⟩
          go_wp2_with fail
          go_roundw
          case rel => exact ⟨k + 1, _, by omega, by go_num, rfl, by show _ = _; rw [S.out.2.1, S.out.2.2]; omega, ho6, hb6⟩
          case measure => simp [intOf]; omega
      · obtain rfl : k = n + 2 := by omega
        go_wp2
        go_ret
        exact ⟨_, rfl, by rw [H.out, HL.out, ← wy_end, HL.out]; exact ho, hb⟩

end Go.Proofs.YtnlacmbmmlmpjaaDoor
