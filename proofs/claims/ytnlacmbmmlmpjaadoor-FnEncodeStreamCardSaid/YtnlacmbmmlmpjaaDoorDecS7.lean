/-
  Decoding a stream and counting its errors, the reference's way.
-/
import Derived.Test.YtnlacmbmmlmpjaaDoorSearch
import Derived.Test.YtnlacmbmmlmpjaaDoorStep
namespace Go.Proofs.YtnlacmbmmlmpjaaDoor
open Go.RowKit T

theorem way_rev (zs : List Int) : (way zs).reverse = zs ++ [0, 0] := by simp [way]
theorem take_way {zs : List Int} {n : Nat} (h : zs.length = n) : (way zs).reverse.take n = zs := by
  rw [way_rev, ← h, List.take_left]

theorem field7_0 (a b c : Value) (W : World) : (Instr.field 46 (.agg #[a, b, c]) 0).run Tryd.prog W = .ok a W := by kernel_rfl
theorem field7_1 (a b c : Value) (W : World) : (Instr.field 46 (.agg #[a, b, c]) 1).run Tryd.prog W = .ok b W := by kernel_rfl
set_option maxHeartbeats 1000000 in
theorem specErr_c {C : Nat} {v : Value} {xs : List Int} (w : World) (h : Rd C w v xs) (hC : C ≤ w.heap.size) :
    Calls Tryd.prog 17 #[v] w fun e w' => e = .returned (.int .i64 (errS xs)) ∧ Below w.heap.size w w' := by
  have Q := l7Ok_c w h
  cases s1 : lOk xs with
  | false =>
    rw [s1] at Q
    have Q := hid Q
    have H := hid (errS_no s1)
    clear s1
    have fl := field7_1
    go_enter Tryd.func17, Tryd.ntmps17
    go_wp2_with fail
    refine Q.out.mono ?_
    rintro e w' ⟨rfl, rfl⟩
    go_wp2_with fail
    go_ret
    exact ⟨ret_int H.out.symm, Below.refl _ _⟩
  | true =>
    rw [s1] at Q
    have Q := hid Q
    obtain ⟨hb, h2, h4, h84⟩ := lOk_iff.1 s1
    have hn : xs.length = 2 * (xs.length / 2 - 2 + 2) := by omega
    have H := hid (errS_yes s1 hn)
    have S := hid (l7Search_c w h hC s1 hn)
    clear s1 hb h2 h4 h84 hn
    have fl := field7_1
    go_enter Tryd.func17, Tryd.ntmps17
    go_wp2_with fail
    refine Q.out.mono ?_
    rintro e w' ⟨rfl, rfl⟩
    go_wp2_with fail
    refine S.out.mono ?_
    rintro e w1 ⟨u, rfl, o, b⟩
    go_wp2_with fail
    go_ret
    exact ⟨ret_int H.out.symm, b⟩

set_option maxHeartbeats 2000000 in
theorem specDecS_c {C : Nat} {v : Value} {xs : List Int} (w : World) (h : Rd C w v xs) (hC : C ≤ w.heap.size) :
    Calls Tryd.prog 19 #[v] w fun e w' => ∃ v', e = .returned v' ∧ Own w.heap.size w'.heap.size w' v' (decS xs) ∧ Below w.heap.size w w' := by
  have Q := l7Ok_c w h
  have hE := (Own.empty w).more (show w.heap.size + 1 ≤ (w.alloc (.cells #[] 3)).heap.size by simp)
  have bE := (Below.refl w.heap.size w).alloc (Nat.le_refl _) (.cells #[] 3)
  cases s1 : lOk xs with
  | false =>
    rw [s1] at Q
    have Q := hid Q
    have H := hid (decS_no s1)
    clear s1
    have fl := field7_0
    go_enter Tryd.func19, Tryd.ntmps19
    go_wp2_with fail
    refine Q.out.mono ?_
    rintro e w' ⟨rfl, rfl⟩
    go_wp2_with fail
    go_ret
    exact ⟨_, rfl, by rw [H.out]; exact hE, bE⟩
  | true =>
    rw [s1] at Q
    have Q := hid Q
    obtain ⟨hb, h2, h4, h84⟩ := lOk_iff.1 s1
    obtain ⟨n, hN⟩ : ∃ n, n = xs.length / 2 - 2 := ⟨_, rfl⟩
    have hn : xs.length = 2 * (n + 2) := by omega
    have H := hid (decS_yes s1 hn)
    have S := hid (l7Search_c _ (h.below bE hC) (by have := bE.size; omega) s1 hn)
    have HT := hid (take_way (bst_some (gx xs) n).2.1)
    have HW := hid (show (way (bst (gx xs) n)).reverse.length = n + 2 by rw [List.length_reverse, way_length, (bst_some (gx xs) n).2.1])
    have n40 : n ≤ 40 := by omega
    obtain ⟨A, m, c, rfl, h⟩ := h
    obtain rfl : m = 2 * (n + 2) := by rw [← h.len]; exact hn
    have d2 : ((2 * (n + 2) : Nat) : Int) / 2 = (n : Int) + 2 := by omega
    generalize 2 * (n + 2) = m at *
    clear s1 hb h2 h4 h84 hn h hN
    have fl := field7_0
    go_enter Tryd.func19, Tryd.ntmps19
    go_wp2_with fail
    refine Q.out.mono ?_
    rintro e w' ⟨rfl, rfl⟩
    go_wp2_with fail
    refine S.out.mono ?_
    rintro e w1 ⟨u, rfl, o, b⟩
    have t1 := b.size
    obtain ⟨A2, m2, c2, rfl, R2⟩ := o.rd
    obtain rfl : m2 = n + 2 := by rw [← R2.len]; exact HW.out
    have RT : Rd w1.heap.size w1 (.slice A2 n c2) ((way (bst (gx xs) n)).reverse.take n) := ⟨_, _, _, rfl, R2.till (by omega)⟩
    rw [HT.out] at RT
    have ic1 : (n : Int) ≤ (c2 : Int) := by have := R2.le; omega
    have ic2 : n ≤ c2 := by have := R2.le; omega
    have ic3 : c2 ≤ 9223372036854775807 := R2.cap
    have hE1 := hE.below b (Nat.le_refl _)
    have bb := bE.trans (b.mono bE.size)
    have sE := bE.size
    have HL := hid (bst_some (gx xs) n).2.1
    clear R2 o hE bE b S HW HT
    generalize bst (gx xs) n = zs at *
    go_wp2_with (at_builtin; refine wpl_append intSl _ rfl (.tmp 7) (.tmp 15) rfl w.heap.size _ _ _ _ [] zs rfl rfl hE1 RT (by rw [HL.out]; simp; omega) (by omega) ?_; intro v2 w2 ho g2 _; rw [List.nil_append] at ho; have b2 := below_of_own hE1 g2 (Nat.le_refl _) (by omega))
    go_ret
    exact ⟨_, rfl, by rw [H.out]; exact ho, bb.trans b2⟩

end Go.Proofs.YtnlacmbmmlmpjaaDoor
