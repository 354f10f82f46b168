/-
  Decoding a word, the reference's way: the whole.
-/
import Derived.Test.YtemokfjnbmncbaaDoorDecS
namespace Go.Proofs.YtemokfjnbmncbaaDoor
open Go.RowKit T

set_option maxHeartbeats 2000000 in
theorem specDec_c {C : Nat} {v : Value} {xs : List Int} (w : World) (h : Rd C w v xs) (hC : C ≤ w.heap.size) :
    Calls Tryd.prog 21 #[v] w (DecS xs w) := by
  have Q := l6Symbols_w w h
  cases s1 : wOk xs with
  | false =>
    have H := hid (decL_no s1)
    rw [s1] at Q
    have Q := hid Q
    have hE := Own.empty w
    have b1 := (Below.refl w.heap.size w).alloc (Nat.le_refl _) (.cells #[] 3)
    clear s1
    go_enter Tryd.func21, Tryd.ntmps21
    go_wp2_with fail
    refine Q.out.mono ?_
    rintro e w' ⟨rfl, rfl⟩
    go_wp2
    go_ret2
    exact ⟨_, by rw [H.out]; rfl, by rw [H.out]; exact hE.more (by simp), b1⟩
  | true =>
    rw [s1] at Q
    have Q := hid Q
    have HL := hid (wOk_iff.1 s1).2
    go_enter Tryd.func21, Tryd.ntmps21
    go_wp2_with fail
    refine Q.out.mono ?_
    rintro e w' ⟨rfl, rfl⟩
    go_wp2_with fail
    refine (specSyn_c w h hC).mono ?_
    rintro e w1 ⟨sv, rfl, os, b1⟩
    have t1 := b1.size
    have Z := l6Zero_c w1 os.rd
    have R1 := h.below b1 hC
    cases hz : zeroB (synL xs) with
    | true =>
      have HD := hid (dec_code ⟨s1, (zeroB_syn s1).1 hz⟩)
      rw [hz] at Z
      have Z := hid Z
      have hE := (Own.empty w1).more (show w1.heap.size + 1 ≤ (w1.alloc (.cells #[] 3)).heap.size by simp)
      have bE := (Below.refl w1.heap.size w1).alloc (Nat.le_refl _) (.cells #[] 3)
      have RE := R1.below bE (by omega)
      clear hz s1 R1 os
      go_wp2_with fail
      refine Z.out.mono ?_
      rintro e w' ⟨rfl, rfl⟩
      go_wp2_with (at_builtin; refine wpl_append intSl _ rfl (.tmp 11) (.tmp 12) rfl w1.heap.size _ C _ _ [] _ rfl rfl hE RE (by rw [HL.out]; decide) (by simp) ?_; intro v2 w2 ho g2 _; have b2 := bE.trans (below_of_own hE g2 (Nat.le_refl _) (by simp)); rw [List.nil_append] at ho; clear hE bE RE g2)
      go_ret2
      exact ⟨_, by rw [HD.out]; rfl, by rw [HD.out]; exact ho.fit (by omega) (Nat.le_refl _), b1.trans (b2.mono t1)⟩
    | false =>
      rw [hz] at Z
      have Z := hid Z
      have F := hid (l6Fix_c w1 R1 (by omega) s1)
      clear hz s1 R1 os
      go_wp2_with fail
      refine Z.out.mono ?_
      rintro e w' ⟨rfl, rfl⟩
      go_wp2_with fail
      refine F.out.mono ?_
      rintro e w2 ⟨v2, rfl, ho, b2⟩
      go_wp2_with fail
      go_ret2
      exact ⟨_, rfl, ho.fit t1 (Nat.le_refl _), b1.trans (b2.mono t1)⟩

end Go.Proofs.YtemokfjnbmncbaaDoor
