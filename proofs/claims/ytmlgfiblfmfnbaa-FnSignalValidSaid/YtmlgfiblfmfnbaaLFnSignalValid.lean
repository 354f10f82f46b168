/-
  The law FnSignalValid, walked: for every input the call returns true, and nothing that was there has changed.
-/
import Derived.Test.YtmlgfiblfmfnbaaSigLaw
namespace Go.Proofs.Ytmlgfiblfmfnbaa
open Go.RowKit

set_option maxHeartbeats 1000000 in
theorem FnSignalValid_walk (a0 : Option Addr) (len0 cap0 : Nat) (z0 : List Int) (w : World) (w0 : IsRow .u8 w a0 len0 cap0 z0) :
    Calls Try.prog 8 #[.slice a0 len0 cap0] w fun e w' => e = .returned (.bool true) ∧ Below w.heap.size w w' := by
  by_cases hl0 : len0 ≤ 1048576
  case neg =>
    have hl0' : 1048576 < len0 := by omega
    go_enter Try.func8, Try.ntmps8
    go_wp2
    go_ret
    exact ⟨rfl, Below.refl _ _⟩
  have B0 := w0.bytes
  clear w0
  go_enter Try.func8, Try.ntmps8
  go_wp2_with fail
  refine (DrawSignalValid_c _ B0 (Nat.le_refl _)).mono ?_
  rintro e w1 ⟨v1, m, xs, rfl, O, hm, bb⟩
  have t1 := bb.size
  go_wp2_with fail
  refine (implSig_c _ O.rd (Nat.le_refl _)).mono ?_
  rintro e w2 ⟨rfl, b2⟩
  have t2 := b2.size
  have O := O.below b2 (Nat.le_refl _)
  have bb := bb.trans (b2.mono (by omega))
  go_wp2_with fail
  refine (specSig_c _ O.rd).mono ?_
  rintro e w' ⟨rfl, rfl⟩
  obtain ⟨A, n, c, rfl, Q⟩ := O.rd
  obtain rfl : n = m := by have := Q.len; have := O.len; omega
  obtain ⟨h, hh⟩ : ∃ h, h = n / 2 := ⟨_, rfl⟩
  have d2 : (n : Int) / 2 = (h : Int) := by omega
  have d3 : (h : Int) ≤ (n : Int) := by omega
  have d4 : h ≤ n := by omega
  have hc := Q.le
  have d5 : h ≤ c := by omega
  have d6 : (h : Int) ≤ (c : Int) := by omega
  have QT := Q.till d4
  have hbad := hid (sigOk_bad xs)
  clear hh
  cases hs : sigOk xs with
  | true =>
    have RT := implSig_c w2 ⟨_, _, _, rfl, QT⟩ t2
    rw [sigOk_take hs] at RT
    have RT := hid RT
    clear hs QT Q
    go_wp2_with fail
    refine RT.out.mono ?_
    rintro e w3 ⟨rfl, b3⟩
    have O := O.below b3 t2
    have bb := bb.trans (b3.mono (by omega))
    have t3 := b3.size
    clear RT
    have b0 := (Below.refl w3.heap.size w3).alloc (Nat.le_refl _) (.cells #[] 43)
    have oe := OwnM.empty w3
    have O2 := O.below b0 (by omega)
    go_wp2_with (first | (at_builtin; refine wpl_appendMg smpSl _ rfl (.tmp 27) (.tmp 28) rfl _ _ _ _ _ _ _ _ rfl rfl oe n (by have := O.len; omega) O2.rd (by omega) (by simp) ?_; intro v3 wa OA ga _; have sa := ga.size; simp only [World.size_alloc] at sa) | (at_builtin; refine wpl_applMg smpSl _ rfl (.tmp 29) (.tmp 31) rfl _ _ _ _ _ _ [0, -100001] 1 rfl rfl rfl _ rfl rfl OA (Nat.le_refl _) (by omega) (by omega) ?_; intro v4 wb OB gb))
    rw [List.nil_append] at OB
    have hbb := (b0.grown ga (by simp) (fun q hq => (oe.lt q hq).1)).grown gb (by omega) (fun q hq => (OA.lt q hq).1)
    have RB := implSig_c wb OB.rd (Nat.le_refl _)
    rw [hbad.out] at RB
    have RB := hid RB
    have sb := hbb.size
    have bb := bb.trans (hbb.mono (by omega))
    clear hbb b0 oe O2 OA ga OB gb
    refine RB.out.mono ?_
    rintro e w8 ⟨rfl, b8⟩
    have t8 := b8.size
    have bb := bb.trans (b8.mono (by omega))
    clear RB
    go_wp2_with fail
    refine (alive_c _).mono ?_
    rintro e w9 ⟨rfl, b9⟩
    have bb := bb.trans (b9.mono (by omega))
    go_wp2_with fail
    go_ret
    exact ⟨rfl, bb⟩
  | false =>
    have b0 := (Below.refl w2.heap.size w2).alloc (Nat.le_refl _) (.cells #[] 43)
    have oe := OwnM.empty w2
    have O2 := O.below b0 (by omega)
    go_wp2_with (first | (at_builtin; refine wpl_appendMg smpSl _ rfl (.tmp 27) (.tmp 28) rfl _ _ _ _ _ _ _ _ rfl rfl oe n (by have := O.len; omega) O2.rd (by omega) (by simp) ?_; intro v3 wa OA ga _; have sa := ga.size; simp only [World.size_alloc] at sa) | (at_builtin; refine wpl_applMg smpSl _ rfl (.tmp 29) (.tmp 31) rfl _ _ _ _ _ _ [0, -100001] 1 rfl rfl rfl _ rfl rfl OA (Nat.le_refl _) (by omega) (by omega) ?_; intro v4 wb OB gb))
    rw [List.nil_append] at OB
    have hbb := (b0.grown ga (by simp) (fun q hq => (oe.lt q hq).1)).grown gb (by omega) (fun q hq => (OA.lt q hq).1)
    have RB := implSig_c wb OB.rd (Nat.le_refl _)
    rw [hbad.out] at RB
    have RB := hid RB
    have sb := hbb.size
    have bb := bb.trans (hbb.mono (by omega))
    clear hbb b0 oe O2 OA ga OB gb
    refine RB.out.mono ?_
    rintro e w8 ⟨rfl, b8⟩
    have t8 := b8.size
    have bb := bb.trans (b8.mono (by omega))
    clear RB
    go_wp2_with fail
    refine (alive_c _).mono ?_
    rintro e w9 ⟨rfl, b9⟩
    have bb := bb.trans (b9.mono (by omega))
    go_wp2_with fail
    go_ret
    exact ⟨rfl, bb⟩

end Go.Proofs.Ytmlgfiblfmfnbaa
