/-
  AddPrefix, of the program and of the reference: the last n numbers ahead of the list.
-/
import Derived.Test.YtmjghkpijphfbaaRoot
import Derived.Test.YtmjghkpijphfbaaStep
namespace Go.Proofs.Ytmjghkpijphfbaa
open Go.RowKit

def pfxOk (xs : List Int) (n : Int) : Bool := ptsOk xs && inB n 0 16
def pfxN (xs : List Int) (k : Nat) : List Int := xs.drop k ++ xs
def pfx (xs : List Int) (n : Int) : List Int := if pfxOk xs n = true then pfxN xs (16 - n.toNat) else []
theorem pfx_yes {xs : List Int} {n : Int} (h : pfxOk xs n = true) : pfx xs n = pfxN xs (16 - n.toNat) := by simp [pfx, h]
theorem pfx_no {xs : List Int} {n : Int} (h : pfxOk xs n = false) : pfx xs n = [] := by simp [pfx, h]

set_option maxHeartbeats 1000000 in
theorem implPfx_c {C : Nat} {v : Value} {xs : List Int} (w : World) (n : Int) (h1 : Rd C w v xs) (hC : C ≤ w.heap.size) :
    Calls Try.prog 16 #[v, .int .i64 n] w fun e w' => ∃ v', e = .returned v' ∧ Own w.heap.size w'.heap.size w' v' (pfx xs n) ∧ Below w.heap.size w w' := by
  have HC := implPts_c w h1
  have hgood := fun h : ptsOk xs = true => ptsOk_len h
  obtain ⟨A, m, c, rfl, h1⟩ := h1
  by_cases hp : ptsOk xs = true
  case neg =>
    have hp' : ptsOk xs = false := by simpa using hp
    have H := hid (pfx_no (n := n) (show pfxOk xs n = false by simp [pfxOk, hp']))
    rw [hp'] at HC
    have HC' := hid HC
    clear HC hp hp' h1 hgood
    go_enter Try.func16, Try.ntmps16
    go_wp2_with (go_at_call 34; (with_reducible refine HC'.out.mono ?_); rintro e w' ⟨rfl, rfl⟩)
    go_ret
    exact ⟨_, rfl, by rw [H.out]; exact Own.nil _ _ _, Below.refl _ _⟩
  have hm : m = 16 := by rw [← h1.len]; exact hgood hp
  subst hm
  rw [hp] at HC
  have HC' := hid HC
  clear HC hgood
  by_cases h0 : 0 ≤ n
  case neg =>
    have H := hid (pfx_no (n := n) (show pfxOk xs n = false by rw [pfxOk, inB_lo h0, Bool.and_false]))
    have h0' : n < 0 := by omega
    clear hp h1
    go_enter Try.func16, Try.ntmps16
    go_wp2_with (go_at_call 34; (with_reducible refine HC'.out.mono ?_); rintro e w' ⟨rfl, rfl⟩)
    go_ret
    exact ⟨_, rfl, by rw [H.out]; exact Own.nil _ _ _, Below.refl _ _⟩
  by_cases h16 : n ≤ 16
  case neg =>
    have H := hid (pfx_no (n := n) (show pfxOk xs n = false by rw [pfxOk, inB_hi h16, Bool.and_false]))
    have h0' : 16 < n := by omega
    clear hp h1
    go_enter Try.func16, Try.ntmps16
    go_wp2_with (go_at_call 34; (with_reducible refine HC'.out.mono ?_); rintro e w' ⟨rfl, rfl⟩)
    go_ret
    exact ⟨_, rfl, by rw [H.out]; exact Own.nil _ _ _, Below.refl _ _⟩
  have H := hid (pfx_yes (xs := xs) (n := n) (by rw [pfxOk, hp, inB_yes h0 h16]; rfl))
  clear hp
  obtain ⟨n, rfl⟩ := Int.eq_ofNat_of_zero_le h0
  rw [Int.toNat_natCast] at H
  obtain ⟨k, hk⟩ : ∃ k, k = 16 - n := ⟨_, rfl⟩
  rw [← hk] at H
  have hnk : (n : Int) + k = 16 := by omega
  have hk16 : k ≤ 16 := by omega
  have hcut := h1.from hk16
  have R1 : Rd C w (.slice A 16 c) xs := ⟨_, _, _, rfl, h1⟩
  have hcap := h1.le
  have hcap2 := h1.cap
  have LX := hid h1.len
  have LD := hid (show (xs.drop k).length = 16 - k by rw [List.length_drop, h1.len])
  obtain ⟨MC, hMC⟩ : ∃ MC, MC = madeCells #[Value.int .i64 0] (16 + n) := ⟨_, rfl⟩
  have hmk : ∀ W : World, (Instr.makeSlice 26 (.int .i64 0) (.int .i64 (16 + (n : Int)))).run Try.prog W = .ok (.slice (some ⟨W.heap.size, 0, none⟩) 0 (16 + n)) (W.alloc (.cells MC 3)) := by
    intro W
    rw [hMC]
    exact run_mk intSl 0 (16 + (n : Int)) 0 (16 + n) rfl (by omega) (by omega) (by omega) W
  have HS := hid (show MC.size = 16 + n by rw [hMC]; exact size_madeCells _ _)
  clear hMC hk
  by_cases hck : c = k
  case pos =>
    obtain rfl : k = 16 := by omega
    subst hck
    obtain rfl : n = 0 := by omega
    rw [if_pos rfl] at hcut
    have R2 : Rd C w (.slice A 0 0) (xs.drop 16) := ⟨_, _, _, rfl, hcut⟩
    clear hcut h1
    have u1 : IntKind.i64.wrap 16 = 16 := by decide
    simp only [Int.natCast_zero, Int.add_zero, Nat.add_zero] at hmk HS
    have OM : Own w.heap.size (w.heap.size + 1) (w.alloc (.cells MC 3)).drew (.slice (some ⟨w.heap.size, 0, none⟩) 0 (16)) [] := (Own.made0 w MC (16) HS.out (by omega)).drewN 1
    have bM : Below w.heap.size w (w.alloc (.cells MC 3)).drew := below_drewN ((Below.refl _ _).alloc (Nat.le_refl _) (.cells MC 3)) 1
    have sM := hid (show (w.alloc (.cells MC 3)).drew.heap.size = w.heap.size + 1 by show (w.alloc (.cells MC 3)).heap.size = _; simp)
    have R1' := R1.below bM (by omega)
    have R2' := R2.below bM (by omega)
    go_enter Try.func16, Try.ntmps16
    go_wp2_with (go_at_call 34; (with_reducible refine HC'.out.mono ?_); rintro e w' ⟨rfl, rfl⟩)
    go_region_law (first | (refine step_app intSl rfl (.tmp 18) (.tmp 22) rfl w.heap.size _ _ _ (.slice (A) (0) (0)) [] (xs.drop (16)) rfl rfl OM R2' (by rw [List.length_nil, LD.out]; omega) (by rw [sM.out]; omega) ?_; intro v1 wa OA ga; have R1a := R1'.grown ga (by rw [sM.out]; omega) (fun k hk => by have := OM.lt k hk; omega)) | (refine step_app intSl rfl (.tmp 23) (.tmp 24) rfl w.heap.size _ _ _ _ _ _ rfl rfl OA R1a (by rw [List.nil_append, LD.out, LX.out]; omega) (by have := ga.size; rw [sM.out] at this; omega) ?_; intro v2 wb OB gb))
    all_goals
      go_wp2
      go_ret
      refine ⟨_, rfl, ?_, ?_⟩
      · rw [H.out]; exact OB
      · have sa := ga.size
        rw [sM.out] at sa
        exact (bM.grown ga (by rw [sM.out]; omega) (fun q hq => (OM.lt q hq).1)).grown gb (by omega) (fun q hq => (OA.lt q hq).1)
  case neg =>
    rw [if_neg hck] at hcut
    have R2 : Rd C w (.slice (A.map (·.add k)) (16 - k) (c - k)) (xs.drop k) := ⟨_, _, _, rfl, hcut⟩
    clear hcut h1
    have u1 : IntKind.i64.wrap (16 + (n : Int)) = 16 + (n : Int) := IntWalk.i64_in _ (by omega)
    have u2 : IntKind.i64.wrap (16 - (n : Int)) = (k : Int) := by rw [show 16 - (n : Int) = k by omega]; exact IntWalk.i64_in _ (by omega)
    have i1 : (k : Int) ≤ 16 := by omega
    have OM : Own w.heap.size (w.heap.size + 1) (w.alloc (.cells MC 3)).drew (.slice (some ⟨w.heap.size, 0, none⟩) 0 (16 + n)) [] := (Own.made0 w MC (16 + n) HS.out (by omega)).drewN 1
    have bM : Below w.heap.size w (w.alloc (.cells MC 3)).drew := below_drewN ((Below.refl _ _).alloc (Nat.le_refl _) (.cells MC 3)) 1
    have sM := hid (show (w.alloc (.cells MC 3)).drew.heap.size = w.heap.size + 1 by show (w.alloc (.cells MC 3)).heap.size = _; simp)
    have R1' := R1.below bM (by omega)
    have R2' := R2.below bM (by omega)
    go_enter Try.func16, Try.ntmps16
    go_wp2_with (go_at_call 34; (with_reducible refine HC'.out.mono ?_); rintro e w' ⟨rfl, rfl⟩)
    go_region_law (first | (refine step_app intSl rfl (.tmp 18) (.tmp 22) rfl w.heap.size _ _ _ (.slice (A.map (·.add k)) (16 - k) (c - k)) [] (xs.drop (k)) rfl rfl OM R2' (by rw [List.length_nil, LD.out]; omega) (by rw [sM.out]; omega) ?_; intro v1 wa OA ga; have R1a := R1'.grown ga (by rw [sM.out]; omega) (fun k hk => by have := OM.lt k hk; omega)) | (refine step_app intSl rfl (.tmp 23) (.tmp 24) rfl w.heap.size _ _ _ _ _ _ rfl rfl OA R1a (by rw [List.nil_append, LD.out, LX.out]; omega) (by have := ga.size; rw [sM.out] at this; omega) ?_; intro v2 wb OB gb))
    all_goals
      go_wp2
      go_ret
      refine ⟨_, rfl, ?_, ?_⟩
      · rw [H.out]; exact OB
      · have sa := ga.size
        rw [sM.out] at sa
        exact (bM.grown ga (by rw [sM.out]; omega) (fun q hq => (OM.lt q hq).1)).grown gb (by omega) (fun q hq => (OA.lt q hq).1)

set_option maxHeartbeats 1000000 in
theorem specPfx_c {C : Nat} {v : Value} {xs : List Int} (w : World) (n : Int) (h1 : Rd C w v xs) (hC : C ≤ w.heap.size) :
    Calls Try.prog 14 #[v, .int .i64 n] w fun e w' => ∃ v', e = .returned v' ∧ Own w.heap.size w'.heap.size w' v' (pfx xs n) ∧ Below w.heap.size w w' := by
  have HC := specPts_c w h1
  have hgood := fun h : ptsOk xs = true => ptsOk_len h
  obtain ⟨A, m, c, rfl, h1⟩ := h1
  by_cases hp : ptsOk xs = true
  case neg =>
    have hp' : ptsOk xs = false := by simpa using hp
    have H := hid (pfx_no (n := n) (show pfxOk xs n = false by simp [pfxOk, hp']))
    rw [hp'] at HC
    have HC' := hid HC
    have HI := hid trivial
    clear HC hp hp' h1 hgood
    go_enter Try.func14, Try.ntmps14
    go_wp2_with (go_at_call 32; (with_reducible refine HC'.out.mono ?_); rintro e w' ⟨rfl, rfl⟩)
    go_ret
    exact ⟨_, rfl, by rw [H.out]; exact (Own.empty w).more (by simp), (Below.refl _ _).alloc (Nat.le_refl _) _⟩
  have hm : m = 16 := by rw [← h1.len]; exact hgood hp
  subst hm
  rw [hp] at HC
  have HC' := hid HC
  clear HC hgood
  by_cases h0 : 0 ≤ n
  case neg =>
    have H := hid (pfx_no (n := n) (show pfxOk xs n = false by rw [pfxOk, inB_lo h0, Bool.and_false]))
    have HI := l1In_c n 0 16 w
    rw [inB_lo h0] at HI
    have HI := hid HI
    clear hp h1 h0
    go_enter Try.func14, Try.ntmps14
    go_wp2_with (first | (go_at_call 32; (with_reducible refine HC'.out.mono ?_); rintro e w' ⟨rfl, rfl⟩) | (go_at_call 33; (with_reducible refine HI.out.mono ?_); rintro e w' ⟨rfl, rfl⟩))
    go_ret
    exact ⟨_, rfl, by rw [H.out]; exact (Own.empty w).more (by simp), (Below.refl _ _).alloc (Nat.le_refl _) _⟩
  by_cases h16 : n ≤ 16
  case neg =>
    have H := hid (pfx_no (n := n) (show pfxOk xs n = false by rw [pfxOk, inB_hi h16, Bool.and_false]))
    have HI := l1In_c n 0 16 w
    rw [inB_hi h16] at HI
    have HI := hid HI
    clear hp h1 h16
    go_enter Try.func14, Try.ntmps14
    go_wp2_with (first | (go_at_call 32; (with_reducible refine HC'.out.mono ?_); rintro e w' ⟨rfl, rfl⟩) | (go_at_call 33; (with_reducible refine HI.out.mono ?_); rintro e w' ⟨rfl, rfl⟩))
    go_ret
    exact ⟨_, rfl, by rw [H.out]; exact (Own.empty w).more (by simp), (Below.refl _ _).alloc (Nat.le_refl _) _⟩
  have H := hid (pfx_yes (xs := xs) (n := n) (by rw [pfxOk, hp, inB_yes h0 h16]; rfl))
  have HI := l1In_c n 0 16 w
  rw [inB_yes h0 h16] at HI
  have HI := hid HI
  clear hp
  obtain ⟨n, rfl⟩ := Int.eq_ofNat_of_zero_le h0
  rw [Int.toNat_natCast] at H
  obtain ⟨k, hk⟩ : ∃ k, k = 16 - n := ⟨_, rfl⟩
  rw [← hk] at H
  have hnk : 16 - (n : Int) = k := by omega
  have hk16 : k ≤ 16 := by omega
  have hcut := h1.from hk16
  have R1 : Rd C w (.slice A 16 c) xs := ⟨_, _, _, rfl, h1⟩
  have hcap := h1.le
  have hcap2 := h1.cap
  have LX := hid h1.len
  have LD := hid (show (xs.drop k).length = 16 - k by rw [List.length_drop, h1.len])
  clear hk
  obtain ⟨A2, n2, c2, hsl, R2⟩ : ∃ A2 n2 c2, (Value.slice A2 n2 c2 = .slice (if c = k then A else A.map (·.add k)) (16 - k) (c - k)) ∧ Rd C w (.slice A2 n2 c2) (xs.drop k) := ⟨_, _, _, rfl, _, _, _, rfl, hcut⟩
  have o0 := Own.empty w
  have b0 := (Below.refl w.heap.size w).alloc (Nat.le_refl _) (.cells #[] 3)
  have R1 := R1.below b0 hC
  have R2 := R2.below b0 hC
  clear h1 hcut h0 h16
  by_cases hck : c = k
  case pos =>
    obtain rfl : k = 16 := by omega
    subst hck
    obtain rfl : n = 0 := by omega
    rw [if_pos rfl] at hsl
    injection hsl with e1 e2 e3
    subst e1 e2 e3
    have HI := hid (show Calls Try.prog 33 #[.int .i64 0, .int .i64 0, .int .i64 16] w fun e w' => e = .returned (.bool true) ∧ w = w' from HI.out)
    clear hnk
    go_enter Try.func14, Try.ntmps14
    go_wp2_with (first | (go_at_call 32; (with_reducible refine HC'.out.mono ?_); rintro e w' ⟨rfl, rfl⟩) | (go_at_call 33; (with_reducible refine HI.out.mono ?_); rintro e w' ⟨rfl, rfl⟩) | (at_builtin; refine wpl_append intSl _ rfl (.tmp 14) (.tmp 18) rfl _ _ _ _ _ _ _ rfl rfl o0 R2 (by rw [List.length_nil, LD.out]; omega) (by simp) ?_; intro v1 wa OA ga ha; have R1a := R1.grown ga (by simp; omega) (fun k hk => by have := o0.lt k hk; omega)) | (at_builtin; refine wpl_append intSl _ rfl (.tmp 19) (.tmp 20) rfl _ _ _ _ _ _ _ rfl rfl OA R1a (by rw [List.nil_append, LD.out, LX.out]; omega) (by have := ga.size; simp at this; omega) ?_; intro v2 wb OB gb hb))
    go_ret
    exact ⟨_, rfl, by rw [H.out]; exact OB, (b0.grown ga (by simp) (fun q hq => (o0.lt q hq).1)).grown gb (by have := ga.size; simp at this; omega) (fun q hq => (OA.lt q hq).1)⟩
  case neg =>
    rw [if_neg hck] at hsl
    injection hsl with e1 e2 e3
    subst e1 e2 e3
    have HNK := hid hnk
    clear hnk
    have hn16 : (n : Int) ≤ 16 := by have := HNK.out; omega
    have i1 : 16 - (n : Int) ≤ 16 := by omega
    have i2 : (16 - (n : Int)).toNat = k := by rw [HNK.out]; omega
    go_enter Try.func14, Try.ntmps14
    go_wp2_with (first | (go_at_call 32; (with_reducible refine HC'.out.mono ?_); rintro e w' ⟨rfl, rfl⟩) | (go_at_call 33; (with_reducible refine HI.out.mono ?_); rintro e w' ⟨rfl, rfl⟩) | (at_builtin; refine wpl_append intSl _ rfl (.tmp 14) (.tmp 18) rfl _ _ _ _ _ _ _ rfl rfl o0 R2 (by rw [List.length_nil, LD.out]; omega) (by simp) ?_; intro v1 wa OA ga ha; have R1a := R1.grown ga (by simp; omega) (fun k hk => by have := o0.lt k hk; omega)) | (at_builtin; refine wpl_append intSl _ rfl (.tmp 19) (.tmp 20) rfl _ _ _ _ _ _ _ rfl rfl OA R1a (by rw [List.nil_append, LD.out, LX.out]; omega) (by have := ga.size; simp at this; omega) ?_; intro v2 wb OB gb hb))
    go_ret
    exact ⟨_, rfl, by rw [H.out]; exact OB, (b0.grown ga (by simp) (fun q hq => (o0.lt q hq).1)).grown gb (by have := ga.size; simp at this; omega) (fun q hq => (OA.lt q hq).1)⟩

theorem specPfx_t {C : Nat} {v : Value} {xs : List Int} {n : Int} (w : World) (h1 : Rd C w v xs) (hC : C ≤ w.heap.size) (_ : -9223372036854775808 ≤ n ∧ n ≤ 9223372036854775807) :
    Calls Try.prog 14 #[v, .int .i64 n] w fun e w' => ∃ v', e = .returned v' ∧ Own w.heap.size w'.heap.size w' v' (pfx xs n) ∧ Below w.heap.size w w' := specPfx_c w n h1 hC
theorem implPfx_t {C : Nat} {v : Value} {xs : List Int} {n : Int} (w : World) (h1 : Rd C w v xs) (hC : C ≤ w.heap.size) (_ : -9223372036854775808 ≤ n ∧ n ≤ 9223372036854775807) :
    Calls Try.prog 16 #[v, .int .i64 n] w fun e w' => ∃ v', e = .returned v' ∧ Own w.heap.size w'.heap.size w' v' (pfx xs n) ∧ Below w.heap.size w w' := implPfx_c w n h1 hC

end Go.Proofs.Ytmjghkpijphfbaa
