/-
  The law FnWordSyndromes, walked: for every input the call returns true, and nothing that was there has changed.
-/
import Derived.Test.YtemokfjnbmncbaaDoorDrawWord
namespace Go.Proofs.YtemokfjnbmncbaaDoor
open Go.RowKit T

theorem take_ok {xs : List Int} (h : wOk xs = true) : dOk (xs.take 11) = true := by
  obtain ⟨he, hl⟩ := wOk_iff.1 h
  refine dOk_iff.2 ⟨?_, by rw [List.length_take, hl]; rfl⟩
  unfold elems at he ⊢
  rw [List.all_eq_true] at he ⊢
  exact fun x hx => he x (List.mem_of_mem_take hx)
theorem take_fn {xs : List Int} {k : Nat} (h : k < 11) : fnOf (xs.take 11) k = fnOf xs k := by unfold fnOf; rw [getD_take' h]
/-- the four values are zeros where the word is encoded -/
theorem syn_enc {xs : List Int} (h : wOk xs = true) : eqB (synL xs) [0, 0, 0, 0] = eqB (encL (xs.take 11)) xs := by
  rw [Bool.eq_iff_iff, eqB_iff, eqB_iff, syn_zero h]
  have hc := encL_code (take_ok h)
  constructor
  · intro hx
    refine code_list hc ⟨h, hx⟩ (code_head hc.2 hx fun k hk => ?_)
    rw [encL_yes (take_ok h), fn_ls (by omega), enc_head hk, take_fn hk]
  · intro e
    have := hc.2
    rwa [e] at this

set_option maxHeartbeats 2000000 in
theorem FnWordSyndromes_walk (a0 : Option Addr) (len0 cap0 : Nat) (z0 : List Int) (w : World) (T0 : TpowersOfTwo w) (T1 : Tlogarithms w) (T2 : TwordZeros w) (T3 : TwordGenerator w) (w0 : IsRow .u8 w a0 len0 cap0 z0) :
    Calls Tryd.prog 12 #[.slice a0 len0 cap0] w fun e w' => e = .returned (.bool true) ∧ Below w.heap.size w w' := by
  by_cases hl0 : len0 ≤ 1048576
  case neg =>
    have hl0' : 1048576 < len0 := by omega
    go_enter Tryd.func12, Tryd.ntmps12
    go_wp2
    go_ret
    exact ⟨rfl, Below.refl _ _⟩
  have B0 := w0.bytes
  have hc0 := B0.le
  have hm0 := B0.cap
  clear w0
  have z0_ := T0.lt
  have z1_ := T1.lt
  have z2_ := T2.lt
  have z3_ := T3.lt
  go_enter Tryd.func12, Tryd.ntmps12
  go_wp2_with fail
  refine (DrawWordSyndromes_c _ B0 (Nat.le_refl _)).mono ?_
  rintro e w1 ⟨v1, xs, rfl, O, hxl, bb⟩
  have t1 := bb.size
  go_wp2_with fail
  refine (implSyn_c w1 (T0.below bb z0_) (T1.below bb z1_) (T2.below bb z2_) O.rd (Nat.le_refl _)).mono ?_
  rintro e w2 ⟨v2, rfl, X, b2⟩
  have t2 := b2.size
  have O := O.below b2 (Nat.le_refl _)
  have bb := bb.trans (b2.mono (by omega))
  go_wp2_with fail
  refine (specSyn_c w2 O.rd (by omega)).mono ?_
  rintro e w3 ⟨v3, rfl, Y, b3⟩
  have t3 := b3.size
  have O := O.below b3 (by omega)
  have X := X.below b3 (by omega)
  have bb := bb.trans (b3.mono (by omega))
  go_wp2_with fail
  refine (sameInts_t _ X.rd Y.rd).mono ?_
  rintro e w4 ⟨rfl, b4⟩
  have t4 := b4.size
  have O := O.below b4 (by omega)
  have X := X.below b4 (by omega)
  have bb := bb.trans (b4.mono (by omega))
  clear b2 b3 b4 Y
  cases hok : wOk xs with
  | false =>
    rw [synL_no hok] at X
    obtain ⟨A, m, c, rfl, Q⟩ := X.rd
    obtain rfl : m = 0 := by rw [← Q.len]; rfl
    clear Q hok X O
    go_wp2_with fail
    refine (alive_c _).mono ?_
    rintro e w5 ⟨rfl, b5⟩
    have bb := bb.trans (b5.mono (by omega))
    go_wp2_with fail
    go_ret
    exact ⟨rfl, bb⟩
  | true =>
    have hE := hid (syn_enc hok)
    have hl15 := (wOk_iff.1 hok).2
    have hs4 : (synL xs).length = 4 := by rw [synL_yes hok]; rfl
    obtain ⟨A1, n1, c1, rfl, R1⟩ := O.rd
    obtain rfl : n1 = 15 := by rw [← R1.len]; exact hl15
    obtain ⟨A2, n2, c2, rfl, R2⟩ := X.rd
    obtain rfl : n2 = 4 := by rw [← R2.len]; exact hs4
    have RT : Rd w1.heap.size w4 (.slice A1 11 c1) (xs.take 11) := ⟨_, _, _, rfl, R1.till (k := 11) (by omega)⟩
    have RW : Rd w1.heap.size w4 (.slice A1 15 c1) xs := ⟨_, _, _, rfl, R1⟩
    have RS : Rd w2.heap.size w4 (.slice A2 4 c2) (synL xs) := ⟨_, _, _, rfl, R2⟩
    have ic1 : (11 : Int) ≤ (c1 : Int) := by have := R1.le; omega
    have ic2 : 11 ≤ c1 := by omega
    have oz := (Own.made (n := 4) w4 #[.int .i64 0, .int .i64 0, .int .i64 0, .int .i64 0] [0, 0, 0, 0] rfl rfl (by omega : 4 ≤ 4194304)).rd
    have bz := (Below.refl w4.heap.size w4).alloc (Nat.le_refl _) (.cells #[.int .i64 0, .int .i64 0, .int .i64 0, .int .i64 0] 3)
    have S1 := hid (sameInts_c (w4.alloc (.cells #[.int .i64 0, .int .i64 0, .int .i64 0, .int .i64 0] 3)).drew ((RS.below bz (by omega)).drewN 1) (oz.drewN 1))
    have ENC := hid (fun W (b : Below w4.heap.size w4 W) => implEnc_c W (((T0.below bb z0_)).below b (by omega)) (((T1.below bb z1_)).below b (by omega)) (((T3.below bb z3_)).below b (by omega)) (RT.below b (by omega)) (by have := b.size; omega))
    have BZ : Hid (∀ q, Below w4.heap.size w4 ((w4.alloc (.cells #[.int .i64 0, .int .i64 0, .int .i64 0, .int .i64 0] 3)).drewN q)) := fun q => below_drewN bz q
    have SM := hid (fun W (b : Below w4.heap.size w4 W) (C : Nat) (v : Value) (ys : List Int) (r : Rd C W v ys) => sameInts_c W r (RW.below b (by omega)))
    clear R1 R2 RT RW RS oz bz hok hl15 hs4 O X
    go_wp2_with fail
    go_region_with (first | (go_at_call 24; (with_reducible refine S1.out.mono ?_); rintro e wp ⟨rfl, q1, rfl⟩; have BQ := hid (BZ.out (1 + q1))) | (go_at_call 15; refine (ENC.out _ ?_).mono ?_; exact BQ.out; rintro e w5 ⟨v5, rfl, O5, b5⟩; have B5 := hid (BQ.out.trans (b5.mono BQ.out.size)); have O5 := hid O5) | (go_at_call 24; refine (SM.out _ ?_ _ _ _ O5.out.rd).mono ?_; exact B5.out; rintro e wq ⟨rfl, q2, rfl⟩))
    all_goals
      rw [hE.out]
      go_wp2
      go_ret
      exact ⟨ret_bool (by simp), below_drewN (bb.trans (B5.out.mono (by omega))) q2⟩

end Go.Proofs.YtemokfjnbmncbaaDoor
