/-
  The law FnStreamErrors, walked: for every input the call returns true, and nothing that was there has changed.
-/
import Derived.Test.YtnlacmbmmlmpjaaDoorStreamQ
namespace Go.Proofs.YtnlacmbmmlmpjaaDoor
open Go.RowKit T

set_option maxHeartbeats 2000000 in
theorem FnStreamErrors_walk (a0 : Option Addr) (len0 cap0 : Nat) (z0 : List Int) (w : World) (T0 : TtrellisNext w) (T1 : TtrellisOut w) (w0 : IsRow .u8 w a0 len0 cap0 z0) :
    Calls Tryd.prog 10 #[.slice a0 len0 cap0] w fun e w' => e = .returned (.bool true) ∧ Below w.heap.size w w' := by
  by_cases hl0 : len0 ≤ 1048576
  case neg =>
    have hl0' : 1048576 < len0 := by omega
    go_enter Tryd.func10, Tryd.ntmps10
    go_wp2
    go_ret
    exact ⟨rfl, Below.refl _ _⟩
  have B0 := w0.bytes
  have hc0 := B0.le
  have hm0 := B0.cap
  clear w0
  have z0_ := T0.lt
  have z1_ := T1.lt
  go_enter Tryd.func10, Tryd.ntmps10
  go_wp2_with fail
  refine (DrawStreamErrors_c _ B0 (Nat.le_refl _)).mono ?_
  rintro e w1 ⟨v1, xs, rfl, O, hxl, bb⟩
  have t1 := bb.size
  have D1 := hid (implErr_c w1 (T0.below bb z0_) (T1.below bb z1_) O.rd (Nat.le_refl _))
  have D2 := hid (fun V (R : Rd w1.heap.size V v1 xs) (h : w1.heap.size ≤ V.heap.size) => specErr_c V R h)
  cases hok : lOk xs with
  | false =>
    rw [errS_no hok] at D1 D2
    clear hok
    go_wp2_with fail
    refine D1.out.mono ?_
    rintro e w2 ⟨rfl, b2⟩
    have t2 := b2.size
    have O := O.below b2 (Nat.le_refl _)
    have bb := bb.trans (b2.mono (by omega))
    go_wp2_with fail
    refine (D2.out w2 O.rd (by omega)).mono ?_
    rintro e w3 ⟨rfl, b3⟩
    have t3 := b3.size
    have bb := bb.trans (b3.mono (by omega))
    go_wp2_with fail
    refine (alive_c _).mono ?_
    rintro e w5 ⟨rfl, b5⟩
    have bb := bb.trans (b5.mono (by omega))
    go_wp2_with fail
    go_ret
    exact ⟨rfl, bb⟩
  | true =>
    obtain ⟨hb, h2, h4, h84⟩ := lOk_iff.1 hok
    obtain ⟨n, hl⟩ : ∃ n, xs.length = 2 * (n + 2) := ⟨xs.length / 2 - 2, by omega⟩
    have HS := err_ones hok hl
    have HZ := hid (err_code hok hl)
    have HF := err_flip hok hl 0 (1 - xs.getD 0 0) (flip_bit hb 0)
    have HE := err_in hok hl
    rcases O.form with ⟨hn, _⟩ | ⟨gA, cA, rfl, gB, gC, gl, gm'⟩
    · rw [hn] at h4; simp at h4
    obtain ⟨N, hN⟩ : ∃ N, xs.length = N := ⟨_, rfl⟩
    rw [hN] at gl HS h4 h84
    rw [hN] at D1 D2 O ⊢
    have hSum := smT_in hb
    have X2l : Hid (∀ V (R : Rd w1.heap.size V (.slice (some ⟨gA, 0, none⟩) N cA) xs), True) := fun _ _ => trivial
    clear X2l hok hl h2 hxl
    obtain ⟨E, hE⟩ : ∃ E, errS xs = E := ⟨_, rfl⟩
    rw [hE] at D1 D2 HS HZ HF HE
    obtain ⟨E', hE'⟩ : ∃ E', errS (xs.set 0 (1 - xs.getD 0 0)) = E' := ⟨_, rfl⟩
    rw [hE'] at HF
    have HE' := hid hE'
    obtain ⟨ZS, hZS⟩ : ∃ ZS, encS (decS xs) = ZS := ⟨_, rfl⟩
    rw [hZS] at HZ
    have HZS := hid hZS
    clear hE hE' hZS
    have n0 : ¬ E < 0 := by omega
    go_wp2_with fail
    refine D1.out.mono ?_
    rintro e w2 ⟨rfl, b2⟩
    have t2 := b2.size
    have O := O.below b2 (Nat.le_refl _)
    have bb := bb.trans (b2.mono (by omega))
    go_wp2_with fail
    refine (D2.out w2 O.rd (by omega)).mono ?_
    rintro e w3 ⟨rfl, b3⟩
    have t3 := b3.size
    have O := O.below b3 (by omega)
    have bb := bb.trans (b3.mono (by omega))
    clear D1 D2 b2 b3
    go_wp2_with fail
    go_loopw [5, 6] (fun t i wr => ∃ k : Nat, k ≤ N ∧ i = .int .i64 k ∧ t = .int .i64 (smT xs k) ∧ w3 = wr) (fun _ i _ => N - (intOf i).toNat)
    case atStart => exact ⟨0, by omega, rfl, rfl, rfl⟩
    case round =>
      obtain ⟨k, hk, rfl, rfl, rfl⟩ := hrel
      by_cases hlt : k < N
      · have c1 := O.cell (k := k) (by omega)
        have bx := bitsOk_at hb k
        have hs : Hid (smT xs (k + 1) = smT xs k + xs.getD k 0) := rfl
        have hr := hSum k
        generalize xs.getD k 0 = x at c1 bx hs
        generalize smT xs k = S at hs hr
        have u : IntKind.i64.wrap (S + x) = S + x := IntWalk.i64_in _ (by omega)
        have i1 : (k : Int) < (N : Int) := by omega
        clear HF HE HS bx
        go_wp2
        go_roundw
        case rel => exact ⟨k + 1, by omega, by go_num, by rw [hs.out], trivial⟩
        case measure => simp [intOf]; omega
      · obtain rfl : k = N := by omega
        have hEb : (E == 0) = eqB ZS xs := by
          have hz := HZ.out
          by_cases h0 : ZS = xs
          · rw [h0, eqB_self, hz.2 h0]; rfl
          · rw [eqB_ne h0]
            have : E ≠ 0 := fun e => h0 (hz.1 e)
            simpa using this
        have SM := hid (fun V (C D : Nat) (v u : Value) (R : Rd C V v ZS) (R' : Rd D V u xs) => b_drew (sameInts_c V R R'))
        generalize eqB ZS xs = b at hEb SM
        obtain ⟨x, hx⟩ : ∃ x, xs.getD 0 0 = x := ⟨_, rfl⟩
        have hx01 := bitsOk_at hb 0
        rw [hx] at hx01
        rw [hx] at HE'
        have HX := hid hx
        have HN := hid hN
        obtain ⟨S, hS⟩ : ∃ S, smT xs k = S := ⟨_, rfl⟩
        rw [hS] at HS ⊢
        have hk4 := (hSum k).2
        rw [hS] at hk4
        have hE := (Own.empty w3).more (show w3.heap.size + 1 ≤ (w3.alloc (.cells #[] 3)).heap.size by simp)
        have bE := (Below.refl w3.heap.size w3).alloc (Nat.le_refl _) (.cells #[] 3)
        have OE := O.below bE (by omega)
        have i0 : (0 : Int) < (k : Int) := by omega
        obtain ⟨e1, e2⟩ := HF.2
        clear HF HZ hb hx hN hS hSum O
        cases b
        case' true => obtain rfl : E = 0 := by simpa using hEb
        all_goals
          go_wp2_with (at_builtin; refine wpl_append intSl _ rfl (.tmp 38) (.tmp 39) rfl w3.heap.size _ w1.heap.size _ _ [] _ rfl rfl hE OE.rd (by have := HN.out; simp; omega) (by simp) ?_; intro v5 w5 o5 g5 _; rw [List.nil_append] at o5; have b5 := bE.trans (below_of_own hE g5 (Nat.le_refl _) (by simp)); have t5 := b5.size; have OX := OE.apart g5 (fun k hk => .inr (by have := (hE.lt k hk).1; omega)); obtain ⟨g, cap, rfl, gB2, gC2, gl2⟩ : ∃ g cap, v5 = .slice (some ⟨g, 0, none⟩) k cap ∧ w3.heap.size ≤ g ∧ g < w5.heap.size ∧ k ≤ cap := (by rcases o5.form with ⟨hn, _⟩ | ⟨g, cap, h1, h2, h3, h4', h5⟩; (exfalso; have := HN.out; rw [hn] at this; simp at this; omega); exact ⟨g, cap, by rw [h1, HN.out], h2, h3, by have := HN.out; omega⟩); have cw := o5.cell (k := 0) (by have := HN.out; omega); rw [HX.out] at cw; have cf := o5.free 0; have o6 := o5.store 0 (1 - x); have g6 := grown_set (World.grownBy.refl w5 (some g)) (i := 0) (.int .i64 (1 - x)); clear hE bE OE g5)
          have OX := OX.apart g6 (fun k hk => by injection hk; omega)
          have bb := bb.trans ((b5.trans (below_of_grown g6 gB2 gC2)).mono (by omega))
          have t6 := g6.size
          clear cw cf o5 g6 b5
          generalize w5.setCell ⟨g, 0, none⟩ (.int .i64 (1 - x)) = w6 at *
          refine (implDecS_c w6 (T0.below bb z0_) (T1.below bb z1_) OX.rd (by omega)).mono ?_
          rintro e w7 ⟨v7, rfl, Y, b7⟩
          have t7 := b7.size
          have OX := OX.below b7 (by omega)
          have o7 := o6.below b7 (by omega)
          have bb := bb.trans (b7.mono (by omega))
          clear o6 b7
          go_wp2_with fail
          refine (implEncS_c w7 (T0.below bb z0_) (T1.below bb z1_) Y.rd (by omega)).mono ?_
          rintro e w8 ⟨v8, rfl, Z, b8⟩
          rw [HZS.out] at Z
          have t8 := b8.size
          have OX := OX.below b8 (by omega)
          have o8 := o7.below b8 (by omega)
          have bb := bb.trans (b8.mono (by omega))
          clear o7 b8 Y
          go_wp2_with fail
          refine (SM.out w8 _ _ _ _ Z.rd OX.rd).mono ?_
          rintro e w9 ⟨rfl, b9⟩
          have t9 := b9.size
          have o9 := o8.below b9 (by omega)
          have bb := bb.trans (b9.mono (by omega))
          clear o8 b9 Z OX
          have DE := implErr_c w9 (T0.below bb z0_) (T1.below bb z1_) o9.rd (by omega)
          rw [HE'.out] at DE
          have DE := hid DE
          go_wp2_with fail
          refine DE.out.mono ?_
          rintro e w10 ⟨rfl, b10⟩
          have t10 := b10.size
          have bb := bb.trans (b10.mono (by omega))
          clear DE b10
          go_wp2_with fail
          refine (abs_c _ _ (by omega) (by omega)).mono ?_
          rintro e w11 ⟨rfl | rfl, b11⟩
          all_goals
            have bb := bb.trans (b11.mono (by omega))
            go_wp2_with fail
            go_ret
            exact ⟨rfl, bb⟩

end Go.Proofs.YtnlacmbmmlmpjaaDoor
