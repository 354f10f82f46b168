/-
  The law FnEncodeStream, walked: for every input the call returns true, and nothing that was there has changed.
-/
import Derived.Test.YtnlacmbmmlmpjaaDoorAddB
namespace Go.Proofs.YtnlacmbmmlmpjaaDoor
open Go.RowKit T

set_option maxHeartbeats 4000000 in
theorem FnEncodeStream_walk (a0 : Option Addr) (len0 cap0 : Nat) (z0 : List Int) (w : World) (T0 : TtrellisNext w) (T1 : TtrellisOut w) (w0 : IsRow .u8 w a0 len0 cap0 z0) :
    Calls Tryd.prog 8 #[.slice a0 len0 cap0] w fun e w' => e = .returned (.bool true) ∧ Below w.heap.size w w' := by
  by_cases hl0 : len0 ≤ 1048576
  case neg =>
    have hl0' : 1048576 < len0 := by omega
    go_enter Tryd.func8, Tryd.ntmps8
    go_wp2
    go_ret
    exact ⟨rfl, Below.refl _ _⟩
  have B0 := w0.bytes
  have hc0 := B0.le
  have hm0 := B0.cap
  clear w0
  have z0_ := T0.lt
  have z1_ := T1.lt
  go_enter Tryd.func8, Tryd.ntmps8
  go_wp2_with fail
  refine (DrawEncodeStream_c _ B0 (Nat.le_refl _)).mono ?_
  rintro e w1 ⟨v1, xs, rfl, O, hxl, bb⟩
  have t1 := bb.size
  go_wp2_with fail
  refine (implEncS_c w1 (T0.below bb z0_) (T1.below bb z1_) O.rd (Nat.le_refl _)).mono ?_
  rintro e w2 ⟨v2, rfl, X, b2⟩
  have t2 := b2.size
  have O := O.below b2 (Nat.le_refl _)
  have bb := bb.trans (b2.mono (by omega))
  go_wp2_with fail
  refine (specEncS_c w2 O.rd (by omega)).mono ?_
  rintro e w3 ⟨v3, rfl, Y, b3⟩
  have t3 := b3.size
  have O := O.below b3 (by omega)
  have X := X.below b3 (by omega)
  have bb := bb.trans (b3.mono (by omega))
  go_wp2_with fail
  refine (sameInts_t _ X.rd Y.rd).mono ?_
  rintro e w4 ⟨rfl, b4⟩
  have t4 := b4.size
  have O := O.below b4 (by omega)
  have X := X.below b4 (by omega)
  have bb := bb.trans (b4.mono (by omega))
  clear b2 b3 b4 Y
  cases hok : sOk xs with
  | false =>
    rw [encS_no hok] at X
    obtain ⟨A, m, c, rfl, Q⟩ := X.rd
    obtain rfl : m = 0 := by rw [← Q.len]; rfl
    have IB := isBits_c w4 O.rd
    obtain ⟨A1, n1, c1, rfl, Q1⟩ := O.rd
    cases hb : bitsOk xs with
    | false =>
      rw [hb] at IB
      have IB := hid IB
      clear Q Q1 hok hb X O
      go_wp2_with fail
      refine IB.out.mono ?_
      rintro e w5 ⟨rfl, rfl⟩
      go_wp2_with fail
      refine (alive_c _).mono ?_
      rintro e w6 ⟨rfl, b6⟩
      have bb := bb.trans (b6.mono (by omega))
      go_wp2_with fail
      go_ret
      exact ⟨rfl, bb⟩
    | true =>
      rw [hb] at IB
      have IB := hid IB
      have hl : 40 < n1 := by
        have h1 := Q1.len
        by_cases h : n1 ≤ 40
        · rw [sOk_iff.2 ⟨hb, by omega⟩] at hok; exact absurd hok (by decide)
        · omega
      have hl' : (40 : Int) < (n1 : Int) := by omega
      clear Q Q1 hok hb X O
      go_wp2_with fail
      refine IB.out.mono ?_
      rintro e w5 ⟨rfl, rfl⟩
      go_wp2_with fail
      refine (alive_c _).mono ?_
      rintro e w6 ⟨rfl, b6⟩
      have bb := bb.trans (b6.mono (by omega))
      go_wp2_with fail
      go_ret
      exact ⟨rfl, bb⟩
  | true =>
    have hlen := encS_length hok
    have hn40 := (sOk_iff.1 hok).2
    have hrl : xs.length = xs.reverse.length := by rw [List.length_reverse]
    have hrk := sOk_rev hok
    have TW1 := hid (twin_mk (sOk_iff.1 hok).1 (sOk_iff.1 hrk).1 hrl)
    have TW2 := hid (twin_mk (encS_bits hok) (encS_bits hrk) (by rw [hlen, encS_length hrk, ← hrl]))
    have LIN := hid (encS_adF hok hrk hrl)
    have DE := hid (dec_enc hok)
    have EE := hid (err_enc hok)
    clear hrk hrl hok
    obtain ⟨rs, hrs⟩ : ∃ rs, xs.reverse = rs := ⟨_, rfl⟩
    rw [hrs] at TW1 TW2 LIN
    have HRS := hid hrs
    obtain ⟨zs, hzs⟩ : ∃ zs, encS xs = zs := ⟨_, rfl⟩
    rw [hzs] at X hlen TW2 LIN DE EE
    obtain ⟨A1, n, c1, rfl, Q1⟩ := O.rd
    obtain ⟨A2, m, c2, rfl, Q2⟩ := X.rd
    have hn1 := Q1.len
    have hm1 := Q2.len
    have HN := hid hn1
    rw [hn1] at hlen hn40
    rw [hm1] at hlen
    have m0 : ((m : Int) == 0) = false := by simp; omega
    have mE : ((m : Int) == 2 * (n : Int) + 4) = true := by simp; omega
    clear hzs hrs hm1 hlen Q2 hn1
    have hE := (Own.empty w4).more (show w4.heap.size + 1 ≤ (w4.alloc (.cells #[] 3)).heap.size by simp)
    have bE := (Below.refl w4.heap.size w4).alloc (Nat.le_refl _) (.cells #[] 3)
    go_wp2_with fail
    go_loopw [5, 6] (fun b i wr => ∃ (m : Nat) (bs : List Int), m ≤ n ∧ i = .int .i64 ((n : Int) - 1 - m) ∧ Hid (bs = xs.reverse.take m) ∧ bs.length = m ∧ Own w4.heap.size wr.heap.size wr b bs ∧ Below w4.heap.size w4 wr) (fun _ i _ => (intOf i + 1).toNat)
    case atStart => exact ⟨0, [], by omega, by simp, rfl, rfl, hE, bE⟩
    case round =>
      obtain ⟨k, bs, hk, rfl, hbs, hbl, ho, hb⟩ := hrel
      clear hE bE
      have hsz := hb.size
      by_cases hlt : k < n
      · obtain ⟨K, hK⟩ : ∃ K : Nat, (n : Int) - 1 - k = K := ⟨n - 1 - k, by omega⟩
        rw [hK]
        have iK : (K : Int) < (n : Int) := by omega
        have R1 := Q1.below hb (by omega)
        obtain ⟨b, off, x, rfl, _, c1', hx⟩ := R1.at_ (k := K) (by omega)
        have st := rev_snoc (xs := xs) (m := k) (K := K) (by rw [HN.out]; omega)
        rw [hx.out, ← hbs.out] at st
        have ST := hid st
        have HK := hid hK
        clear st hK hx R1 hbs
        go_wp2_with (at_builtin; refine wpl_appl intSl _ rfl (.tmp 41) (.tmp 46) rfl w4.heap.size wr.heap.size _ _ _ [x] 1 rfl rfl rfl rfl ho (Nat.le_refl _) (by omega) hsz ?_; intro v' w6 ho6 g6)
        have hb6 := hb.trans (below_of_own ho g6 (Nat.le_refl _) hsz)
        rw [ST.out] at ho6
        have hbs6 : Hid (xs.reverse.take (k + 1) = xs.reverse.take (k + 1)) := rfl
        have hl6 : (xs.reverse.take (k + 1)).length = k + 1 := by rw [List.length_take, List.length_reverse, HN.out]; omega
        clear ho hb g6 ST
        go_wp2
        go_roundw
        case rel => exact ⟨k + 1, _, by omega, by (have := HK.out; first | go_num | (congr 1; omega)), hbs6, hl6, ho6, hb6⟩
        case measure => simp [intOf]
      · obtain rfl : k = n := by omega
        have hN1 : (k : Int) - 1 - k = -1 := by omega
        rw [hN1]
        have hbr : bs = rs := by
          rw [hbs.out, ← HRS.out]
          exact List.take_of_length_le (by rw [List.length_reverse, HN.out]; omega)
        subst hbr
        have O := O.below hb (by omega)
        have X := X.below hb (by omega)
        have bb := bb.trans (hb.mono (by omega))
        clear hb Q1 hN1 hbs
        have C1 := hid (implAdd_c wr O.rd ho.rd (by omega) (Nat.le_refl _) TW1.out)
        go_wp2_with fail
        refine C1.out.mono ?_
        rintro e w6 ⟨v6, rfl, Y6, b6⟩
        have t6 := b6.size
        have O := O.below b6 (by omega)
        have X := X.below b6 (by omega)
        have ho := ho.below b6 (by omega)
        have bb := bb.trans (b6.mono (by omega))
        have C2 := implEncS_c w6 (T0.below bb z0_) (T1.below bb z1_) Y6.rd (by omega)
        rw [LIN.out] at C2
        have C2 := hid C2
        clear C1 b6 Y6
        go_wp2_with fail
        refine C2.out.mono ?_
        rintro e w7 ⟨v7, rfl, Y7, b7⟩
        have t7 := b7.size
        have O := O.below b7 (by omega)
        have X := X.below b7 (by omega)
        have ho := ho.below b7 (by omega)
        have bb := bb.trans (b7.mono (by omega))
        have C3 := hid (implEncS_c w7 (T0.below bb z0_) (T1.below bb z1_) ho.rd (by omega))
        clear C2 b7
        go_wp2_with fail
        refine C3.out.mono ?_
        rintro e w8 ⟨v8, rfl, Y8, b8⟩
        have t8 := b8.size
        have O := O.below b8 (by omega)
        have X := X.below b8 (by omega)
        have Y7 := Y7.below b8 (by omega)
        have bb := bb.trans (b8.mono (by omega))
        have C4 := hid (implAdd_c w8 X.rd Y8.rd (by omega) (by omega) TW2.out)
        clear C3 b8 ho
        go_wp2_with fail
        refine C4.out.mono ?_
        rintro e w9 ⟨v9, rfl, Y9, b9⟩
        have t9 := b9.size
        have O := O.below b9 (by omega)
        have X := X.below b9 (by omega)
        have Y7 := Y7.below b9 (by omega)
        have bb := bb.trans (b9.mono (by omega))
        clear C4 b9 Y8
        go_wp2_with fail
        refine (sameInts_t _ Y7.rd Y9.rd).mono ?_
        rintro e wA ⟨rfl, bA⟩
        have tA := bA.size
        have O := O.below bA (by omega)
        have X := X.below bA (by omega)
        have bb := bb.trans (bA.mono (by omega))
        have C5 := implDecS_c wA (T0.below bb z0_) (T1.below bb z1_) X.rd (by omega)
        rw [DE.out] at C5
        have C5 := hid C5
        clear bA Y7 Y9
        go_wp2_with fail
        refine C5.out.mono ?_
        rintro e wB ⟨vB, rfl, YB, bB⟩
        have tB := bB.size
        have O := O.below bB (by omega)
        have X := X.below bB (by omega)
        have bb := bb.trans (bB.mono (by omega))
        clear C5 bB
        go_wp2_with fail
        refine (sameInts_t _ YB.rd O.rd).mono ?_
        rintro e wC ⟨rfl, bC⟩
        have tC := bC.size
        have X := X.below bC (by omega)
        have bb := bb.trans (bC.mono (by omega))
        have C6 := implErr_c wC (T0.below bb z0_) (T1.below bb z1_) X.rd (by omega)
        rw [EE.out] at C6
        have C6 := hid C6
        clear bC YB O
        go_wp2_with fail
        refine C6.out.mono ?_
        rintro e wD ⟨rfl, bD⟩
        have bb := bb.trans (bD.mono (by omega))
        go_wp2_with fail
        go_ret
        exact ⟨rfl, bb⟩

end Go.Proofs.YtnlacmbmmlmpjaaDoor
