/-
  The law FnDecodeStream, walked: for every input the call returns true, and nothing that was there has changed.
-/
import Derived.Test.YtnlacmbmmlmpjaaDoorStreamQ
namespace Go.Proofs.YtnlacmbmmlmpjaaDoor
open Go.RowKit T

/-- a list that differs in at most m places from the code of ws -/
def NearC (ws bs : List Int) (m : Nat) : Prop := bitsOk bs = true ∧ bs.length = 2 * (ws.length + 2) ∧ T.cost (gx bs) (way ws) ≤ m
theorem NearC.next {ws bs : List Int} {m i : Nat} {v : Int} (h : NearC ws bs m) (hv : 0 ≤ v ∧ v ≤ 1) : NearC ws (bs.set i v) (m + 1) :=
  ⟨set_bits h.1 hv, by rw [List.length_set]; exact h.2.1, by have := flip_cost bs i v (way ws); have := h.2.2; omega⟩
theorem NearC.dec {ws bs : List Int} {m : Nat} (h : NearC ws bs m) (hm : m ≤ 2) (k : sOk ws = true) : decS bs = ws := dec_near k h.1 h.2.1 (by have := h.2.2; omega)
theorem bits_set {os : List Int} {i : Nat} {v : Int} (h : T.Bits os) (hv : v = 0 ∨ v = 1) : T.Bits (os.set i v) := fun x hx => by
  rcases List.mem_or_eq_of_mem_set hx with hx | rfl
  · exact h x hx
  · exact hv

set_option maxHeartbeats 8000000 in
theorem FnDecodeStream_walk (a0 : Option Addr) (len0 cap0 : Nat) (z0 : List Int) (a1 : Option Addr) (len1 cap1 : Nat) (z1 : List Int) (w : World) (T0 : TtrellisNext w) (T1 : TtrellisOut w) (w0 : IsRow .u8 w a0 len0 cap0 z0) (w1 : IsRow .u8 w a1 len1 cap1 z1) :
    Calls Tryd.prog 9 #[.slice a0 len0 cap0, .slice a1 len1 cap1] w fun e w' => e = .returned (.bool true) ∧ Below w.heap.size w w' := by
  by_cases hl0 : len0 ≤ 1048576
  case neg =>
    have hl0' : 1048576 < len0 := by omega
    go_enter Tryd.func9, Tryd.ntmps9
    go_wp2
    go_ret
    exact ⟨rfl, Below.refl _ _⟩
  by_cases hl1 : len1 ≤ 1048576
  case neg =>
    have hl1' : 1048576 < len1 := by omega
    go_enter Tryd.func9, Tryd.ntmps9
    go_wp2
    go_ret
    exact ⟨rfl, Below.refl _ _⟩
  have B0 := w0.bytes
  have hc0 := B0.le
  have hm0 := B0.cap
  clear w0
  have B1 := w1.bytes
  have hc1 := B1.le
  have hm1 := B1.cap
  clear w1
  have z0_ := T0.lt
  have z1_ := T1.lt
  go_enter Tryd.func9, Tryd.ntmps9
  go_wp2_with fail
  refine (DrawDecodeStream_c _ B0 (Nat.le_refl _)).mono ?_
  rintro e w1 ⟨v1, xs, rfl, O, hxl, bb⟩
  have t1 := bb.size
  have D1 := hid (implDecS_c w1 (T0.below bb z0_) (T1.below bb z1_) O.rd (Nat.le_refl _))
  have D2 := hid (fun V (R : Rd w1.heap.size V v1 xs) (h : w1.heap.size ≤ V.heap.size) => specDecS_c V R h)
  go_wp2_with fail
  refine D1.out.mono ?_
  rintro e w2 ⟨v2, rfl, X, b2⟩
  have t2 := b2.size
  have O := O.below b2 (Nat.le_refl _)
  have bb := bb.trans (b2.mono (by omega))
  go_wp2_with fail
  refine (D2.out w2 O.rd (by omega)).mono ?_
  rintro e w3 ⟨v3, rfl, Y, b3⟩
  have t3 := b3.size
  have O := O.below b3 (by omega)
  have X := X.below b3 (by omega)
  have bb := bb.trans (b3.mono (by omega))
  go_wp2_with fail
  refine (sameInts_t _ X.rd Y.rd).mono ?_
  rintro e w4 ⟨rfl, b4⟩
  have t4 := b4.size
  have O := O.below b4 (by omega)
  have X := X.below b4 (by omega)
  have bb := bb.trans (b4.mono (by omega))
  have D3 := hid (implErr_c w4 (T0.below bb z0_) (T1.below bb z1_) O.rd (by omega))
  clear D1 D2 Y b2 b3 b4
  cases hok : lOk xs with
  | false =>
    rw [errS_no hok] at D3
    rw [decS_no hok] at X
    obtain ⟨A, m, c, rfl, Q⟩ := X.rd
    obtain rfl : m = 0 := by rw [← Q.len]; rfl
    clear Q hok X O
    go_wp2_with fail
    refine D3.out.mono ?_
    rintro e w5 ⟨rfl, b5⟩
    have t5 := b5.size
    have bb := bb.trans (b5.mono (by omega))
    go_wp2_with fail
    refine (alive_c _).mono ?_
    rintro e w6 ⟨rfl, b6⟩
    have bb := bb.trans (b6.mono (by omega))
    go_wp2_with fail
    go_ret
    exact ⟨rfl, bb⟩
  | true =>
    obtain ⟨hb, h2, h4, h84⟩ := lOk_iff.1 hok
    obtain ⟨n, hl⟩ : ∃ n, xs.length = 2 * (n + 2) := ⟨xs.length / 2 - 2, by omega⟩
    have n40 : n ≤ 40 := by omega
    have HH := hid (err_hd hok hl)
    have HL := hid (fun (os : List Int) (a : T.Bits os) (b : os.length = n) => err_least hok hl a b)
    have HE := err_in hok hl
    obtain ⟨ks, kn⟩ := decS_sOk hok hl
    obtain ⟨ws, hws⟩ : ∃ ws, decS xs = ws := ⟨_, rfl⟩
    rw [hws] at X HH ks kn
    obtain ⟨E, hE⟩ : ∃ E, errS xs = E := ⟨_, rfl⟩
    rw [hE] at D3 HH HL HE
    have zl := encS_length ks
    rw [kn] at zl
    have zb := encS_bits ks
    have NC : Hid (NearC ws (encS ws) 0) := ⟨zb, encS_length ks, by rw [enc_cost ks]; decide⟩
    have KS := hid ks
    have WB := hid (sOk_bits ks)
    have KN := hid kn
    obtain ⟨A2, m2, c2, rfl, Q2⟩ := X.rd
    have hm2 : m2 = n := by rw [← Q2.len]; exact kn
    subst m2
    clear hok hws hE hb h2 h4 h84 hl ks kn Q2 hxl
    have n0 : ¬ E < 0 := by omega
    go_wp2_with fail
    refine D3.out.mono ?_
    rintro e w5 ⟨rfl, b5⟩
    have t5 := b5.size
    have O := O.below b5 (by omega)
    have X := X.below b5 (by omega)
    have bb := bb.trans (b5.mono (by omega))
    clear D3 b5
    go_wp2_with fail
    refine (implEncS_c w5 (T0.below bb z0_) (T1.below bb z1_) X.rd (by omega)).mono ?_
    rintro e w6 ⟨v6, rfl, Z, b6⟩
    have t6 := b6.size
    have O := O.below b6 (by omega)
    have X := X.below b6 (by omega)
    have bb := bb.trans (b6.mono (by omega))
    clear b6
    obtain ⟨zs, hzs⟩ : ∃ zs, encS ws = zs := ⟨_, rfl⟩
    rw [hzs] at Z HH NC zl zb
    clear hzs
    rcases Z.form with ⟨hn, _⟩ | ⟨gZ, cZ, rfl, zB, zC, zle, _⟩
    · rw [hn] at zl; simp at zl
    obtain ⟨N, hN⟩ : ∃ N, zs.length = N := ⟨_, rfl⟩
    rw [hN] at Z zle zl ⊢
    have N0 : ((N : Int) == 0) = false := by simp; omega
    have HN := hid hN
    have ZL := hid zl
    have zl84 : N ≤ 84 := by omega
    have zl4 : 4 ≤ N := by omega
    have hE := (Own.empty w6).more (show w6.heap.size + 1 ≤ (w6.alloc (.cells #[] 3)).heap.size by simp)
    have bE := (Below.refl w6.heap.size w6).alloc (Nat.le_refl _) (.cells #[] 3)
    have XE := X.below bE (by omega)
    have OE := O.below bE (by omega)
    have ZE := Z.below bE (by omega)
    have zbl : gZ < w6.heap.size := zC
    clear X O Z hN zl
    have l1' : (len1 : Int) ≤ 1048576 := by omega
    go_wp2_with (at_builtin; refine wpl_append intSl _ rfl (.tmp 46) (.tmp 47) rfl w6.heap.size _ w2.heap.size _ _ [] _ rfl rfl hE XE.rd (by have := KN.out; simp; omega) (by simp) ?_; intro v7 w7 o7 g7 _; rw [List.nil_append] at o7; have b7 := bE.trans (below_of_own hE g7 (Nat.le_refl _) (by simp)); have t7 := b7.size; have X := XE.apart g7 (fun k hk => .inr (by have := (hE.lt k hk).1; omega)); have O := OE.apart g7 (fun k hk => .inr (by have := (hE.lt k hk).1; omega)); have Z := ZE.apart g7 (fun k hk => .inr (by have := (hE.lt k hk).1; omega)); obtain ⟨A7, c7, rfl⟩ : ∃ A7 c7, v7 = .slice A7 n c7 := (by obtain ⟨A, m, c, h, Q⟩ := o7.rd; exact ⟨A, c, by rw [h, ← Q.len, KN.out]⟩); clear hE bE OE XE ZE g7)
    have bb := bb.trans (b7.mono (by omega))
    have B7 : RdB w.heap.size w7 a1 len1 cap1 := B1.keep fun b hb => bb.block b hb
    have HB := hid (show ws.length = n ∧ T.Bits ws from ⟨KN.out, WB.out⟩)
    clear B1 b7
    go_loopw [10] (fun i wr => ∃ (k : Nat) (os : List Int), k ≤ n ∧ i = .int .i64 k ∧ Hid (os.length = n ∧ T.Bits os) ∧ Own w6.heap.size w7.heap.size wr (.slice A7 n c7) os ∧ Below w6.heap.size w7 wr) (fun i _ => n - (intOf i).toNat)
    case atStart => exact ⟨0, ws, by omega, rfl, HB, o7, Below.refl _ _⟩
    case round =>
      obtain ⟨k, os, hk, rfl, hos, ho, hg⟩ := hrel
      have zg := hg.size
      by_cases hgo : k < n ∧ k < len1
      · obtain ⟨hk1, hk2⟩ := hgo
        have i1 : (k : Int) < (n : Int) := by omega
        have i2 : (k : Int) < (len1 : Int) := by omega
        obtain ⟨bx, off, rfl, hbl, hcl⟩ := B7.cells (by omega)
        obtain ⟨y0, hy0, cy0⟩ := hcl k (by omega)
        have cz0 := (World.cell?_of_block (w := w7) (hg.block bx (by omega))).trans cy0
        rcases ho.form with ⟨hnil, _⟩ | ⟨g, cap, heq, gB, gC, gl, _⟩
        · exfalso; have := hos.out.1; rw [hnil] at this; simp at this; omega
        obtain ⟨rfl, hnl, rfl⟩ : A7 = some ⟨g, 0, none⟩ ∧ n = os.length ∧ c7 = cap := by injection heq with a b c; exact ⟨a, b, c⟩
        rw [← hnl] at gl
        obtain ⟨P, hP⟩ : ∃ P, P = y0 % 2 := ⟨_, rfl⟩
        have eP : (y0 : Int) % 2 = (P : Int) := by omega
        have tP : Int.tmod (y0 : Int) 2 = (P : Int) := by have := tmod_nat y0 2; rw [← hP] at this; exact this
        have u0 : IntKind.i64.wrap (y0 : Int) = (y0 : Int) := IntWalk.i64_in _ (by omega)
        have u2 : IntKind.i64.wrap (P : Int) = (P : Int) := IntWalk.i64_in _ (by omega)
        have cf := ho.free k
        have cw := ho.cell (k := k) (by omega)
        generalize os.getD k 0 = oz at cw
        have ho2 := ho.store k (P : Int)
        have g2 := grown_set (World.grownBy.refl wr (some g)) (i := k) (.int .i64 (P : Int))
        have hg2 := hg.trans (below_of_grown g2 gB (by omega))
        have hos2 : Hid ((os.set k (P : Int)).length = n ∧ T.Bits (os.set k (P : Int))) := ⟨by rw [List.length_set]; exact hnl.symm, bits_set hos.out.2 (by omega)⟩
        clear hP o7 ho hg hnl hcl cy0 heq
        go_wp2_with fail
        go_roundw
        case rel => exact ⟨k + 1, _, by omega, by go_num, hos2, ho2, hg2⟩
        case measure => simp [intOf]; omega
      · have bb := bb.trans (hg.mono (by have := bb.size; omega))
        have X := X.below hg (by omega)
        have O := O.below hg (by omega)
        have Z := Z.below hg (by omega)
        have B7 : RdB w.heap.size wr a1 len1 cap1 := B7.keep fun b hb => hg.block b (by omega)
        obtain ⟨hol, hob⟩ := hos.out
        have HF := HL.out os hob hol
        obtain ⟨F, hF⟩ : ∃ F, hd (encS os) xs = F := ⟨_, rfl⟩
        rw [hF] at HF
        have HF2 := hid hF
        obtain ⟨wo, rfl⟩ : ∃ z, z = wr := ⟨_, rfl⟩
        clear hF hol hob hos HL o7 hg
        have hE := (Own.empty wo).more (show wo.heap.size + 1 ≤ (wo.alloc (.cells #[] 3)).heap.size by simp)
        have bE := (Below.refl wo.heap.size wo).alloc (Nat.le_refl _) (.cells #[] 3)
        have XE := X.below bE (by omega)
        have OE := O.below bE (by omega)
        have ZE := Z.below bE (by omega)
        have HE1 := ho.below bE (by omega)
        clear X O Z ho
        by_cases hk1 : k < n
        · have i1 : (k : Int) < (n : Int) := by omega
          have i2 : ¬ (k : Int) < (len1 : Int) := by omega
          clear hgo
          go_wp2_with (at_builtin; refine wpl_append intSl _ rfl (.tmp 70) (.tmp 71) rfl wo.heap.size _ w6.heap.size _ _ [] _ rfl rfl hE ZE.rd (by have := HN.out; simp; omega) (by simp) ?_; intro v8 w8 o8 g8 _; rw [List.nil_append] at o8; have b8 := bE.trans (below_of_own hE g8 (Nat.le_refl _) (by simp)); have t8 := b8.size; have X := XE.apart g8 (fun k hk => .inr (by have := (hE.lt k hk).1; omega)); have O := OE.apart g8 (fun k hk => .inr (by have := (hE.lt k hk).1; omega)); have Z := ZE.apart g8 (fun k hk => .inr (by have := (hE.lt k hk).1; omega)); have HO := HE1.apart g8 (fun k hk => .inr (by have := (hE.lt k hk).1; omega)); obtain ⟨gb, cb, rfl, gbB, gbC, gbl⟩ : ∃ g cap, v8 = .slice (some ⟨g, 0, none⟩) N cap ∧ wo.heap.size ≤ g ∧ g < w8.heap.size ∧ N ≤ cap := (by rcases o8.form with ⟨hn, _⟩ | ⟨g, cap, h1, h2, h3, h4', h5⟩; (exfalso; have := HN.out; rw [hn] at this; simp at this; omega); exact ⟨g, cap, by rw [h1, HN.out], h2, h3, by have := HN.out; omega⟩); clear hE bE XE OE ZE HE1 g8)
          have bb := bb.trans (b8.mono (by have := bb.size; omega))
          have B8 : RdB w.heap.size w8 a1 len1 cap1 := B7.keep fun b hb => b8.block b (by omega)
          clear B7 b8
          go_loopw [12, 13] (fun i _ wr => ∃ (m : Nat) (bs : List Int), m ≤ 2 ∧ i = .int .i64 m ∧ Hid (NearC ws bs m) ∧ Own wo.heap.size w8.heap.size wr (.slice (some ⟨gb, 0, none⟩) N cb) bs ∧ w8.grownBy wr (some gb)) (fun i _ _ => 2 - (intOf i).toNat)
          case atStart => exact ⟨0, zs, by omega, rfl, NC, o8, World.grownBy.refl _ _⟩
          case round =>
            obtain ⟨m, bs, hm, rfl, hbs, ho2, hg2⟩ := hrel
            clear o8
            have zg2 := hg2.size
            have X := X.apart hg2 (fun k hk => by injection hk; omega)
            have O := O.apart hg2 (fun k hk => by injection hk; omega)
            have Z := Z.apart hg2 (fun k hk => by injection hk; omega)
            have HO := HO.apart hg2 (fun k hk => by injection hk; omega)
            by_cases hgo2 : m < 2 ∧ m < len1
            · obtain ⟨hm2, hml⟩ := hgo2
              have i3 : (m : Int) < 2 := by omega
              have i4 : (m : Int) < (len1 : Int) := by omega
              obtain ⟨bx, off, rfl, hbl, hcl⟩ := B8.cells (by omega)
              obtain ⟨y0, hy0, cy0⟩ := hcl m (by omega)
              have cz0 := (World.cell?_of_block (w := w8) (hg2.block bx (by omega) (fun e => by injection e; omega))).trans cy0
              obtain ⟨K, hK⟩ : ∃ K, K = y0 % N := ⟨_, rfl⟩
              have hKN : K < N := by rw [hK]; exact Nat.mod_lt _ (by omega)
              have eK : (y0 : Int) % (N : Int) = (K : Int) := by rw [hK, emod_nat]
              have tK : Int.tmod (y0 : Int) (N : Int) = (K : Int) := by rw [hK, tmod_nat]
              have u0 : IntKind.i64.wrap (y0 : Int) = (y0 : Int) := IntWalk.i64_in _ (by omega)
              have iK : (K : Int) < (N : Int) := by omega
              have cz := Z.cell (k := K) (by have := HN.out; omega)
              have hbl2 : bs.length = N := by rw [hbs.out.2.1, KN.out]; exact ZL.out.symm
              have cbb := ho2.cell (k := K) (by omega)
              have cfb := ho2.free K
              have zbit := bitsOk_at zb K
              have ho3 := ho2.store K (1 - zs.getD K 0)
              have hg3 := grown_set hg2 (i := K) (.int .i64 (1 - zs.getD K 0))
              have hbs3 : Hid (NearC ws (bs.set K (1 - zs.getD K 0)) (m + 1)) := hbs.out.next (flip_bit zb K)
              generalize zs.getD K 0 = z at cz zbit ho3 hg3 hbs3
              generalize bs.getD K 0 = ob at cbb
              clear hK hbl2 ho2 hg2 hcl cy0 hbs X O Z HO
              go_wp2_with fail
              go_roundw
              case rel => exact ⟨m + 1, _, by omega, by go_num, hbs3, ho3, hg3⟩
              case measure => simp [intOf]; omega
            · have HD : Hid (decS bs = ws) := hbs.out.dec hm KS.out
              have bb := bb.trans ((below_of_grown hg2 gbB gbC).mono (by have := bb.size; omega))
              clear hg2 hbs
              by_cases hm2 : m < 2
              · have i3 : (m : Int) < 2 := by omega
                have i4 : ¬ (m : Int) < (len1 : Int) := by omega
                clear hgo2
                have HM := b_drew (hamming_c wr Z.rd O.rd)
                rw [HH.out] at HM
                have HM := hid HM
                go_wp2_with fail
                refine HM.out.mono ?_
                rintro e w9 ⟨rfl, b9⟩
                have t9 := b9.size
                have O := O.below b9 (by omega)
                have X := X.below b9 (by omega)
                have HO := HO.below b9 (by omega)
                have o9 := ho2.below b9 (by omega)
                have bb := bb.trans (b9.mono (by omega))
                clear HM b9 ho2 Z
                go_wp2_with fail
                refine (implEncS_c w9 (T0.below bb z0_) (T1.below bb z1_) HO.rd (by omega)).mono ?_
                rintro e wA ⟨vA, rfl, ZA, bA⟩
                have tA := bA.size
                have O := O.below bA (by omega)
                have X := X.below bA (by omega)
                have oA := o9.below bA (by omega)
                have bb := bb.trans (bA.mono (by omega))
                clear HO o9 bA
                have HM := b_drew (hamming_c wA ZA.rd O.rd)
                rw [HF2.out] at HM
                have HM := hid HM
                go_wp2_with fail
                refine HM.out.mono ?_
                rintro e wB ⟨rfl, bB⟩
                have tB := bB.size
                have X := X.below bB (by omega)
                have oB := oA.below bB (by omega)
                have bb := bb.trans (bB.mono (by omega))
                have DD := implDecS_c wB (T0.below bb z0_) (T1.below bb z1_) oB.rd (by omega)
                rw [HD.out] at DD
                have DD := hid DD
                clear HM bB ZA O oA oB
                go_wp2_with fail
                refine DD.out.mono ?_
                rintro e wC ⟨vC, rfl, YC, bC⟩
                have tC := bC.size
                have X := X.below bC (by omega)
                have bb := bb.trans (bC.mono (by omega))
                go_wp2_with fail
                refine (sameInts_t _ YC.rd X.rd).mono ?_
                rintro e wD ⟨rfl, bD⟩
                have bb := bb.trans (bD.mono (by omega))
                go_wp2_with fail
                go_ret
                exact ⟨rfl, bb⟩
              · have i3 : ¬ (m : Int) < 2 := by omega
                clear hgo2
                have HM := b_drew (hamming_c wr Z.rd O.rd)
                rw [HH.out] at HM
                have HM := hid HM
                go_wp2_with fail
                refine HM.out.mono ?_
                rintro e w9 ⟨rfl, b9⟩
                have t9 := b9.size
                have O := O.below b9 (by omega)
                have X := X.below b9 (by omega)
                have HO := HO.below b9 (by omega)
                have o9 := ho2.below b9 (by omega)
                have bb := bb.trans (b9.mono (by omega))
                clear HM b9 ho2 Z
                go_wp2_with fail
                refine (implEncS_c w9 (T0.below bb z0_) (T1.below bb z1_) HO.rd (by omega)).mono ?_
                rintro e wA ⟨vA, rfl, ZA, bA⟩
                have tA := bA.size
                have O := O.below bA (by omega)
                have X := X.below bA (by omega)
                have oA := o9.below bA (by omega)
                have bb := bb.trans (bA.mono (by omega))
                clear HO o9 bA
                have HM := b_drew (hamming_c wA ZA.rd O.rd)
                rw [HF2.out] at HM
                have HM := hid HM
                go_wp2_with fail
                refine HM.out.mono ?_
                rintro e wB ⟨rfl, bB⟩
                have tB := bB.size
                have X := X.below bB (by omega)
                have oB := oA.below bB (by omega)
                have bb := bb.trans (bB.mono (by omega))
                have DD := implDecS_c wB (T0.below bb z0_) (T1.below bb z1_) oB.rd (by omega)
                rw [HD.out] at DD
                have DD := hid DD
                clear HM bB ZA O oA oB
                go_wp2_with fail
                refine DD.out.mono ?_
                rintro e wC ⟨vC, rfl, YC, bC⟩
                have tC := bC.size
                have X := X.below bC (by omega)
                have bb := bb.trans (bC.mono (by omega))
                go_wp2_with fail
                refine (sameInts_t _ YC.rd X.rd).mono ?_
                rintro e wD ⟨rfl, bD⟩
                have bb := bb.trans (bD.mono (by omega))
                go_wp2_with fail
                go_ret
                exact ⟨rfl, bb⟩
        · have i1 : ¬ (k : Int) < (n : Int) := by omega
          clear hgo
          go_wp2_with (at_builtin; refine wpl_append intSl _ rfl (.tmp 70) (.tmp 71) rfl wo.heap.size _ w6.heap.size _ _ [] _ rfl rfl hE ZE.rd (by have := HN.out; simp; omega) (by simp) ?_; intro v8 w8 o8 g8 _; rw [List.nil_append] at o8; have b8 := bE.trans (below_of_own hE g8 (Nat.le_refl _) (by simp)); have t8 := b8.size; have X := XE.apart g8 (fun k hk => .inr (by have := (hE.lt k hk).1; omega)); have O := OE.apart g8 (fun k hk => .inr (by have := (hE.lt k hk).1; omega)); have Z := ZE.apart g8 (fun k hk => .inr (by have := (hE.lt k hk).1; omega)); have HO := HE1.apart g8 (fun k hk => .inr (by have := (hE.lt k hk).1; omega)); obtain ⟨gb, cb, rfl, gbB, gbC, gbl⟩ : ∃ g cap, v8 = .slice (some ⟨g, 0, none⟩) N cap ∧ wo.heap.size ≤ g ∧ g < w8.heap.size ∧ N ≤ cap := (by rcases o8.form with ⟨hn, _⟩ | ⟨g, cap, h1, h2, h3, h4', h5⟩; (exfalso; have := HN.out; rw [hn] at this; simp at this; omega); exact ⟨g, cap, by rw [h1, HN.out], h2, h3, by have := HN.out; omega⟩); clear hE bE XE OE ZE HE1 g8)
          have bb := bb.trans (b8.mono (by have := bb.size; omega))
          have B8 : RdB w.heap.size w8 a1 len1 cap1 := B7.keep fun b hb => b8.block b (by omega)
          clear B7 b8
          go_loopw [12, 13] (fun i _ wr => ∃ (m : Nat) (bs : List Int), m ≤ 2 ∧ i = .int .i64 m ∧ Hid (NearC ws bs m) ∧ Own wo.heap.size w8.heap.size wr (.slice (some ⟨gb, 0, none⟩) N cb) bs ∧ w8.grownBy wr (some gb)) (fun i _ _ => 2 - (intOf i).toNat)
          case atStart => exact ⟨0, zs, by omega, rfl, NC, o8, World.grownBy.refl _ _⟩
          case round =>
            obtain ⟨m, bs, hm, rfl, hbs, ho2, hg2⟩ := hrel
            clear o8
            have zg2 := hg2.size
            have X := X.apart hg2 (fun k hk => by injection hk; omega)
            have O := O.apart hg2 (fun k hk => by injection hk; omega)
            have Z := Z.apart hg2 (fun k hk => by injection hk; omega)
            have HO := HO.apart hg2 (fun k hk => by injection hk; omega)
            by_cases hgo2 : m < 2 ∧ m < len1
            · obtain ⟨hm2, hml⟩ := hgo2
              have i3 : (m : Int) < 2 := by omega
              have i4 : (m : Int) < (len1 : Int) := by omega
              obtain ⟨bx, off, rfl, hbl, hcl⟩ := B8.cells (by omega)
              obtain ⟨y0, hy0, cy0⟩ := hcl m (by omega)
              have cz0 := (World.cell?_of_block (w := w8) (hg2.block bx (by omega) (fun e => by injection e; omega))).trans cy0
              obtain ⟨K, hK⟩ : ∃ K, K = y0 % N := ⟨_, rfl⟩
              have hKN : K < N := by rw [hK]; exact Nat.mod_lt _ (by omega)
              have eK : (y0 : Int) % (N : Int) = (K : Int) := by rw [hK, emod_nat]
              have tK : Int.tmod (y0 : Int) (N : Int) = (K : Int) := by rw [hK, tmod_nat]
              have u0 : IntKind.i64.wrap (y0 : Int) = (y0 : Int) := IntWalk.i64_in _ (by omega)
              have iK : (K : Int) < (N : Int) := by omega
              have cz := Z.cell (k := K) (by have := HN.out; omega)
              have hbl2 : bs.length = N := by rw [hbs.out.2.1, KN.out]; exact ZL.out.symm
              have cbb := ho2.cell (k := K) (by omega)
              have cfb := ho2.free K
              have zbit := bitsOk_at zb K
              have ho3 := ho2.store K (1 - zs.getD K 0)
              have hg3 := grown_set hg2 (i := K) (.int .i64 (1 - zs.getD K 0))
              have hbs3 : Hid (NearC ws (bs.set K (1 - zs.getD K 0)) (m + 1)) := hbs.out.next (flip_bit zb K)
              generalize zs.getD K 0 = z at cz zbit ho3 hg3 hbs3
              generalize bs.getD K 0 = ob at cbb
              clear hK hbl2 ho2 hg2 hcl cy0 hbs X O Z HO
              go_wp2_with fail
              go_roundw
              case rel => exact ⟨m + 1, _, by omega, by go_num, hbs3, ho3, hg3⟩
              case measure => simp [intOf]; omega
            · have HD : Hid (decS bs = ws) := hbs.out.dec hm KS.out
              have bb := bb.trans ((below_of_grown hg2 gbB gbC).mono (by have := bb.size; omega))
              clear hg2 hbs
              by_cases hm2 : m < 2
              · have i3 : (m : Int) < 2 := by omega
                have i4 : ¬ (m : Int) < (len1 : Int) := by omega
                clear hgo2
                have HM := b_drew (hamming_c wr Z.rd O.rd)
                rw [HH.out] at HM
                have HM := hid HM
                go_wp2_with fail
                refine HM.out.mono ?_
                rintro e w9 ⟨rfl, b9⟩
                have t9 := b9.size
                have O := O.below b9 (by omega)
                have X := X.below b9 (by omega)
                have HO := HO.below b9 (by omega)
                have o9 := ho2.below b9 (by omega)
                have bb := bb.trans (b9.mono (by omega))
                clear HM b9 ho2 Z
                go_wp2_with fail
                refine (implEncS_c w9 (T0.below bb z0_) (T1.below bb z1_) HO.rd (by omega)).mono ?_
                rintro e wA ⟨vA, rfl, ZA, bA⟩
                have tA := bA.size
                have O := O.below bA (by omega)
                have X := X.below bA (by omega)
                have oA := o9.below bA (by omega)
                have bb := bb.trans (bA.mono (by omega))
                clear HO o9 bA
                have HM := b_drew (hamming_c wA ZA.rd O.rd)
                rw [HF2.out] at HM
                have HM := hid HM
                go_wp2_with fail
                refine HM.out.mono ?_
                rintro e wB ⟨rfl, bB⟩
                have tB := bB.size
                have X := X.below bB (by omega)
                have oB := oA.below bB (by omega)
                have bb := bb.trans (bB.mono (by omega))
                have DD := implDecS_c wB (T0.below bb z0_) (T1.below bb z1_) oB.rd (by omega)
                rw [HD.out] at DD
                have DD := hid DD
                clear HM bB ZA O oA oB
                go_wp2_with fail
                refine DD.out.mono ?_
                rintro e wC ⟨vC, rfl, YC, bC⟩
                have tC := bC.size
                have X := X.below bC (by omega)
                have bb := bb.trans (bC.mono (by omega))
                go_wp2_with fail
                refine (sameInts_t _ YC.rd X.rd).mono ?_
                rintro e wD ⟨rfl, bD⟩
                have bb := bb.trans (bD.mono (by omega))
                go_wp2_with fail
                go_ret
                exact ⟨rfl, bb⟩
              · have i3 : ¬ (m : Int) < 2 := by omega
                clear hgo2
                have HM := b_drew (hamming_c wr Z.rd O.rd)
                rw [HH.out] at HM
                have HM := hid HM
                go_wp2_with fail
                refine HM.out.mono ?_
                rintro e w9 ⟨rfl, b9⟩
                have t9 := b9.size
                have O := O.below b9 (by omega)
                have X := X.below b9 (by omega)
                have HO := HO.below b9 (by omega)
                have o9 := ho2.below b9 (by omega)
                have bb := bb.trans (b9.mono (by omega))
                clear HM b9 ho2 Z
                go_wp2_with fail
                refine (implEncS_c w9 (T0.below bb z0_) (T1.below bb z1_) HO.rd (by omega)).mono ?_
                rintro e wA ⟨vA, rfl, ZA, bA⟩
                have tA := bA.size
                have O := O.below bA (by omega)
                have X := X.below bA (by omega)
                have oA := o9.below bA (by omega)
                have bb := bb.trans (bA.mono (by omega))
                clear HO o9 bA
                have HM := b_drew (hamming_c wA ZA.rd O.rd)
                rw [HF2.out] at HM
                have HM := hid HM
                go_wp2_with fail
                refine HM.out.mono ?_
                rintro e wB ⟨rfl, bB⟩
                have tB := bB.size
                have X := X.below bB (by omega)
                have oB := oA.below bB (by omega)
                have bb := bb.trans (bB.mono (by omega))
                have DD := implDecS_c wB (T0.below bb z0_) (T1.below bb z1_) oB.rd (by omega)
                rw [HD.out] at DD
                have DD := hid DD
                clear HM bB ZA O oA oB
                go_wp2_with fail
                refine DD.out.mono ?_
                rintro e wC ⟨vC, rfl, YC, bC⟩
                have tC := bC.size
                have X := X.below bC (by omega)
                have bb := bb.trans (bC.mono (by omega))
                go_wp2_with fail
                refine (sameInts_t _ YC.rd X.rd).mono ?_
                rintro e wD ⟨rfl, bD⟩
                have bb := bb.trans (bD.mono (by omega))
                go_wp2_with fail
                go_ret
                exact ⟨rfl, bb⟩

end Go.Proofs.YtnlacmbmmlmpjaaDoor
