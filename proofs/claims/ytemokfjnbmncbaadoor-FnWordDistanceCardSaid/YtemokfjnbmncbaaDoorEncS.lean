/-
  Encoding a word, the reference's way: its generator, and the division by it.
-/
import Derived.Test.YtemokfjnbmncbaaDoorEnc
namespace Go.Proofs.YtemokfjnbmncbaaDoor
open Go.RowKit T

/-- k steps of the division, the quotient's places set to 0 -/
def sp (V : Nat → Nat) (k m : Nat) : Nat → Nat := fun i => if k ≤ i ∧ i < k + m then V i ^^^ gm (V k) (gen (i - k)) else V i
theorem sp_zero (V : Nat → Nat) (k : Nat) : sp V k 0 = V := by funext i; unfold sp; rw [if_neg (by omega)]
theorem sp_new (V : Nat → Nat) (k m : Nat) : sp V k m (k + m) = V (k + m) := by unfold sp; rw [if_neg (by omega)]
theorem sp_el {V : Nat → Nat} {k m n : Nat} (h : El n V) : El n (sp V k m) := fun i hi => by
  unfold sp; split
  · exact xor_lt (h i hi) (gm_lt _ _)
  · exact h i hi
theorem sp_step (V : Nat → Nat) (k m n : Nat) : (lsOf n (sp V k m)).set (k + m) ((V (k + m) ^^^ gm (V k) (gen m) : Nat) : Int) = lsOf n (sp V k (m + 1)) := by
  rw [ls_set]
  refine ls_congr fun i _ => ?_
  unfold sp
  by_cases h : i = k + m
  · subst h
    rw [if_pos rfl, if_pos (by omega), show k + m - k = m by omega]
  · rw [if_neg h]
    by_cases h2 : k ≤ i ∧ i < k + m
    · rw [if_pos h2, if_pos (by omega)]
    · rw [if_neg h2, if_neg (by omega)]
theorem sp_rem (D : Nat → Nat) (k : Nat) : sp (T.rem D k) k 5 = T.rem D (k + 1) := by
  funext i
  show (if k ≤ i ∧ i < k + 5 then T.rem D k i ^^^ gm (T.rem D k k) (gen (i - k)) else T.rem D k i) = T.rem D k i ^^^ (if k ≤ i ∧ i ≤ k + 4 then gm (T.rem D k k) (gen (i - k)) else 0)
  by_cases h : k ≤ i ∧ i < k + 5
  · rw [if_pos h, if_pos (by omega)]
  · rw [if_neg h, if_neg (by omega), Nat.xor_zero]
theorem enc_list {xs : List Int} (h : dOk xs = true) : xs ++ (lsOf 15 (T.rem (fnOf xs) 11)).drop 11 = lsOf 15 (enc (fnOf xs)) := by
  obtain ⟨he, hl⟩ := dOk_iff.1 h
  rw [ls_drop]
  have e : ∀ k, 11 ≤ k → T.rem (fnOf xs) 11 k = enc (fnOf xs) k := fun k hk => by unfold enc; rw [if_neg (by omega)]
  rw [e 11 (by omega), e 12 (by omega), e 13 (by omega), e 14 (by omega), ← ls_drop]
  have h2 : xs = (lsOf 15 (enc (fnOf xs))).take 11 := by
    refine list_ext_getD (by simp [ls_length, hl]) fun k hk => ?_
    have hk11 : k < 11 := by omega
    rw [getD_take' hk11, ls_getD (by omega)]
    unfold enc; rw [if_pos hk11, fn_cast he]
  conv => lhs; arg 1; rw [h2]
  exact List.take_append_drop _ _

/-! ### the generator -/
def gG : Nat → Nat → Nat
  | 0 => fun j => if j = 0 then 1 else 0
  | k + 1 => fun j => gG k j ^^^ (if 1 ≤ j then gm (gG k (j - 1)) (zr k) else 0)
def gn (k m : Nat) : Nat → Nat := fun j => if 1 ≤ j ∧ j ≤ m then gG k j ^^^ gm (gG k (j - 1)) (zr k) else gG k j
theorem gG_zero : ∀ k < 5, ∀ j < 6, k < j → gG k j = 0 := by decide +kernel
theorem gG_lt : ∀ k < 5, ∀ j < 6, gG k j < 16 := by decide +kernel
theorem gG_gen : lsOf 5 (gG 4) = lsOf 5 gen := ls_congr (by decide +kernel : ∀ k < 5, gG 4 k = gen k)
theorem gn_new (k m : Nat) : gn k m (m + 1) = gG k (m + 1) := by unfold gn; rw [if_neg (by omega)]
theorem gn_step (k m n : Nat) : (lsOf n (gn k m)).set (m + 1) ((gG k (m + 1) ^^^ gm (gG k m) (zr k) : Nat) : Int) = lsOf n (gn k (m + 1)) := by
  rw [ls_set]
  refine ls_congr fun i _ => ?_
  unfold gn
  by_cases h : i = m + 1
  · subst h; rw [if_pos rfl, if_pos (by omega), Nat.add_sub_cancel]
  · rw [if_neg h]
    by_cases h2 : 1 ≤ i ∧ i ≤ m
    · rw [if_pos h2, if_pos (by omega)]
    · rw [if_neg h2, if_neg (by omega)]
theorem gn_end {k : Nat} (_ : k < 4) : lsOf (k + 2) (gn k (k + 1)) = lsOf (k + 1 + 1) (gG (k + 1)) := ls_congr fun j hj => by
  show (if 1 ≤ j ∧ j ≤ k + 1 then gG k j ^^^ gm (gG k (j - 1)) (zr k) else gG k j) = gG k j ^^^ (if 1 ≤ j then gm (gG k (j - 1)) (zr k) else 0)
  by_cases h : 1 ≤ j
  · rw [if_pos ⟨h, by omega⟩, if_pos h]
  · rw [if_neg (by omega), if_neg h, Nat.xor_zero]
theorem gn_start {k : Nat} (hk : k < 4) : lsOf (k + 1) (gG k) ++ [0] = lsOf (k + 2) (gn k 0) := by
  have e : gn k 0 = gG k := by funext j; unfold gn; rw [if_neg (by omega)]
  rw [e, ← ls_snoc (k + 1), gG_zero k (by omega) (k + 1) (by omega) (by omega)]; rfl

set_option maxHeartbeats 2000000 in
theorem l6Generator_c (w : World) : Calls Tryd.prog 33 #[] w fun e w' => ∃ v', e = .returned v' ∧ Own w.heap.size w'.heap.size w' v' (lsOf 5 gen) ∧ Below w.heap.size w w' := by
  have o1 := Own.made w #[.int .i64 1] (lsOf 1 (gG 0)) rfl rfl (by omega : 1 ≤ 4194304)
  have b1 := (Below.refl w.heap.size w).alloc (Nat.le_refl _) (.cells #[.int .i64 1] 3)
  have hz := World.size_alloc w (.cells #[.int .i64 1] 3)
  have o2 := Own.made (w.alloc (.cells #[.int .i64 1] 3)) #[.int .i64 2, .int .i64 4, .int .i64 8, .int .i64 3] (lsOf 4 zr) rfl rfl (by omega : 4 ≤ 4194304)
  rw [hz] at o2
  clear hz
  have b2 := b1.alloc (by simp) (.cells #[.int .i64 2, .int .i64 4, .int .i64 8, .int .i64 3] 3)
  have o1 := o1.alloc (by simp) (.cells #[.int .i64 2, .int .i64 4, .int .i64 8, .int .i64 3] 3)
  have o1 := hid (o1.fit (D := w.heap.size) (E := ((w.alloc (.cells #[.int .i64 1] 3)).alloc (.cells #[.int .i64 2, .int .i64 4, .int .i64 8, .int .i64 3] 3)).heap.size) (by omega) (by simp))
  have o2 := hid (o2.fit (D := w.heap.size) (E := ((w.alloc (.cells #[.int .i64 1] 3)).alloc (.cells #[.int .i64 2, .int .i64 4, .int .i64 8, .int .i64 3] 3)).heap.size) (by omega) (by simp))
  have b2 := hid b2
  clear b1
  go_enter Tryd.func33, Tryd.ntmps33
  go_wp2
  go_loopw [1, 3, 4, 5] (fun gv i _ _ wr => ∃ k : Nat, k ≤ 4 ∧ i = .int .i64 k ∧ Own w.heap.size wr.heap.size wr gv (lsOf (k + 1) (gG k)) ∧ Own w.heap.size wr.heap.size wr (.slice (some ⟨w.heap.size + 1, 0, none⟩) 4 4) (lsOf 4 zr) ∧ Below w.heap.size w wr) (fun _ i _ _ _ => 4 - (intOf i).toNat)
  case atStart => exact ⟨0, by omega, rfl, o1.out, o2.out, b2.out⟩
  case round =>
    rename_i gv _ _ _ wr
    obtain ⟨k, hk, rfl, og, oz, hb⟩ := hrel
    clear o1 o2 b2
    have sb := hb.size
    by_cases hlt : k < 4
    · have hE := (Own.empty wr).more (show wr.heap.size + 1 ≤ (wr.alloc (.cells #[] 3)).heap.size by simp)
      have bE := (Below.refl wr.heap.size wr).alloc (Nat.le_refl _) (.cells #[] 3)
      have ogE := (og.below bE (Nat.le_refl _)).rd
      go_wp2_with (first | (at_builtin; refine wpl_append intSl _ rfl (.tmp 12) (.tmp 13) rfl wr.heap.size _ wr.heap.size _ _ [] _ rfl rfl hE ogE (by rw [ls_length]; simp; omega) (by simp) ?_; intro v2 w2 ho2 g2 _; have b2 := bE.trans (below_of_own hE g2 (Nat.le_refl _) (by simp)); have s2 := b2.size; rw [List.nil_append] at ho2) | (at_builtin; refine wpl_appl intSl _ rfl (.tmp 14) (.tmp 15) rfl wr.heap.size w2.heap.size _ _ _ [0] 1 rfl rfl rfl rfl ho2 (Nat.le_refl _) (by rw [ls_length]; omega) s2 ?_; intro v3 w3 ho3 g3; have b3 := b2.trans (below_of_own ho2 g3 (Nat.le_refl _) s2); have s3 := b3.size; rw [gn_start hlt] at ho3; have og3 := og.below b3 (Nat.le_refl _); have oz3 := oz.below b3 (Nat.le_refl _); clear hE bE ogE ho2 g2 b2 g3 og oz))
      rcases og3.form with ⟨hn, _⟩ | ⟨gb, gc, rfl, _, gB, _, _⟩
      · have := congrArg List.length hn
        rw [ls_length] at this; cases this
      rcases ho3.form with ⟨hn, _⟩ | ⟨nb, nc, rfl, nB, nC, _, _⟩
      · have := congrArg List.length hn
        rw [ls_length] at this; cases this
      rw [ls_length] at og3 ho3 ⊢
      rw [ls_length]
      have nB' : nb ≠ gb := by omega
      go_loopw [5] (fun i wq => ∃ m : Nat, m ≤ k + 1 ∧ i = .int .i64 m ∧ Own wr.heap.size w3.heap.size wq (.slice (some ⟨nb, 0, none⟩) (k + 2) nc) (lsOf (k + 2) (gn k m)) ∧ w3.grownBy wq (some nb)) (fun i _ => k + 1 - (intOf i).toNat)
      case atStart => exact ⟨0, by omega, rfl, ho3, World.grownBy.refl _ _⟩
      case round =>
        rename_i wq
        obtain ⟨m, hm, rfl, ho, hg⟩ := hrel
        clear ho3
        have zq := hg.size
        by_cases hlm : m < k + 1
        · have og := og3.apart hg (fun i hi => by injection hi; omega)
          have oz := oz3.apart hg (fun i hi => by injection hi; omega)
          have c1 := ho.cell (k := m + 1) (by rw [ls_length]; omega)
          rw [ls_getD (by omega), gn_new] at c1
          have c2 := og.cell (k := m) (by rw [ls_length]; omega)
          rw [ls_getD (by omega)] at c2
          have c4 := oz.cell (k := k) (by rw [ls_length]; omega)
          rw [ls_getD (by omega)] at c4
          have c3 := ho.free (m + 1)
          have ho2 := ho.store (m + 1) ((gG k (m + 1) ^^^ gm (gG k m) (zr k) : Nat) : Int)
          rw [gn_step] at ho2
          have hg2 := grown_set hg (i := m + 1) (.int .i64 ((gG k (m + 1) ^^^ gm (gG k m) (zr k) : Nat) : Int))
          have hv1 := gG_lt k (by omega) (m + 1) (by omega)
          have hv2 := gG_lt k (by omega) m (by omega)
          have hzr : zr k < 16 := gp_lt _
          have x1 := i64_xor (gG k (m + 1)) (gm (gG k m) (zr k)) (by omega) (by have := gm_lt (gG k m) (zr k); omega)
          have FM := hid (fun W => l5Mul_c (gG k m) (zr k) W hv2 hzr)
          have s1' : IntKind.i64.wrap ((m : Int) + 1) = (m : Int) + 1 := IntWalk.i64_in _ (by omega)
          have s2' : (0 : Int) ≤ (m : Int) + 1 := by omega
          have s3' : ((m : Int) + 1).toNat = m + 1 := by omega
          have i1 : (m : Int) + 1 < ((k + 2 : Nat) : Int) := by omega
          have i1' : (m : Int) + 1 < (k : Int) + 2 := by omega
          have i2 : (m : Int) < ((k + 1 : Nat) : Int) := by omega
          have i2' : (m : Int) < (k : Int) + 1 := by omega
          have i3 : (k : Int) < 4 := by omega
          generalize gG k (m + 1) = va at *
          generalize gG k m = vb at *
          generalize zr k = vc at *
          clear ho hg og oz
          go_wp2_with fail
          go_region_with (go_at_call 34; refine (FM.out _).mono ?_; rintro e w' ⟨rfl, rfl⟩)
          all_goals
            clear s1' s2' s3'
            go_wp2
            go_roundw
            case rel => exact ⟨m + 1, by omega, by go_num, ho2.keep (fun _ _ => rfl), hg2.os, hg2.tape, hg2.output, hg2.size, hg2.block⟩
            case measure => simp [intOf]; omega
        · obtain rfl : m = k + 1 := by omega
          rw [gn_end hlt] at ho
          have hbq := (hb.trans (b3.mono sb)).trans (below_of_grown hg (by omega) (by omega))
          have ozq := oz3.apart hg (fun i hi => by injection hi; omega)
          clear og3 oz3
          go_wp2
          go_roundw
          case rel => exact ⟨k + 1, by omega, by go_num, ho.fit (by omega) (by omega), ozq.fit (Nat.le_refl _) (by omega), hbq⟩
          case measure => simp [intOf]; omega
    · obtain rfl : k = 4 := by omega
      go_wp2
      go_ret
      exact ⟨_, rfl, by rw [← gG_gen]; exact og, hb⟩

set_option maxHeartbeats 2000000 in
theorem specEnc_c {C : Nat} {v : Value} {xs : List Int} (w : World) (h : Rd C w v xs) (hC : C ≤ w.heap.size) :
    Calls Tryd.prog 13 #[v] w fun e w' => ∃ v', e = .returned v' ∧ Own w.heap.size w'.heap.size w' v' (encL xs) ∧ Below w.heap.size w w' := by
  have Q := l6Symbols_d w h
  cases s1 : dOk xs with
  | false =>
    have H := hid (encL_no s1)
    rw [s1] at Q
    have Q := hid Q
    have hE := Own.empty w
    have b1 := (Below.refl w.heap.size w).alloc (Nat.le_refl _) (.cells #[] 3)
    clear s1
    go_enter Tryd.func13, Tryd.ntmps13
    go_wp2_with fail
    refine Q.out.mono ?_
    rintro e w' ⟨rfl, rfl⟩
    go_wp2
    go_ret
    exact ⟨_, rfl, by rw [H.out]; exact hE.more (by simp), b1⟩
  | true =>
    have H := hid (encL_yes s1)
    have HD := hid (data_zeros s1)
    have HE := hid (enc_list s1)
    have he := (dOk_iff.1 s1).1
    have hl := (dOk_iff.1 s1).2
    rw [s1] at Q
    have Q := hid Q
    have hEl := hid (fn_el he 11)
    have HL := hid hl
    generalize hD : fnOf xs = D at H HD hEl HE
    have HDn := hid hD
    clear hD s1 he hl
    go_enter Tryd.func13, Tryd.ntmps13
    go_wp2_with fail
    refine Q.out.mono ?_
    rintro e w' ⟨rfl, rfl⟩
    go_wp2_with fail
    refine (l6Generator_c w).mono ?_
    rintro e w1 ⟨gv, rfl, og1, b1⟩
    have s1 := b1.size
    have R1 := h.below b1 hC
    have hE := (Own.empty w1).more (show w1.heap.size + 1 ≤ (w1.alloc (.cells #[] 3)).heap.size by simp)
    have bE := (Below.refl w1.heap.size w1).alloc (Nat.le_refl _) (.cells #[] 3)
    have RE := R1.below bE (by omega)
    clear R1
    go_wp2_with (first | (at_builtin; refine wpl_append intSl _ rfl (.tmp 13) (.tmp 14) rfl w1.heap.size _ C _ _ [] _ rfl rfl hE RE (by rw [HL.out]; decide) (by simp) ?_; intro v2 w2 ho2 g2 _; have b2 := bE.trans (below_of_own hE g2 (Nat.le_refl _) (by simp)); have s2 := b2.size; rw [List.nil_append] at ho2) | (at_builtin; refine wpl_appl intSl _ rfl (.tmp 15) (.tmp 16) rfl w1.heap.size w2.heap.size _ _ _ [0, 0, 0, 0] 4 rfl rfl rfl rfl ho2 (Nat.le_refl _) (by rw [HL.out]; decide) s2 ?_; intro v3 w3 ho3 g3; have b3 := b2.trans (below_of_own ho2 g3 (Nat.le_refl _) s2); have s3 := b3.size; rw [HD.out] at ho3; have og3 := og1.below b3 (Nat.le_refl _); clear hE bE RE ho2 g2 b2 g3 og1))
    rcases og3.form with ⟨hn, _⟩ | ⟨gb, gc, rfl, _, gB, _, _⟩
    · have := congrArg List.length hn
      rw [ls_length] at this; cases this
    rcases ho3.form with ⟨hn, _⟩ | ⟨nb, nc, rfl, nB, nC, ncl, _⟩
    · have := congrArg List.length hn
      rw [ls_length] at this; cases this
    rw [ls_length] at og3 ho3 ncl ⊢
    rw [ls_length]
    have nB' : nb ≠ gb := by omega
    have e0 : lsOf 15 (r0 D) = lsOf 15 (T.rem D 0) := rfl
    rw [e0] at ho3
    clear e0
    have hb3 := b1.trans (b3.mono s1)
    go_loopw [5, 6, 7] (fun i _ _ wr => ∃ k : Nat, k ≤ 11 ∧ i = .int .i64 k ∧ Own w1.heap.size w3.heap.size wr (.slice (some ⟨nb, 0, none⟩) 15 nc) (lsOf 15 (T.rem D k)) ∧ w3.grownBy wr (some nb)) (fun i _ _ _ => 11 - (intOf i).toNat)
    case atStart => exact ⟨0, by omega, rfl, ho3, World.grownBy.refl _ _⟩
    case round =>
      rename_i wr
      obtain ⟨k, hk, rfl, ho, hg⟩ := hrel
      clear ho3
      by_cases hlt : k < 11
      · have hV := hid (rem_el hEl.out k)
        have hN := hid (sp_rem D k)
        generalize T.rem D k = V at ho hV hN
        have cf := ho.cell (k := k) (by rw [ls_length]; omega)
        rw [ls_getD (by omega)] at cf
        have hv2 := hV.out k (by omega)
        rw [← sp_zero V k] at ho
        generalize hvk : V k = vk at cf hv2
        have HVK := hid hvk
        have i2 : (k : Int) < 15 := by omega
        have dk : decide ((k : Int) < 11) = true := decide_eq_true (by omega)
        clear hvk
        go_wp2_with fail
        go_loopw [7] (fun i wq => ∃ m : Nat, m ≤ 5 ∧ i = .int .i64 m ∧ Own w1.heap.size w3.heap.size wq (.slice (some ⟨nb, 0, none⟩) 15 nc) (lsOf 15 (sp V k m)) ∧ w3.grownBy wq (some nb)) (fun i _ => 5 - (intOf i).toNat)
        case atStart => exact ⟨0, by omega, rfl, ho, hg⟩
        case round =>
          rename_i wq
          obtain ⟨m, hm, rfl, ho, hg⟩ := hrel
          by_cases hlm : m < 5
          · have og := og3.apart hg (fun i hi => by injection hi; omega)
            have c1 := ho.cell (k := k + m) (by rw [ls_length]; omega)
            rw [ls_getD (by omega), sp_new] at c1
            have c2 := og.cell (k := m) (by rw [ls_length]; omega)
            rw [ls_getD (by omega)] at c2
            have c3 := ho.free (k + m)
            have ho2 := ho.store (k + m) ((V (k + m) ^^^ gm (V k) (gen m) : Nat) : Int)
            rw [sp_step, HVK.out] at ho2
            have hv1 := hV.out (k + m) (by omega)
            have hge := gen_lt m hlm
            have x1 := i64_xor (V (k + m)) (gm vk (gen m)) (by omega) (by have := gm_lt vk (gen m); omega)
            have hg2 := grown_set hg (i := k + m) (.int .i64 ((V (k + m) ^^^ gm vk (gen m) : Nat) : Int))
            have FM := hid (fun W => l5Mul_c vk (gen m) W hv2 hge)
            have s1' : IntKind.i64.wrap ((k : Int) + m) = (k : Int) + m := IntWalk.i64_in _ (by omega)
            have s2' : (0 : Int) ≤ (k : Int) + m := by omega
            have s3' : ((k : Int) + m).toNat = k + m := by omega
            have i1 : (k : Int) + m < 15 := by omega
            have i3 : (m : Int) < 5 := by omega
            generalize V (k + m) = va at *
            generalize gen m = vc at *
            clear ho hg og cf
            go_wp2_with fail
            go_region_with (go_at_call 34; refine (FM.out _).mono ?_; rintro e w' ⟨rfl, rfl⟩)
            all_goals
              clear s1' s2' s3'
              go_wp2
              go_roundw
              case rel => exact ⟨m + 1, by omega, by go_num, ho2.keep (fun _ _ => rfl), hg2.os, hg2.tape, hg2.output, hg2.size, hg2.block⟩
              case measure => simp [intOf]; omega
          · obtain rfl : m = 5 := by omega
            rw [hN.out] at ho
            go_wp2_with fail
            go_roundw
            case rel => exact ⟨k + 1, by omega, by go_num, ho, hg⟩
            case measure => simp [intOf]; omega
      · obtain rfl : k = 11 := by omega
        have bq := hb3.trans (below_of_grown hg (by omega) (by omega))
        have sq := bq.size
        have Rx := h.below bq hC
        have OE : Own wr.heap.size (wr.heap.size + 1) (wr.alloc (.cells #[] 3)).drew (.slice (some ⟨wr.heap.size, 0, none⟩) 0 0) [] := (Own.empty wr).drewN 1
        have bE : Below wr.heap.size wr (wr.alloc (.cells #[] 3)).drew := below_drewN ((Below.refl _ _).alloc (Nat.le_refl _) (.cells #[] 3)) 1
        have sM := hid (show (wr.alloc (.cells #[] 3)).drew.heap.size = wr.heap.size + 1 by show (wr.alloc (.cells #[] 3)).heap.size = _; simp)
        have Rx' := Rx.below bE (by omega)
        have RT : Rd w3.heap.size wr (.slice (some ⟨nb, 11, none⟩) 4 (nc - 11)) ((lsOf 15 (T.rem D 11)).drop 11) := by
          obtain ⟨A', n', c', e, h'⟩ := ho.rd
          injection e with e1 e2 e3
          subst e1 e2 e3
          have := h'.from (k := 11) (by omega)
          rw [if_neg (by omega)] at this
          exact ⟨_, _, _, rfl, by simpa [add_none] using this⟩
        have RT' := RT.below bE (by have := hg.size; omega)
        have k1 : ¬ nc = 11 := by omega
        have hsz := hg.size
        clear ho RT Rx
        go_wp2_with fail
        go_region_law (first | (refine step_app intSl rfl (.tmp 48) (.tmp 49) rfl wr.heap.size _ C _ _ [] xs rfl rfl OE Rx' (by rw [HL.out]; decide) (by rw [sM.out]; omega) ?_; intro v5 wa OA ga; have RTa := RT'.grown ga (by rw [sM.out]; omega) (fun k hk => by have := OE.lt k hk; omega)) | (refine step_app intSl rfl (.tmp 50) (.tmp 52) rfl wr.heap.size _ w3.heap.size _ _ _ _ rfl rfl OA RTa (by rw [List.nil_append, HL.out, List.length_drop, ls_length]; decide) (by have := ga.size; rw [sM.out] at this; omega) ?_; intro v6 wb OB gb2))
        all_goals
          go_wp2
          go_ret
          refine ⟨_, rfl, ?_, ?_⟩
          · rw [H.out, ← HE.out, ← List.nil_append xs]
            exact OB.fit (by omega) (Nat.le_refl _)
          · have sa := ga.size
            rw [sM.out] at sa
            exact bq.trans ((((bE.grown ga (by rw [sM.out]; omega) (fun q hq => (OE.lt q hq).1)).grown gb2 (by omega) (fun q hq => (OA.lt q hq).1))).mono (by omega))

end Go.Proofs.YtemokfjnbmncbaaDoor
