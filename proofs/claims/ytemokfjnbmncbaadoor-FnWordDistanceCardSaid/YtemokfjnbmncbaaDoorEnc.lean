/-
  Encoding a word, the program's way: dividing by the generator, the quotient's places left standing.
-/
import Derived.Test.YtemokfjnbmncbaaDoorSyn
import Derived.Test.YtemokfjnbmncbaaDoorStep
import Derived.Test.YtemokfjnbmncbaaDoorDrawSeq
import Derived.Deep.RegionWith
import Derived.Laws.CopyOwn
namespace Go.Proofs.YtemokfjnbmncbaaDoor
open Go.RowKit T

/-! ### copy into a row of the call's own, as one step of a region that draws -/
theorem add_none (b off j : Nat) : (⟨b, off, none⟩ : Addr).add j = ⟨b, off + j, none⟩ := by unfold Addr.add; split <;> simp_all
theorem take_mid {α : Type} (cur xs ys : List α) (off n : Nat) (hc : cur.take n = xs) (hn : n ≤ cur.length) (hf : off + ys.length ≤ n) :
    (cur.take off ++ ys ++ cur.drop (off + ys.length)).take n = xs.take off ++ ys ++ xs.drop (off + ys.length) := by
  subst hc
  have h1 : (cur.take off ++ ys).length = off + ys.length := by simp; omega
  rw [List.take_append, List.take_of_length_le (by omega), h1, List.take_take, Nat.min_eq_left (by omega), List.drop_take]
section
variable {P : Program} {t : TypeId}
theorem step_cpy (T : IntSl P t) {ops : Array Oper} {o : Oper} {a : Act} {w : World} {K : Act → World → Prop} {Q : Exit → Act → World → Prop} {E : Prop}
    (hg : o.guard = none) (d s : Operand) (ho : o.op = .call { callee := .builtin .copy, args := #[d, s], argTypes := #[t, t] })
    (g off m dc B C D n cap : Nat) (xs ys : List Int) (u : Value) (hd : a.eval d = .slice (some ⟨g, off, none⟩) m dc) (hs : a.eval s = u) (hr : Rd D w u ys) (hm : ys.length = m) (h0 : 0 < m)
    (hown : Own B C w (.slice (some ⟨g, 0, none⟩) n cap) xs) (hfit : off + m ≤ n)
    (h : ∀ w', Own B C w' (.slice (some ⟨g, 0, none⟩) n cap) (xs.take off ++ ys ++ xs.drop (off + m)) → w.grownBy w' (some g) → K (a.put o.dst (goInt m)) w') :
    if Region.wanted o (yielded ops a.tmps) = true then Oper.wp P o a w K Q else E := by
  have hw : Region.wanted o (yielded ops a.tmps) = true := by simp [Region.wanted, hg]
  rw [if_pos hw]
  obtain ⟨i, hi, hz0, hz1, hz2⟩ := info_parts T.info
  obtain ⟨A, l, c, rfl, hr⟩ := hr
  have hlen := hr.len
  have hln := hown.len
  obtain ⟨b, ofs, rfl, _, hc⟩ := hr.cells (by omega)
  obtain ⟨⟨hL, hrow⟩, hsm, hlt⟩ := hown
  rcases hrow with ⟨hv, _⟩ | ⟨g', cap', cur, hv, hB, hh, h1, h2, h3, h4⟩
  · cases hv
  injection hv with e1 e2 e3
  injection e1 with e1; injection e1 with e1
  subst e1 e3
  have hrun := run_copy_row (P := P) w t t o.type 3 g off m dc ⟨b, ofs, none⟩ l c cur 3 (ys.map (Value.int .i64)) T.under (by rw [hi]; exact congrArg some hz1) hh (by rw [List.length_map, hlen, show m = l by omega]; exact (Nat.min_self l).symm)
    (by
      intro j v hj
      rw [List.getElem?_map] at hj
      obtain ⟨y, hy, rfl⟩ := Option.map_eq_some_iff.1 hj
      have hjl : j < ys.length := (List.getElem?_eq_some_iff.1 hy).1
      rw [add_none, hc j (by omega)]
      simp [List.getD, hy]) (by rw [List.length_map]; omega) (ints_oneCell _ _)
  unfold Oper.wp
  simp only [execOp, ho, resolve, invoke, builtin, Sem.run_bind, Sem.run_pure, Result.andThen_ok, List.map_toArray, List.map_cons, List.map_nil, hd, hs, hrun]
  rw [List.length_map, hm]
  have hsz : cur.toList.length = cur.size := by simp
  refine h _ ⟨⟨?_, .inr ⟨g, cap, _, ?_, hB, setRow_heap w g _ _ _ _ hh, ?_, h2, ?_, ?_⟩⟩, ?_, hlt⟩ ⟨rfl, rfl, rfl, by simp [World.setRow], fun k _ hk => setRow_other w g k _ (fun e => hk (by rw [e]))⟩
  · simp
  · have : (xs.take off ++ ys ++ xs.drop (off + m)).length = n := by simp; omega
    rw [this]
  · simp; omega
  · simp; omega
  · have : (xs.take off ++ ys ++ xs.drop (off + m)).length = n := by simp; omega
    rw [this]
    have e := take_mid cur.toList (xs.map (Value.int .i64)) (ys.map (Value.int .i64)) off n (by rw [← h4, hln, Nat.mul_one]) (by omega) (by simp; omega)
    simp only [List.length_map, hm] at e
    rw [Nat.mul_one, e]
    simp
  · simp; omega
end

/-! ### the division, place by place -/
def inn (V : Nat → Nat) (i m : Nat) : Nat → Nat := fun k => if i + 1 ≤ k ∧ k ≤ i + m then V k ^^^ gm (V i) (gen (k - i)) else V k
def irem (D : Nat → Nat) : Nat → Nat → Nat
  | 0 => r0 D
  | k + 1 => inn (irem D k) k 4
theorem inn_el {V : Nat → Nat} {i m n : Nat} (h : El n V) : El n (inn V i m) := fun k hk => by
  unfold inn; split
  · exact xor_lt (h k hk) (gm_lt _ _)
  · exact h k hk
theorem irem_el {D : Nat → Nat} (h : El 11 D) (k : Nat) : El 15 (irem D k) := by
  induction k with
  | zero => exact r0_el h
  | succ k ih => exact inn_el ih
theorem irem_rem {D : Nat → Nat} (k : Nat) : ∀ j, k ≤ j → irem D k j = T.rem D k j := by
  induction k with
  | zero => intro j _; rfl
  | succ k ih =>
    intro j hj
    show (if k + 1 ≤ j ∧ j ≤ k + 4 then irem D k j ^^^ gm (irem D k k) (gen (j - k)) else irem D k j) = T.rem D k j ^^^ (if k ≤ j ∧ j ≤ k + 4 then gm (T.rem D k k) (gen (j - k)) else 0)
    rw [ih j (by omega), ih k (Nat.le_refl _)]
    by_cases h : j ≤ k + 4
    · rw [if_pos ⟨hj, h⟩, if_pos ⟨by omega, h⟩]
    · rw [if_neg (by omega), if_neg (by omega), Nat.xor_zero]
theorem inn_zero (V : Nat → Nat) (i : Nat) : inn V i 0 = V := by
  funext k; unfold inn; rw [if_neg (by omega)]
theorem inn_new (V : Nat → Nat) (i m : Nat) : inn V i m (i + 1 + m) = V (i + 1 + m) := by unfold inn; rw [if_neg (by omega)]
theorem inn_at (V : Nat → Nat) (i m : Nat) : inn V i m i = V i := by unfold inn; rw [if_neg (by omega)]
theorem inn_step (V : Nat → Nat) (i m n : Nat) : (lsOf n (inn V i m)).set (i + 1 + m) ((V (i + 1 + m) ^^^ gm (V i) (gen (m + 1)) : Nat) : Int) = lsOf n (inn V i (m + 1)) := by
  rw [ls_set]
  refine ls_congr fun k _ => ?_
  unfold inn
  by_cases h : k = i + 1 + m
  · subst h
    rw [if_pos rfl, if_pos (by omega), show i + 1 + m - i = m + 1 by omega]
  · rw [if_neg h]
    by_cases h2 : i + 1 ≤ k ∧ k ≤ i + m
    · rw [if_pos h2, if_pos (by omega)]
    · rw [if_neg h2, if_neg (by omega)]
theorem data_zeros {xs : List Int} (h : dOk xs = true) : xs ++ [0, 0, 0, 0] = lsOf 15 (r0 (fnOf xs)) := by
  obtain ⟨he, hl⟩ := dOk_iff.1 h
  refine list_ext_getD (by simp [hl, ls_length]) fun k hk => ?_
  have hk15 : k < 15 := by simpa [hl] using hk
  rw [ls_getD hk15]
  unfold r0
  by_cases h11 : k < 11
  · rw [if_pos h11, fn_cast he]
    simp [List.getD_eq_getElem?_getD, List.getElem?_append_left (by omega : k < xs.length)]
  · rw [if_neg h11]
    rw [List.getD_eq_getElem?_getD, List.getElem?_append_right (by omega), hl]
    rcases (by omega : k = 11 ∨ k = 12 ∨ k = 13 ∨ k = 14) with rfl | rfl | rfl | rfl <;> rfl
theorem ls_drop (W : Nat → Nat) : (lsOf 15 W).drop 11 = [(W 11 : Int), (W 12 : Int), (W 13 : Int), (W 14 : Int)] := rfl
theorem ls_splice {D : Nat → Nat} : (lsOf 15 (r0 D)).take 11 ++ (lsOf 15 (irem D 11)).drop 11 ++ (lsOf 15 (r0 D)).drop (11 + 4) = lsOf 15 (enc D) := by
  rw [ls_drop]
  have e : ∀ k, 11 ≤ k → irem D 11 k = enc D k := fun k hk => by rw [irem_rem 11 k hk]; unfold enc; rw [if_neg (by omega)]
  rw [e 11 (by omega), e 12 (by omega), e 13 (by omega), e 14 (by omega)]
  have h : (lsOf 15 (r0 D)).take 11 = (lsOf 15 (enc D)).take 11 := by
    refine list_ext_getD (by simp [ls_length]) fun k hk => ?_
    have hk11 : k < 11 := by simp [ls_length] at hk; omega
    rw [getD_take' hk11, getD_take' hk11, ls_getD (by omega), ls_getD (by omega)]
    unfold r0 enc; rw [if_pos hk11, if_pos hk11]
  rw [h, show (lsOf 15 (r0 D)).drop (11 + 4) = [] from rfl, List.append_nil, ← ls_drop, List.take_append_drop]

theorem gens_idx : ∀ k < 4, ∀ w, (Instr.index 40 (.agg #[.int .i64 13, .int .i64 12, .int .i64 8, .int .i64 7]) (.int .i64 (k : Nat))).run Tryd.prog w = .ok (.int .i64 (gen (k + 1) : Nat)) w := by
  intro k hk
  rcases (by omega : k = 0 ∨ k = 1 ∨ k = 2 ∨ k = 3) with rfl | rfl | rfl | rfl <;> intro w <;> kernel_rfl
theorem gen_lt : ∀ j < 5, gen j < 16 := by decide
set_option maxHeartbeats 2000000 in
theorem implEnc_c {C : Nat} {v : Value} {xs : List Int} (w : World) (T1 : TpowersOfTwo w) (T2 : Tlogarithms w) (T3 : TwordGenerator w) (h : Rd C w v xs) (hC : C ≤ w.heap.size) :
    Calls Tryd.prog 15 #[v] w fun e w' => ∃ v', e = .returned v' ∧ Own w.heap.size w'.heap.size w' v' (encL xs) ∧ Below w.heap.size w w' := by
  have Q := allElements_c w h
  cases s1 : dOk xs with
  | false =>
    have H := hid (encL_no s1)
    by_cases hl : xs.length = 11
    · have he : elems xs = false := by
        cases e : elems xs with
        | false => rfl
        | true => rw [dOk_iff.2 ⟨e, hl⟩] at s1; cases s1
      rw [he] at Q
      have Q := hid Q
      obtain ⟨A, n, c, rfl, h⟩ := h
      obtain rfl : n = 11 := by rw [← h.len]; exact hl
      clear s1 T1 T2 T3 he hl h
      go_enter Tryd.func15, Tryd.ntmps15
      go_wp2_with fail
      refine Q.out.mono ?_
      rintro e w' ⟨rfl, rfl⟩
      go_wp2
      go_ret
      exact ⟨_, rfl, by rw [H.out]; exact Own.nil _ _ _, Below.refl _ _⟩
    · obtain ⟨A, n, c, rfl, h⟩ := h
      have hn : ¬ n = 11 := by rw [← h.len]; exact hl
      have n1 : ((n : Int) != 11) = true := by simp; omega
      have hsm := h.sm
      clear s1 T1 T2 T3 hl h Q hn
      go_enter Tryd.func15, Tryd.ntmps15
      go_wp2
      go_ret
      exact ⟨_, rfl, by rw [H.out]; exact Own.nil _ _ _, Below.refl _ _⟩
  | true =>
    have H := hid (encL_yes s1)
    have HD := hid (data_zeros s1)
    have he := (dOk_iff.1 s1).1
    have hl := (dOk_iff.1 s1).2
    rw [he] at Q
    have Q := hid Q
    have hEl := hid (fn_el he 11)
    have HL := hid hl
    have l1 := T1.lt
    have l2 := T2.lt
    have l3 := T3.lt
    have R := h
    obtain ⟨A, n, c, rfl, h⟩ := h
    have hn : n = 11 := by rw [← h.len]; exact hl
    have n1 : ((n : Int) != 11) = false := by simp; omega
    have n2 : ((n : Int) == 11) = true := by simp; omega
    clear s1 he hl h hn
    generalize hD : fnOf xs = D at H HD hEl
    have HDn := hid hD
    clear hD
    go_enter Tryd.func15, Tryd.ntmps15
    go_wp2_with fail
    refine Q.out.mono ?_
    rintro e w' ⟨rfl, rfl⟩
    go_wp2_with (first | (refine wpl_make0 intSl _ rfl (.const (.int .i64 0)) (.const (.int .i64 15)) rfl _ 15 rfl rfl rfl (by omega) ?_; intro w1 ho1 b1 hlt1; have R1 := R.below b1 hC; have s1 := b1.size) | (at_builtin; refine wpl_append intSl _ rfl (.tmp 16) (.tmp 17) rfl w.heap.size w1.heap.size C _ _ [] xs rfl rfl ho1 R1 (by rw [HL.out]; decide) s1 ?_; intro v2 w2 ho2 g2 _; have b2 := b1.trans (below_of_own ho1 g2 (Nat.le_refl _) (by omega)); have s2 := b2.size) | (at_builtin; refine wpl_appl intSl _ rfl (.tmp 18) (.tmp 19) rfl w.heap.size w2.heap.size _ _ _ [0, 0, 0, 0] 4 rfl rfl rfl rfl ho2 (Nat.le_refl _) (by simp [HL.out]) s2 ?_; intro v3 w3 ho3 g3; have b3 := b2.trans (below_of_own ho2 g3 (Nat.le_refl _) s2); have s3 := b3.size; rw [List.nil_append, HD.out] at ho3; have hE := (Own.empty w3).more (show w3.heap.size + 1 ≤ (w3.alloc (.cells #[] 3)).heap.size by simp); have hW3 := (ho3.alloc (Nat.le_refl _) (.cells #[] 3)).rd; have hW3' := ho3.alloc (Nat.le_refl _) (.cells #[] 3); have b3' := b3.alloc s3 (.cells #[] 3)) | (at_builtin; refine wpl_append intSl _ rfl (.tmp 21) (.tmp 22) rfl w3.heap.size _ w3.heap.size _ _ [] _ rfl rfl hE hW3 (by rw [ls_length]; decide) (by simp) ?_; intro v4 w4 ho4 g4 _; have b4 := b3'.trans (below_of_own hE g4 s3 (by simp; omega)); have s4 : w3.heap.size + 1 ≤ w4.heap.size := (by have := g4.size; simpa using this); have hW4 := hW3'.apart g4 (fun k hk => .inr (hE.lt k hk).1); rw [List.nil_append] at ho4; clear ho1 ho2 g2 g3 b1 b2 R1 ho3 hE hW3 hW3' b3' g4 b3))
    rcases ho4.form with ⟨hn, _⟩ | ⟨g, cap, rfl, gB, gC, gl, gm'⟩
    · have := congrArg List.length hn
      rw [ls_length] at this; cases this
    rw [ls_length] at ho4 gl ⊢
    rcases hW4.form with ⟨hn, _⟩ | ⟨g2, cap2, rfl, gB2, gC2, gl2, gm2⟩
    · have := congrArg List.length hn
      rw [ls_length] at this; cases this
    rw [ls_length] at hW4 gl2 ⊢
    have T1 := T1.below b4 l1
    have T2 := T2.below b4 l2
    have T3 := T3.below b4 l3
    go_loopw [5, 6, 7, 24, 27, 28] (fun _ _ _ i _ _ wr => ∃ k : Nat, k ≤ 11 ∧ i = .int .i64 k ∧ Own w3.heap.size w4.heap.size wr (.slice (some ⟨g, 0, none⟩) 15 cap) (lsOf 15 (irem D k)) ∧ w4.grownBy wr (some g)) (fun _ _ _ i _ _ _ => 11 - (intOf i).toNat)
    case atStart => exact ⟨0, by omega, rfl, ho4, World.grownBy.refl _ _⟩
    case round =>
      obtain ⟨k, hk, rfl, ho, hg⟩ := hrel
      clear ho4
      by_cases hlt : k < 11
      · have hV := hid (irem_el hEl.out k)
        have hN : Hid (irem D (k + 1) = inn (irem D k) k 4) := rfl
        generalize irem D k = V at ho hV hN
        rw [← inn_zero V k] at ho
        obtain ⟨tt, fr, hrow⟩ := T3.grown hg (by omega) (fun i hi => by injection hi; omega)
        have HR : Hid (wr.heap[0]? = some (.cells #[.int .i64 13, .int .i64 12, .int .i64 8, .int .i64 7] tt fr)) := hrow
        clear hrow
        go_wp2_with (refine wpList_load_row rfl 40 (.global 0) rfl 0 rfl tt _ fr _ HR.out Tryd.underlying40 rfl (by kernel_rfl) ?_)
        go_loopw [6, 7, 28] (fun _ _ i wr => ∃ m : Nat, m ≤ 4 ∧ i = .int .i64 m ∧ Own w3.heap.size w4.heap.size wr (.slice (some ⟨g, 0, none⟩) 15 cap) (lsOf 15 (inn V k m)) ∧ w4.grownBy wr (some g)) (fun _ _ i _ => 4 - (intOf i).toNat)
        case atStart => exact ⟨0, by omega, rfl, ho, hg⟩
        case round =>
          obtain ⟨m, hm, rfl, ho, hg⟩ := hrel
          by_cases hlm : m < 4
          · have ix := gens_idx m hlm
            have c1 := ho.cell (k := k + 1 + m) (by rw [ls_length]; omega)
            rw [ls_getD (by omega), inn_new] at c1
            have c2 := ho.cell (k := k) (by rw [ls_length]; omega)
            rw [ls_getD (by omega), inn_at] at c2
            have c3 := ho.free (k + 1 + m)
            have ho2 := ho.store (k + 1 + m) ((V (k + 1 + m) ^^^ gm (V k) (gen (m + 1)) : Nat) : Int)
            rw [inn_step] at ho2
            have hg2 := grown_set hg (i := k + 1 + m) (.int .i64 ((V (k + 1 + m) ^^^ gm (V k) (gen (m + 1)) : Nat) : Int))
            have hv1 := hV.out (k + 1 + m) (by omega)
            have hv2 := hV.out k (by omega)
            have hge := gen_lt (m + 1) (by omega)
            have hy := gm_lt (V k) (gen (m + 1))
            have x1 := i64_xor (V (k + 1 + m)) (gm (V k) (gen (m + 1))) (by omega) (by omega)
            have T1' : TpowersOfTwo wr := T1.grown hg (by omega) (fun i hi => by injection hi; omega)
            have T2' : Tlogarithms wr := T2.grown hg (by omega) (fun i hi => by injection hi; omega)
            have HT1 := hid T1'
            have HT2 := hid T2'
            have FM := hid (fun W (t1 : TpowersOfTwo W) (t2 : Tlogarithms W) => FieldMul_c (V k) (gen (m + 1)) W hv2 hge t1 t2)
            obtain ⟨P, hP⟩ : ∃ P, P = k + 1 + m := ⟨_, rfl⟩
            rw [← hP] at c1 c3 ho2 hg2 hv1 x1
            have hP15 : P < 15 := by omega
            have s1' : IntKind.i64.wrap ((k : Int) + 1) = (k : Int) + 1 := IntWalk.i64_in _ (by omega)
            have s2' : IntKind.i64.wrap ((k : Int) + 1 + (m : Int)) = (P : Int) := by rw [IntWalk.i64_in _ (by omega)]; omega
            have i1 : (P : Int) < 15 := by omega
            have i2 : (k : Int) < 15 := by omega
            generalize hvp : V (k + 1 + m) = vp at *
            generalize hvq : V P = vq at *
            generalize V k = vk at *
            generalize gen (m + 1) = ge at *
            clear hP ho hg T1' T2' hv1 hvp hvq
            go_wp2_with fail
            go_region_with (go_at_call 36; refine (FM.out _ ?_ ?_).mono ?_; exact HT1.out; exact HT2.out; rintro e w' ⟨rfl, q, rfl⟩)
            all_goals
              clear s1' s2'
              go_wp2
              go_roundw
              case rel => exact ⟨m + 1, by omega, by go_num, ho2.keep (fun _ _ => rfl), hg2.os, hg2.tape, hg2.output, hg2.size, hg2.block⟩
              case measure => simp [intOf]; omega
          · obtain rfl : m = 4 := by omega
            go_wp2_with fail
            go_roundw
            case rel => exact ⟨k + 1, by omega, by go_num, by rw [hN.out]; exact ho, hg⟩
            case measure => simp [intOf]; omega
      · obtain rfl : k = 11 := by omega
        have hW := hW4.apart hg (fun i hi => by injection hi; omega)
        have hWd := hW.drewN 1
        have RT : Rd w4.heap.size (wr.drewN 1) (.slice (some ⟨g, 11, none⟩) 4 (cap - 11)) ((lsOf 15 (irem D 11)).drop 11) := by
          obtain ⟨A', n', c', e, h'⟩ := (ho.drewN 1).rd
          injection e with e1 e2 e3
          subst e1 e2 e3
          have := h'.from (k := 11) (by omega)
          rw [if_neg (by omega)] at this
          exact ⟨_, _, _, rfl, by simpa [add_none] using this⟩
        have k1 : ¬ cap = 11 := by omega
        have k2 : ¬ cap2 = 11 := by omega
        have bw := b4.trans (below_of_grown hg (by omega) (by omega))
        clear hW4 ho T1 T2 T3
        go_wp2_with fail
        go_region_law ((refine step_cpy intSl rfl (.tmp 50) (.tmp 52) rfl g2 11 4 _ w.heap.size w3.heap.size w4.heap.size 15 cap2 _ _ _ rfl rfl RT rfl (by decide) hWd (by decide) ?_; intro w5 ho5 g5))
        all_goals
          go_wp2
          go_ret
          have z1 : w4.heap.size ≤ wr.heap.size := hg.size
          have z2 : wr.heap.size ≤ w5.heap.size := g5.size
          refine ⟨_, rfl, ?_, (below_drewN bw 1).trans (below_of_grown g5 gB2 (show g2 < wr.heap.size by omega))⟩
          rw [H.out, ← ls_splice]
          exact ho5.more (by omega)

end Go.Proofs.YtemokfjnbmncbaaDoor
