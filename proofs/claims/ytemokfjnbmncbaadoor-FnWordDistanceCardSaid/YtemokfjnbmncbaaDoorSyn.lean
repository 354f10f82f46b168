/-
  The four values of a word, the program's and the reference's.
-/
import Derived.Test.YtemokfjnbmncbaaDoorWord
import Derived.Laws.Rows
namespace Go.Proofs.YtemokfjnbmncbaaDoor
open Go.RowKit T

theorem zeroB_iff {xs : List Int} : (xs.all fun x => x == 0) = true ↔ ∀ k, k < xs.length → xs.getD k 0 = 0 := by
  rw [List.all_eq_true]
  constructor
  · intro h k hk; simpa using h _ (mem_getD hk)
  · intro h x hx
    obtain ⟨j, hj, rfl⟩ := List.getElem_of_mem hx
    have := h j hj
    simpa [List.getD, hj] using this
def zeroB (xs : List Int) : Bool := xs.all fun x => x == 0
theorem zeroB_no {xs : List Int} {k : Nat} (hk : k < xs.length) (h : xs.getD k 0 ≠ 0) : zeroB xs = false := by
  cases e : zeroB xs with
  | false => rfl
  | true => exact absurd (zeroB_iff.1 e k hk) h
theorem zeroB_all {xs : List Int} (h : ∀ k, k < xs.length → xs.getD k 0 = 0) : zeroB xs = true := zeroB_iff.2 h
theorem zeroB_syn {xs : List Int} (h : wOk xs = true) : zeroB (synL xs) = true ↔ T.Code (fnOf xs) := by
  rw [← syn_zero h]
  have hl : (synL xs).length = 4 := by rw [synL_yes h]; rfl
  constructor
  · intro e
    refine list_ext_getD (by rw [hl]; rfl) fun k hk => ?_
    rw [zeroB_iff.1 e k hk]
    rw [hl] at hk
    rcases (by omega : k = 0 ∨ k = 1 ∨ k = 2 ∨ k = 3) with rfl | rfl | rfl | rfl <;> rfl
  · intro e; rw [e]; rfl

set_option maxHeartbeats 400000 in
theorem l6Zero_c {C : Nat} {v : Value} {xs : List Int} (w : World) (h : Rd C w v xs) : Calls Tryd.prog 40 #[v] w fun e w' => e = .returned (.bool (zeroB xs)) ∧ w = w' := by
  obtain ⟨A, n, c, rfl, h⟩ := h
  have hlen := hid h.len
  have hm := h.sm
  go_enter Tryd.func40, Tryd.ntmps40
  go_wp2
  go_loop [3] (fun i => ∃ k : Nat, k ≤ n ∧ i = .int .i64 k ∧ Hid (∀ j, j < k → xs.getD j 0 = 0)) (fun i => n - (intOf i).toNat)
  case atStart => exact ⟨0, Nat.zero_le _, rfl, fun j hj => absurd hj (by omega)⟩
  case round =>
    obtain ⟨k, hk, rfl, hall⟩ := hrel
    by_cases hlt : k < n
    · obtain ⟨b, off, x, rfl, _, c1, hx⟩ := h.at_ hlt
      by_cases hb : x = 0
      · subst hb
        go_wp2
        go_round
        case rel =>
          refine ⟨k + 1, by omega, by go_num, fun j hj => ?_⟩
          by_cases h : j < k
          · exact hall.out j h
          · obtain rfl : j = k := by omega
            exact hx.out
        case measure => simp [intOf]; omega
      · have n1 : (x != 0) = true := by simpa using hb
        have HB := hid hb
        clear hb
        go_wp2
        go_ret
        exact ⟨ret_bool (zeroB_no (k := k) (by have := hlen.out; omega) (by rw [hx.out]; exact HB.out)).symm, rfl⟩
    · obtain rfl : k = n := by omega
      go_wp2
      go_ret
      exact ⟨ret_bool (zeroB_all fun j hj => hall.out j (by have := hlen.out; omega)).symm, rfl⟩

set_option maxHeartbeats 1000000 in
theorem specSyn_c {C : Nat} {v : Value} {xs : List Int} (w : World) (h : Rd C w v xs) (_ : C ≤ w.heap.size) :
    Calls Tryd.prog 19 #[v] w fun e w' => ∃ v', e = .returned v' ∧ Own w.heap.size w'.heap.size w' v' (synL xs) ∧ Below w.heap.size w w' := by
  have Q := l6Symbols_w w h
  cases s1 : wOk xs with
  | false =>
    have H := hid (synL_no s1)
    rw [s1] at Q
    have Q := hid Q
    have hE := Own.empty w
    have b1 := (Below.refl w.heap.size w).alloc (Nat.le_refl _) (.cells #[] 3)
    clear s1
    go_enter Tryd.func19, Tryd.ntmps19
    go_wp2_with fail
    refine Q.out.mono ?_
    rintro e w' ⟨rfl, rfl⟩
    go_wp2
    go_ret
    exact ⟨_, rfl, by rw [H.out]; exact hE.more (by simp), b1⟩
  | true =>
    have H := hid (synL_yes s1)
    have he := (wOk_iff.1 s1).1
    have hl := (wOk_iff.1 s1).2
    rw [s1] at Q
    have Q := hid Q
    have P : ∀ q, ∀ m, m < 4 → Calls Tryd.prog 37 #[v, .int .i64 (zr m : Nat)] (w.drewN q) fun e w' => e = .returned (.int .i64 (sy (fnOf xs) m : Nat)) ∧ ∃ q', w' = (w.drewN q).drewN q' := fun q m _ => by
      have := specPoly_c (zr m) (w.drewN q) (h.drewN q) he (by omega) (gp_lt _)
      rw [hl] at this
      exact this
    have P0 := hid (P 0 0 (by omega))
    have P1 := hid (fun q => P q 1 (by omega))
    have P2 := hid (fun q => P q 2 (by omega))
    have P3 := hid (fun q => P q 3 (by omega))
    have fin := hid (fun q => Own.made (n := 4) (w.drewN q) #[.int .i64 (sy (fnOf xs) 0 : Nat), .int .i64 (sy (fnOf xs) 1 : Nat), .int .i64 (sy (fnOf xs) 2 : Nat), .int .i64 (sy (fnOf xs) 3 : Nat)] (lsOf 4 (sy (fnOf xs))) rfl rfl (by omega))
    have bel := hid (fun q => (below_drewN (Below.refl w.heap.size w) q).alloc (Nat.le_refl _) (.cells #[.int .i64 (sy (fnOf xs) 0 : Nat), .int .i64 (sy (fnOf xs) 1 : Nat), .int .i64 (sy (fnOf xs) 2 : Nat), .int .i64 (sy (fnOf xs) 3 : Nat)] 3))
    clear s1 P he hl h
    go_enter Tryd.func19, Tryd.ntmps19
    go_wp2_with fail
    refine Q.out.mono ?_
    rintro e w' ⟨rfl, rfl⟩
    go_wp2_with fail
    refine P0.out.mono ?_
    rintro e w' ⟨rfl, q0, rfl⟩
    rw [drawn_add]
    go_wp2_with fail
    refine (P1.out _).mono ?_
    rintro e w' ⟨rfl, q1, rfl⟩
    rw [drawn_add]
    go_wp2_with fail
    refine (P2.out _).mono ?_
    rintro e w' ⟨rfl, q2, rfl⟩
    rw [drawn_add]
    go_wp2_with fail
    refine (P3.out _).mono ?_
    rintro e w' ⟨rfl, q3, rfl⟩
    rw [drawn_add]
    go_wp2
    go_ret
    refine ⟨_, rfl, ?_, bel.out _⟩
    rw [H.out]
    exact (fin.out _).more (by simp)

theorem zeros_idx : ∀ k < 4, ∀ w, (Instr.index 40 (.agg #[.int .i64 2, .int .i64 4, .int .i64 8, .int .i64 3]) (.int .i64 (k : Nat))).run Tryd.prog w = .ok (.int .i64 (zr k : Nat)) w := by
  intro k hk
  rcases (by omega : k = 0 ∨ k = 1 ∨ k = 2 ∨ k = 3) with rfl | rfl | rfl | rfl <;> intro w <;> kernel_rfl
theorem ls_snoc (n : Nat) (W : Nat → Nat) : lsOf n W ++ [(W n : Int)] = lsOf (n + 1) W := rg_snoc n fun k => (W k : Int)
set_option maxHeartbeats 1000000 in
theorem implSyn_c {C : Nat} {v : Value} {xs : List Int} (w : World) (T1 : TpowersOfTwo w) (T2 : Tlogarithms w) (T3 : TwordZeros w) (h : Rd C w v xs) (hC : C ≤ w.heap.size) :
    Calls Tryd.prog 20 #[v] w fun e w' => ∃ v', e = .returned v' ∧ Own w.heap.size w'.heap.size w' v' (synL xs) ∧ Below w.heap.size w w' := by
  have Q := isWord_c w h
  cases s1 : wOk xs with
  | false =>
    have H := hid (synL_no s1)
    rw [s1] at Q
    have Q := hid Q
    clear s1 T1 T2 T3
    go_enter Tryd.func20, Tryd.ntmps20
    go_wp2_with fail
    refine Q.out.mono ?_
    rintro e w' ⟨rfl, rfl⟩
    go_wp2
    go_ret
    exact ⟨_, rfl, by rw [H.out]; exact Own.nil _ _ _, Below.refl _ _⟩
  | true =>
    have H := hid (synL_yes s1)
    have he := hid (wOk_iff.1 s1).1
    have hl := hid (wOk_iff.1 s1).2
    rw [s1] at Q
    have Q := hid Q
    have l1 := T1.lt
    have l2 := T2.lt
    have l3 := T3.lt
    clear s1
    go_enter Tryd.func20, Tryd.ntmps20
    go_wp2_with fail
    refine Q.out.mono ?_
    rintro e w' ⟨rfl, rfl⟩
    go_wp2_with (first | (refine wpl_make0 intSl _ rfl (.const (.int .i64 0)) (.const (.int .i64 4)) rfl _ 4 rfl rfl rfl (by omega) ?_; intro w1 ho b1 hlt1; obtain ⟨tt, fr, hrow⟩ := T3.below b1 (by omega); have HR : Hid (w1.heap[1]? = some (.cells #[.int .i64 2, .int .i64 4, .int .i64 8, .int .i64 3] tt fr)) := hrow; clear hrow) | (refine wpList_load_row rfl 40 (.global 1) rfl 1 rfl tt _ fr _ HR.out Tryd.underlying40 rfl (by kernel_rfl) ?_))
    go_loopw [3, 5, 11] (fun o _ i wr => ∃ k : Nat, k ≤ 4 ∧ i = .int .i64 k ∧ Own w.heap.size wr.heap.size wr o (lsOf k (sy (fnOf xs))) ∧ Below w.heap.size w wr) (fun _ _ i _ => 4 - (intOf i).toNat)
    case atStart => exact ⟨0, by omega, rfl, ho, b1⟩
    case round =>
      obtain ⟨k, hk, rfl, ho, hb⟩ := hrel
      have hsz := hb.size
      by_cases hlt : k < 4
      · have ix := zeros_idx k hlt
        have P := implPoly_c (zr k) wr (h.below hb hC) he.out (by have := hl.out; omega) (gp_lt _) (T1.below hb (by omega)) (T2.below hb (by omega))
        rw [hl.out] at P
        have P := hid P
        have hs := hid (ls_snoc k (sy (fnOf xs)))
        go_wp2_with fail
        refine P.out.mono ?_
        rintro e w2 ⟨rfl, q, rfl⟩
        have ho2 := ho.drewN q
        have hb2 := below_drewN hb q
        clear ho hb P
        go_wp2_with (at_builtin; refine wpl_appl intSl _ rfl (.tmp 14) (.tmp 18) rfl w.heap.size wr.heap.size _ _ _ [(sy (fnOf xs) k : Nat)] 1 rfl rfl rfl rfl ho2 (Nat.le_refl _) (by rw [ls_length]; omega) hsz ?_; intro v' w6 ho6 g6)
        have hb6 := hb2.trans (below_of_own ho2 g6 (Nat.le_refl _) hsz)
        rw [hs.out] at ho6
        clear ho2 g6 hb2
        go_wp2
        go_roundw
        case rel => exact ⟨k + 1, by omega, by go_num, ho6, hb6⟩
        case measure => simp [intOf]; omega
      · obtain rfl : k = 4 := by omega
        go_wp2
        go_ret
        exact ⟨_, rfl, by rw [H.out]; exact ho, hb⟩

end Go.Proofs.YtemokfjnbmncbaaDoor
