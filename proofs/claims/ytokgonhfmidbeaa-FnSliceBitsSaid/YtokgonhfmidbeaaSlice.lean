/-
  SliceBits, of the program (by its three modulators) and of the reference.
-/
import Derived.Test.YtokgonhfmidbeaaSig
import Derived.Test.YtokgonhfmidbeaaStep
namespace Go.Proofs.Ytokgonhfmidbeaa
open Go.RowKit

/-- the bits of a level: one, or two -/
def lv1 (n : Int) : Int := if 0 < n then 1 else 0
def lv2 (n : Int) : List Int := if n < -2 then [0, 0] else if n ≤ 0 then [0, 1] else if n < 2 then [1, 1] else [1, 0]
def lv (m : Int) (n : Int) : List Int := if m = 1 then [lv1 n] else lv2 n
def smp (o : Int) (x y : Int) : List Int := if o = 1 then [lv1 x] else if o = 2 then [lv1 x, lv1 y] else lv2 x ++ lv2 y
def slTo (xs : List Int) (o : Int) : Nat → List Int
  | 0 => []
  | k + 1 => slTo xs o k ++ smp o (xs.getD (k * 2) 0) (xs.getD (k * 2 + 1) 0)
def ordOk (o : Int) : Bool := decide (o = 1) || decide (o = 2) || decide (o = 4)
theorem ordOk_iff {o : Int} : ordOk o = true ↔ o = 1 ∨ o = 2 ∨ o = 4 := by simp [ordOk, or_assoc]
def slOk (xs : List Int) (o : Int) : Bool := sigOk xs && ordOk o && decide ((xs.length / 2 : Nat) * o ≤ 1024)
def slc (xs : List Int) (o : Int) : List Int := if slOk xs o = true then slTo xs o (xs.length / 2) else []
theorem slc_yes {xs : List Int} {o : Int} (h : slOk xs o = true) : slc xs o = slTo xs o (xs.length / 2) := by simp [slc, h]
theorem slc_no {xs : List Int} {o : Int} (h : slOk xs o = false) : slc xs o = [] := by simp [slc, h]
theorem lv2_len (n : Int) : (lv2 n).length = 2 := by unfold lv2; split; rfl; split; rfl; split <;> rfl
theorem smp_len {o x y : Int} (h : ordOk o = true) : ((smp o x y).length : Int) = o := by
  rcases ordOk_iff.1 h with rfl | rfl | rfl
  · rfl
  · rfl
  · simp [smp, lv2_len]
theorem slTo_len {xs : List Int} {o : Int} (h : ordOk o = true) (k : Nat) : ((slTo xs o k).length : Int) = k * o := by
  induction k with
  | zero => simp [slTo]
  | succ k ih =>
    simp only [slTo, List.length_append]
    have := smp_len (x := xs.getD (k * 2) 0) (y := xs.getD (k * 2 + 1) 0) h
    push_cast
    rw [ih, this, Int.add_mul]; omega

/-! ### the program's modulators -/
theorem grown_tr {a b c : World} {row : Option Nat} (h : a.grownBy b row) (k : b.grownBy c row) : a.grownBy c row :=
  ⟨k.os.trans h.os, k.tape.trans h.tape, k.output.trans h.output, Nat.le_trans h.size k.size, fun i hi hne => (k.block i (Nat.lt_of_lt_of_le hi h.size) hne).trans (h.block i hi hne)⟩
theorem grown_tr2 {a b c : World} {row row2 : Option Nat} (h : a.grownBy b row) (k : b.grownBy c row2) (hr : row2 = row ∨ ∃ i, row2 = some i ∧ a.heap.size ≤ i) : a.grownBy c row := by
  rcases hr with rfl | ⟨i, rfl, hi⟩
  · exact grown_tr h k
  · exact ⟨k.os.trans h.os, k.tape.trans h.tape, k.output.trans h.output, Nat.le_trans h.size k.size, fun j hj hne => (k.block j (Nat.lt_of_lt_of_le hj h.size) (by simp; omega)).trans (h.block j hj hne)⟩
set_option maxHeartbeats 400000 in
theorem signBit_c (n : Int) (w : World) : Calls Try.prog 59 #[.int .i64 n] w fun e w' => e = .returned (.int .i64 (lv1 n)) ∧ w = w' := by
  by_cases h : 0 < n
  · have H := hid (show lv1 n = 1 by unfold lv1; rw [if_pos h])
    go_enter Try.func59, Try.ntmps59
    go_wp2
    go_ret
    exact ⟨ret_int H.out.symm, rfl⟩
  · have H := hid (show lv1 n = 0 by unfold lv1; rw [if_neg h])
    go_enter Try.func59, Try.ntmps59
    go_wp2
    go_ret
    exact ⟨ret_int H.out.symm, rfl⟩
/-- what appending a sample's bits leaves -/
def Appended (B : Nat) (w : World) (v : Value) (ys : List Int) (e : Ending) (w' : World) : Prop :=
  ∃ v', e = .returned v' ∧ Own B w'.heap.size w' v' ys ∧ w.grownBy w' v.ownBlock ∧ (v'.ownBlock = v.ownBlock ∨ ∃ k, v'.ownBlock = some k ∧ w.heap.size ≤ k)

theorem appended {B : Nat} {w W w' : World} {v v' : Value} {ys : List Int} (hW : w.grownBy W none) (ho : Own B w'.heap.size w' v' ys) (hg : W.grownBy w' v.ownBlock) (hp : v'.ownBlock = v.ownBlock ∨ v'.ownBlock = some (W.heap.size + 1)) :
    Appended B w v ys (.returned v') w' :=
  ⟨v', rfl, ho, ⟨hg.os.trans hW.os, hg.tape.trans hW.tape, hg.output.trans hW.output, Nat.le_trans hW.size hg.size, fun i hi hne => (hg.block i (Nat.lt_of_lt_of_le hi hW.size) hne).trans (hW.block i hi (by simp))⟩,
    hp.imp id fun e => ⟨_, e, by have := hW.size; omega⟩⟩
theorem grown_alloc0 {a b : World} {row : Option Nat} (h : a.grownBy b row) (o : Obj) : a.grownBy (b.alloc o) row := grown_tr h (World.grownBy_alloc b o row)

set_option maxHeartbeats 1000000 in
theorem one_c {B C : Nat} {v : Value} {xs : List Int} (x y : Int) (w : World) (h : Own B C w v xs) (hC : C ≤ w.heap.size) (hB : B ≤ w.heap.size) (hl : xs.length ≤ 4000000) :
    Calls Try.prog 57 #[.agg #[], v, .agg #[.int .i64 x, .int .i64 y]] w (Appended B w v (xs ++ smp 1 x y)) := by
  have h2 := (h.alloc hC (.cells #[] 62)).alloc (show C ≤ (w.alloc (.cells #[] 62)).heap.size by simp; omega) (.cells #[.int .i64 x, .int .i64 y] 35)
  have hW := grown_alloc0 (grown_alloc0 (World.grownBy.refl w none) (.cells #[] 62)) (.cells #[.int .i64 x, .int .i64 y] 35)
  have hS := hid (show smp 1 x y = [lv1 x] from rfl)
  clear h
  go_enter Try.func57, Try.ntmps57
  go_wp2_with (first | (go_at_call 59; (with_reducible refine (signBit_c _ _).mono ?_); rintro e w' ⟨rfl, rfl⟩) | (at_builtin; refine wpl_appl3 intSl _ rfl (.tmp 7) (.tmp 11) rfl B C _ _ _ [lv1 x] 1 rfl rfl rfl _ rfl (by simp) h2 (by simp; omega) (by omega) (by simp; omega) ?_; intro v' w2 ho2 hg2 hp2))
  go_ret
  rw [hS.out]
  exact appended hW ho2 hg2 hp2

set_option maxHeartbeats 1000000 in
theorem two_c {B C : Nat} {v : Value} {xs : List Int} (x y : Int) (w : World) (h : Own B C w v xs) (hC : C ≤ w.heap.size) (hB : B ≤ w.heap.size) (hl : xs.length ≤ 4000000) :
    Calls Try.prog 60 #[.agg #[], v, .agg #[.int .i64 x, .int .i64 y]] w (Appended B w v (xs ++ smp 2 x y)) := by
  have h2 := ((h.alloc hC (.cells #[] 63)).alloc (show C ≤ (w.alloc (.cells #[] 63)).heap.size by simp; omega) (.cells #[.int .i64 x, .int .i64 y] 35))
  have h3 : Own B C (((w.alloc (.cells #[] 63)).alloc (.cells #[.int .i64 x, .int .i64 y] 35)).alloc (.cells #[.int .i64 (lv1 x), .int .i64 (lv1 y)] 3)).drew v xs := (h2.alloc (by simp; omega) (.cells #[.int .i64 (lv1 x), .int .i64 (lv1 y)] 3)).drewN 1
  have hW : w.grownBy (((w.alloc (.cells #[] 63)).alloc (.cells #[.int .i64 x, .int .i64 y] 35)).alloc (.cells #[.int .i64 (lv1 x), .int .i64 (lv1 y)] 3)).drew none := grown_drewN (grown_alloc0 (grown_alloc0 (grown_alloc0 (World.grownBy.refl w none) (.cells #[] 63)) (.cells #[.int .i64 x, .int .i64 y] 35)) (.cells #[.int .i64 (lv1 x), .int .i64 (lv1 y)] 3)) 1
  have hS := hid (show smp 2 x y = [lv1 x, lv1 y] from rfl)
  have hR := Own.made ((w.alloc (.cells #[] 63)).alloc (.cells #[.int .i64 x, .int .i64 y] 35)) #[.int .i64 (lv1 x), .int .i64 (lv1 y)] [lv1 x, lv1 y] rfl rfl (by omega : 2 ≤ 4194304)
  have hR2 := (hR.drewN 1).rd
  simp only [World.size_alloc] at hR2
  clear h h2 hR
  go_enter Try.func60, Try.ntmps60
  go_wp2
  go_region_law (first | (refine step_app3 intSl rfl (.tmp 7) (.tmp 14) rfl B C _ v _ xs [lv1 x, lv1 y] rfl rfl h3 hR2 (by simp; omega) (by show B ≤ (World.alloc _ _).heap.size; simp; omega) ?_; intro v' w2 ho2 hg2 hp2) | (go_simp; go_at_call 59; (with_reducible refine (signBit_c _ _).mono ?_); rintro e w' ⟨rfl, rfl⟩))
  all_goals
    go_wp2
    go_ret
    rw [hS.out]
    exact ⟨v', rfl, ho2, ⟨hg2.os.trans hW.os, hg2.tape.trans hW.tape, hg2.output.trans hW.output, Nat.le_trans hW.size hg2.size, fun i hi hne => (hg2.block i (Nat.lt_of_lt_of_le hi hW.size) hne).trans (hW.block i hi (by simp))⟩,
      hp2.imp id fun e => ⟨_, e, hW.size⟩⟩

/-- one level's two bits, appended -/
theorem append_two {w W w' : World} {v v' v2 : Value} (hA : w.grownBy W v.ownBlock) (hp : v'.ownBlock = v.ownBlock ∨ ∃ k, v'.ownBlock = some k ∧ w.heap.size ≤ k)
    (hg : W.grownBy w' v'.ownBlock) (hp2 : v2.ownBlock = v'.ownBlock ∨ ∃ k, v2.ownBlock = some k ∧ w.heap.size ≤ k) : w.grownBy w' v.ownBlock ∧ (v2.ownBlock = v.ownBlock ∨ ∃ k, v2.ownBlock = some k ∧ w.heap.size ≤ k) := by
  refine ⟨grown_tr2 hA hg hp, ?_⟩
  rcases hp2 with e | e
  · rcases hp with e2 | ⟨k, e2, hk⟩
    · exact .inl (e.trans e2)
    · exact .inr ⟨k, e.trans e2, hk⟩
  · exact .inr e
set_option maxHeartbeats 2000000 in
theorem four_c {B C : Nat} {v : Value} {xs : List Int} (x y : Int) (w : World) (h : Own B C w v xs) (hC : C ≤ w.heap.size) (hB : B ≤ w.heap.size) (hl : xs.length ≤ 4000000) :
    Calls Try.prog 62 #[.agg #[], v, .agg #[.int .i64 x, .int .i64 y]] w (Appended B w v (xs ++ smp 4 x y)) := by
  have h2 := ((h.alloc hC (.cells #[] 64)).alloc (show C ≤ (w.alloc (.cells #[] 64)).heap.size by simp; omega) (.cells #[.int .i64 x, .int .i64 y] 35))
  have hW := grown_alloc0 (grown_alloc0 (World.grownBy.refl w v.ownBlock) (.cells #[] 64)) (.cells #[.int .i64 x, .int .i64 y] 35)
  have hS := hid (show xs ++ smp 4 x y = xs ++ lv2 x ++ lv2 y by rw [List.append_assoc]; rfl)
  clear h
  have L1 := lv2_len x
  have j0 : ∀ w, (Instr.index 82 (.agg #[.int .i64 x, .int .i64 y]) (.int .i64 0)).run Try.prog w = .ok (.int .i64 x) w := fun _ => by kernel_rfl
  have j1 : ∀ w, (Instr.index 82 (.agg #[.int .i64 x, .int .i64 y]) (.int .i64 1)).run Try.prog w = .ok (.int .i64 y) w := fun _ => by kernel_rfl
  go_enter Try.func62, Try.ntmps62
  go_wp2
  go_loopw [1, 14] (fun cu i wr => ∃ j : Nat, j ≤ 2 ∧ i = .int .i64 j ∧ Own B wr.heap.size wr cu (if j = 0 then xs else if j = 1 then xs ++ lv2 x else xs ++ lv2 x ++ lv2 y) ∧ w.grownBy wr v.ownBlock ∧ Hid (cu.ownBlock = v.ownBlock ∨ ∃ k, cu.ownBlock = some k ∧ w.heap.size ≤ k)) (fun _ i _ => 2 - (intOf i).toNat)
  case atStart => exact ⟨0, Nat.zero_le _, rfl, by rw [if_pos rfl]; exact h2.more (by simp; omega), hW, .inl rfl⟩
  case round =>
    obtain ⟨j, hj, rfl, ho, hg, hp⟩ := hrel
    clear h2 hW
    have hsz := hg.size
    rcases (by omega : j = 0 ∨ j = 1 ∨ j = 2) with rfl | rfl | rfl
    · rw [if_pos rfl] at ho
      by_cases q1 : x < -2
      · have E := hid (show lv2 x = [0, 0] by unfold lv2; rw [if_pos q1])
        go_wp2_with (at_builtin; refine wpl_appl3 intSl _ rfl (.tmp 23) (.tmp 24) rfl B wr.heap.size _ _ _ [0, 0] 2 rfl rfl rfl _ rfl rfl ho (Nat.le_refl _) (by omega) (by omega) ?_; intro v' w2 ho2 hg2 hp2)
        have hq := append_two hg hp.out hg2 (hp2.imp id fun e => ⟨_, e, by omega⟩)
        obtain ⟨hg3, hp3⟩ := hq
        have HP3 := hid hp3
        rw [← E.out] at ho2
        clear ho hg hp hg2 hp2 hp3
        go_wp2
        go_roundw
        case rel => exact ⟨1, by omega, rfl, by first | exact ho2 | (rw [HYS.out]; exact ho2), hg3, HP3⟩
        case measure => simp [intOf]
      by_cases q2 : x ≤ 0
      · have E := hid (show lv2 x = [0, 1] by unfold lv2; rw [if_neg q1, if_pos q2])
        go_wp2_with (at_builtin; refine wpl_appl3 intSl _ rfl (.tmp 29) (.tmp 30) rfl B wr.heap.size _ _ _ [0, 1] 2 rfl rfl rfl _ rfl rfl ho (Nat.le_refl _) (by omega) (by omega) ?_; intro v' w2 ho2 hg2 hp2)
        have hq := append_two hg hp.out hg2 (hp2.imp id fun e => ⟨_, e, by omega⟩)
        obtain ⟨hg3, hp3⟩ := hq
        have HP3 := hid hp3
        rw [← E.out] at ho2
        clear ho hg hp hg2 hp2 hp3
        go_wp2
        go_roundw
        case rel => exact ⟨1, by omega, rfl, by first | exact ho2 | (rw [HYS.out]; exact ho2), hg3, HP3⟩
        case measure => simp [intOf]
      by_cases q3 : x < 2
      · have E := hid (show lv2 x = [1, 1] by unfold lv2; rw [if_neg q1, if_neg q2, if_pos q3])
        go_wp2_with (at_builtin; refine wpl_appl3 intSl _ rfl (.tmp 35) (.tmp 36) rfl B wr.heap.size _ _ _ [1, 1] 2 rfl rfl rfl _ rfl rfl ho (Nat.le_refl _) (by omega) (by omega) ?_; intro v' w2 ho2 hg2 hp2)
        have hq := append_two hg hp.out hg2 (hp2.imp id fun e => ⟨_, e, by omega⟩)
        obtain ⟨hg3, hp3⟩ := hq
        have HP3 := hid hp3
        rw [← E.out] at ho2
        clear ho hg hp hg2 hp2 hp3
        go_wp2
        go_roundw
        case rel => exact ⟨1, by omega, rfl, by first | exact ho2 | (rw [HYS.out]; exact ho2), hg3, HP3⟩
        case measure => simp [intOf]
      have E := hid (show lv2 x = [1, 0] by unfold lv2; rw [if_neg q1, if_neg q2, if_neg q3])
      go_wp2_with (at_builtin; refine wpl_appl3 intSl _ rfl (.tmp 17) (.tmp 18) rfl B wr.heap.size _ _ _ [1, 0] 2 rfl rfl rfl _ rfl rfl ho (Nat.le_refl _) (by omega) (by omega) ?_; intro v' w2 ho2 hg2 hp2)
      have hq := append_two hg hp.out hg2 (hp2.imp id fun e => ⟨_, e, by omega⟩)
      obtain ⟨hg3, hp3⟩ := hq
      have HP3 := hid hp3
      rw [← E.out] at ho2
      clear ho hg hp hg2 hp2 hp3
      go_wp2
      go_roundw
      case rel => exact ⟨1, by omega, rfl, by first | exact ho2 | (rw [HYS.out]; exact ho2), hg3, HP3⟩
      case measure => simp [intOf]
    · rw [if_neg (by omega), if_pos rfl] at ho
      have hl2 : (xs ++ lv2 x).length ≤ 4000002 := by rw [List.length_append, L1]; omega
      generalize hys : xs ++ lv2 x = ys at ho hl2 hS ⊢
      have HYS := hid hys
      clear hys
      by_cases q1 : y < -2
      · have E := hid (show lv2 y = [0, 0] by unfold lv2; rw [if_pos q1])
        go_wp2_with (at_builtin; refine wpl_appl3 intSl _ rfl (.tmp 23) (.tmp 24) rfl B wr.heap.size _ _ _ [0, 0] 2 rfl rfl rfl _ rfl rfl ho (Nat.le_refl _) (by omega) (by omega) ?_; intro v' w2 ho2 hg2 hp2)
        have hq := append_two hg hp.out hg2 (hp2.imp id fun e => ⟨_, e, by omega⟩)
        obtain ⟨hg3, hp3⟩ := hq
        have HP3 := hid hp3
        rw [← E.out] at ho2
        clear ho hg hp hg2 hp2 hp3
        go_wp2
        go_roundw
        case rel => exact ⟨2, by omega, rfl, by first | exact ho2 | (rw [HYS.out]; exact ho2), hg3, HP3⟩
        case measure => simp [intOf]
      by_cases q2 : y ≤ 0
      · have E := hid (show lv2 y = [0, 1] by unfold lv2; rw [if_neg q1, if_pos q2])
        go_wp2_with (at_builtin; refine wpl_appl3 intSl _ rfl (.tmp 29) (.tmp 30) rfl B wr.heap.size _ _ _ [0, 1] 2 rfl rfl rfl _ rfl rfl ho (Nat.le_refl _) (by omega) (by omega) ?_; intro v' w2 ho2 hg2 hp2)
        have hq := append_two hg hp.out hg2 (hp2.imp id fun e => ⟨_, e, by omega⟩)
        obtain ⟨hg3, hp3⟩ := hq
        have HP3 := hid hp3
        rw [← E.out] at ho2
        clear ho hg hp hg2 hp2 hp3
        go_wp2
        go_roundw
        case rel => exact ⟨2, by omega, rfl, by first | exact ho2 | (rw [HYS.out]; exact ho2), hg3, HP3⟩
        case measure => simp [intOf]
      by_cases q3 : y < 2
      · have E := hid (show lv2 y = [1, 1] by unfold lv2; rw [if_neg q1, if_neg q2, if_pos q3])
        go_wp2_with (at_builtin; refine wpl_appl3 intSl _ rfl (.tmp 35) (.tmp 36) rfl B wr.heap.size _ _ _ [1, 1] 2 rfl rfl rfl _ rfl rfl ho (Nat.le_refl _) (by omega) (by omega) ?_; intro v' w2 ho2 hg2 hp2)
        have hq := append_two hg hp.out hg2 (hp2.imp id fun e => ⟨_, e, by omega⟩)
        obtain ⟨hg3, hp3⟩ := hq
        have HP3 := hid hp3
        rw [← E.out] at ho2
        clear ho hg hp hg2 hp2 hp3
        go_wp2
        go_roundw
        case rel => exact ⟨2, by omega, rfl, by first | exact ho2 | (rw [HYS.out]; exact ho2), hg3, HP3⟩
        case measure => simp [intOf]
      have E := hid (show lv2 y = [1, 0] by unfold lv2; rw [if_neg q1, if_neg q2, if_neg q3])
      go_wp2_with (at_builtin; refine wpl_appl3 intSl _ rfl (.tmp 17) (.tmp 18) rfl B wr.heap.size _ _ _ [1, 0] 2 rfl rfl rfl _ rfl rfl ho (Nat.le_refl _) (by omega) (by omega) ?_; intro v' w2 ho2 hg2 hp2)
      have hq := append_two hg hp.out hg2 (hp2.imp id fun e => ⟨_, e, by omega⟩)
      obtain ⟨hg3, hp3⟩ := hq
      have HP3 := hid hp3
      rw [← E.out] at ho2
      clear ho hg hp hg2 hp2 hp3
      go_wp2
      go_roundw
      case rel => exact ⟨2, by omega, rfl, by first | exact ho2 | (rw [HYS.out]; exact ho2), hg3, HP3⟩
      case measure => simp [intOf]
    · rw [if_neg (by omega), if_neg (by omega)] at ho
      go_wp2
      go_ret
      exact ⟨_, rfl, by rw [hS.out]; exact ho, hg, hp.out⟩

set_option maxHeartbeats 1000000 in
theorem modOf_c (o : Int) (w : World) : Calls Try.prog 33 #[.int .i64 o] w fun e w' => e = .returned (if o = 1 then .iface 62 (.agg #[]) else if o = 2 then .iface 63 (.agg #[]) else if o = 4 then .iface 64 (.agg #[]) else .nilIface) ∧ w = w' := by
  by_cases h1 : o = 1
  · subst h1
    go_enter Try.func33, Try.ntmps33
    go_wp2
    go_ret
    exact ⟨rfl, rfl⟩
  by_cases h2 : o = 2
  · subst h2
    go_enter Try.func33, Try.ntmps33
    go_wp2
    go_ret
    exact ⟨rfl, rfl⟩
  by_cases h4 : o = 4
  · subst h4
    go_enter Try.func33, Try.ntmps33
    go_wp2
    go_ret
    exact ⟨rfl, rfl⟩
  rw [if_neg h1, if_neg h2, if_neg h4]
  have q1 : (o == 1) = false := by simpa using h1
  have q2 : (o == 2) = false := by simpa using h2
  have q4 : (o == 4) = false := by simpa using h4
  clear h1 h2 h4
  go_enter Try.func33, Try.ntmps33
  go_wp2
  go_ret
  exact ⟨rfl, rfl⟩

/-! ### the program's SliceBits -/
theorem nil1 (w : World) : (binOp .eql 53 (.iface 62 (.agg #[])) .nilIface).run Try.prog w = .ok (.bool false) w := by kernel_rfl
theorem nil2 (w : World) : (binOp .eql 53 (.iface 63 (.agg #[])) .nilIface).run Try.prog w = .ok (.bool false) w := by kernel_rfl
theorem nil4 (w : World) : (binOp .eql 53 (.iface 64 (.agg #[])) .nilIface).run Try.prog w = .ok (.bool false) w := by kernel_rfl
theorem nil0 (w : World) : (binOp .eql 53 .nilIface .nilIface).run Try.prog w = .ok (.bool true) w := by kernel_rfl

theorem meth1 (w : World) : (method 195 62 (.agg #[]) "loop.example/softwareradio/impl.appendBits").run Try.prog w = .ok (57, .agg #[]) w := by kernel_rfl
theorem meth2 (w : World) : (method 195 63 (.agg #[]) "loop.example/softwareradio/impl.appendBits").run Try.prog w = .ok (60, .agg #[]) w := by kernel_rfl
theorem meth4 (w : World) : (method 195 64 (.agg #[]) "loop.example/softwareradio/impl.appendBits").run Try.prog w = .ok (62, .agg #[]) w := by kernel_rfl
set_option maxHeartbeats 2000000 in
theorem implSlice_1 {C : Nat} {v : Value} {xs : List Int} (w : World) (h : RdM C w v xs) (hC : C ≤ w.heap.size) :
    Calls Try.prog 16 #[v, .int .i64 1] w fun e w' => ∃ v', e = .returned v' ∧ Own w.heap.size w'.heap.size w' v' (slc xs 1) ∧ Below w.heap.size w w' := by
  have HC := implSig_c w h hC
  have HM := hid (modOf_c 1 w)
  have n1 := nil1
  have hmt := meth1
  by_cases hs : sigOk xs = true
  case neg =>
    have hs' : sigOk xs = false := by simpa using hs
    have H := hid (slc_no (xs := xs) (o := 1) (by simp [slOk, hs']))
    rw [hs'] at HC
    have HC := hid HC
    clear hs hs' h
    go_enter Try.func16, Try.ntmps16
    go_wp2_with (first | (go_at_call 33; (with_reducible refine HM.out.mono ?_); rintro e w' ⟨rfl, rfl⟩) | (go_at_call 30; (with_reducible refine HC.out.mono ?_); rintro e w1 ⟨rfl, b1⟩))
    go_ret
    exact ⟨_, rfl, by rw [H.out]; exact Own.nil _ _ _, b1⟩
  rw [hs] at HC
  have HC := hid HC
  have HS := hid hs
  have hl := (sigOk_iff.1 hs).2
  obtain ⟨A, n, c, rfl, h⟩ := h
  have hlen := hid h.len
  have hn : n ≤ 256 := by have := h.len; omega
  have hn2 : xs.length / 2 = n := by have := h.len; omega
  have H := hid (slc_yes (xs := xs) (o := 1) (by simp [slOk, hs, ordOk, hn2]; omega))
  rw [hn2] at H
  clear hs hl hn2
  obtain ⟨MC, hMC⟩ : ∃ MC, MC = madeCells #[Value.int .i64 0] (n) := ⟨_, rfl⟩
  have hmk : ∀ W : World, (Instr.makeSlice 23 (.int .i64 0) (.int .i64 ((n : Int)))).run Try.prog W = .ok (.slice (some ⟨W.heap.size, 0, none⟩) 0 (n)) (W.alloc (.cells MC 3)) := by
    intro W
    rw [hMC]
    exact run_mk intSl 0 ((n : Int)) 0 (n) rfl (by omega) (by omega) (by omega) W
  have hms := hid (show MC.size = n by rw [hMC]; exact size_madeCells _ _)
  clear hMC
  go_enter Try.func16, Try.ntmps16
  go_wp2_with (first | (go_at_call 33; (with_reducible refine HM.out.mono ?_); rintro e w' ⟨rfl, rfl⟩) | (go_at_call 30; (with_reducible refine HC.out.mono ?_); rintro e w1 ⟨rfl, b1⟩))
  have t1 := b1.size
  have hown := (Own.made0 w1 MC (n) hms.out (by omega)).less t1
  have hbel := b1.alloc t1 (.cells MC 3)
  clear hmk b1
  go_loopw [6, 32] (fun out i wr => ∃ k : Nat, k ≤ n ∧ i = .int .i64 k ∧ Own w.heap.size wr.heap.size wr out (slTo xs 1 k) ∧ Below w.heap.size w wr) (fun _ i _ => n - (intOf i).toNat)
  case atStart => exact ⟨0, Nat.zero_le _, rfl, hown.more (by simp), hbel⟩
  case round =>
    obtain ⟨k, hk, rfl, ho, hb⟩ := hrel
    clear hown hbel
    have hsz := hb.size
    by_cases hlt : k < n
    case neg =>
      obtain rfl : k = n := by omega
      go_wp2
      go_ret
      exact ⟨_, rfl, by rw [H.out]; exact ho, hb⟩
    obtain ⟨b, off, x, y, rfl, _, hc1, hc2, hx, hy⟩ := h.at_ hlt
    have c1 := (hb.cell (p := ⟨b, off + k * 2, none⟩) (by simp; omega)).trans hc1
    have c2 := (hb.cell (p := ⟨b, off + k * 2 + 1, none⟩) (by simp; omega)).trans hc2
    have hnx := hid (show slTo xs 1 (k + 1) = slTo xs 1 k ++ smp 1 x y by rw [← hx.out, ← hy.out]; rfl)
    clear hc1 hc2 hx hy
    have hb1 := hb.alloc hsz (.cells #[.int .i64 x, .int .i64 y] 35)
    have ho1 := ho.alloc (Nat.le_refl _) (.cells #[.int .i64 x, .int .i64 y] 35)
    have hlen2 := hid (slTo_len (xs := xs) (o := 1) rfl k)
    have HA := hid (one_c x y (wr.alloc (.cells #[.int .i64 x, .int .i64 y] 35)) ho1 (by simp) (by simp; omega) (by have := hlen2.out; omega))
    clear ho hb
    go_wp2_with fail
    refine HA.out.mono ?_
    rintro e w2 ⟨v2, rfl, o2, g2, _⟩
    rw [← hnx.out] at o2
    have hb2 := hb1.grown g2 (by simp; omega) (fun q hq => (ho1.lt q hq).1)
    clear HA ho1 hb1 g2
    go_wp2
    go_roundw
    case rel => exact ⟨k + 1, by omega, by go_num, o2, hb2⟩
    case measure => simp [intOf]; omega
set_option maxHeartbeats 2000000 in
theorem implSlice_2 {C : Nat} {v : Value} {xs : List Int} (w : World) (h : RdM C w v xs) (hC : C ≤ w.heap.size) :
    Calls Try.prog 16 #[v, .int .i64 2] w fun e w' => ∃ v', e = .returned v' ∧ Own w.heap.size w'.heap.size w' v' (slc xs 2) ∧ Below w.heap.size w w' := by
  have HC := implSig_c w h hC
  have HM := hid (modOf_c 2 w)
  have n1 := nil2
  have hmt := meth2
  by_cases hs : sigOk xs = true
  case neg =>
    have hs' : sigOk xs = false := by simpa using hs
    have H := hid (slc_no (xs := xs) (o := 2) (by simp [slOk, hs']))
    rw [hs'] at HC
    have HC := hid HC
    clear hs hs' h
    go_enter Try.func16, Try.ntmps16
    go_wp2_with (first | (go_at_call 33; (with_reducible refine HM.out.mono ?_); rintro e w' ⟨rfl, rfl⟩) | (go_at_call 30; (with_reducible refine HC.out.mono ?_); rintro e w1 ⟨rfl, b1⟩))
    go_ret
    exact ⟨_, rfl, by rw [H.out]; exact Own.nil _ _ _, b1⟩
  rw [hs] at HC
  have HC := hid HC
  have HS := hid hs
  have hl := (sigOk_iff.1 hs).2
  obtain ⟨A, n, c, rfl, h⟩ := h
  have hlen := hid h.len
  have hn : n ≤ 256 := by have := h.len; omega
  have hn2 : xs.length / 2 = n := by have := h.len; omega
  have H := hid (slc_yes (xs := xs) (o := 2) (by simp [slOk, hs, ordOk, hn2]; omega))
  rw [hn2] at H
  clear hs hl hn2
  obtain ⟨MC, hMC⟩ : ∃ MC, MC = madeCells #[Value.int .i64 0] (n * 2) := ⟨_, rfl⟩
  have hmk : ∀ W : World, (Instr.makeSlice 23 (.int .i64 0) (.int .i64 ((n : Int) * 2))).run Try.prog W = .ok (.slice (some ⟨W.heap.size, 0, none⟩) 0 (n * 2)) (W.alloc (.cells MC 3)) := by
    intro W
    rw [hMC]
    exact run_mk intSl 0 ((n : Int) * 2) 0 (n * 2) rfl (by omega) (by omega) (by omega) W
  have hms := hid (show MC.size = n * 2 by rw [hMC]; exact size_madeCells _ _)
  clear hMC
  go_enter Try.func16, Try.ntmps16
  go_wp2_with (first | (go_at_call 33; (with_reducible refine HM.out.mono ?_); rintro e w' ⟨rfl, rfl⟩) | (go_at_call 30; (with_reducible refine HC.out.mono ?_); rintro e w1 ⟨rfl, b1⟩))
  have t1 := b1.size
  have hown := (Own.made0 w1 MC (n * 2) hms.out (by omega)).less t1
  have hbel := b1.alloc t1 (.cells MC 3)
  clear hmk b1
  go_loopw [6, 32] (fun out i wr => ∃ k : Nat, k ≤ n ∧ i = .int .i64 k ∧ Own w.heap.size wr.heap.size wr out (slTo xs 2 k) ∧ Below w.heap.size w wr) (fun _ i _ => n - (intOf i).toNat)
  case atStart => exact ⟨0, Nat.zero_le _, rfl, hown.more (by simp), hbel⟩
  case round =>
    obtain ⟨k, hk, rfl, ho, hb⟩ := hrel
    clear hown hbel
    have hsz := hb.size
    by_cases hlt : k < n
    case neg =>
      obtain rfl : k = n := by omega
      go_wp2
      go_ret
      exact ⟨_, rfl, by rw [H.out]; exact ho, hb⟩
    obtain ⟨b, off, x, y, rfl, _, hc1, hc2, hx, hy⟩ := h.at_ hlt
    have c1 := (hb.cell (p := ⟨b, off + k * 2, none⟩) (by simp; omega)).trans hc1
    have c2 := (hb.cell (p := ⟨b, off + k * 2 + 1, none⟩) (by simp; omega)).trans hc2
    have hnx := hid (show slTo xs 2 (k + 1) = slTo xs 2 k ++ smp 2 x y by rw [← hx.out, ← hy.out]; rfl)
    clear hc1 hc2 hx hy
    have hb1 := hb.alloc hsz (.cells #[.int .i64 x, .int .i64 y] 35)
    have ho1 := ho.alloc (Nat.le_refl _) (.cells #[.int .i64 x, .int .i64 y] 35)
    have hlen2 := hid (slTo_len (xs := xs) (o := 2) rfl k)
    have HA := hid (two_c x y (wr.alloc (.cells #[.int .i64 x, .int .i64 y] 35)) ho1 (by simp) (by simp; omega) (by have := hlen2.out; omega))
    clear ho hb
    go_wp2_with fail
    refine HA.out.mono ?_
    rintro e w2 ⟨v2, rfl, o2, g2, _⟩
    rw [← hnx.out] at o2
    have hb2 := hb1.grown g2 (by simp; omega) (fun q hq => (ho1.lt q hq).1)
    clear HA ho1 hb1 g2
    go_wp2
    go_roundw
    case rel => exact ⟨k + 1, by omega, by go_num, o2, hb2⟩
    case measure => simp [intOf]; omega
set_option maxHeartbeats 2000000 in
theorem implSlice_4 {C : Nat} {v : Value} {xs : List Int} (w : World) (h : RdM C w v xs) (hC : C ≤ w.heap.size) :
    Calls Try.prog 16 #[v, .int .i64 4] w fun e w' => ∃ v', e = .returned v' ∧ Own w.heap.size w'.heap.size w' v' (slc xs 4) ∧ Below w.heap.size w w' := by
  have HC := implSig_c w h hC
  have HM := hid (modOf_c 4 w)
  have n1 := nil4
  have hmt := meth4
  by_cases hs : sigOk xs = true
  case neg =>
    have hs' : sigOk xs = false := by simpa using hs
    have H := hid (slc_no (xs := xs) (o := 4) (by simp [slOk, hs']))
    rw [hs'] at HC
    have HC := hid HC
    clear hs hs' h
    go_enter Try.func16, Try.ntmps16
    go_wp2_with (first | (go_at_call 33; (with_reducible refine HM.out.mono ?_); rintro e w' ⟨rfl, rfl⟩) | (go_at_call 30; (with_reducible refine HC.out.mono ?_); rintro e w1 ⟨rfl, b1⟩))
    go_ret
    exact ⟨_, rfl, by rw [H.out]; exact Own.nil _ _ _, b1⟩
  rw [hs] at HC
  have HC := hid HC
  have HS := hid hs
  have hl := (sigOk_iff.1 hs).2
  obtain ⟨A, n, c, rfl, h⟩ := h
  have hlen := hid h.len
  have hn : n ≤ 256 := by have := h.len; omega
  have hn2 : xs.length / 2 = n := by have := h.len; omega
  have H := hid (slc_yes (xs := xs) (o := 4) (by simp [slOk, hs, ordOk, hn2]; omega))
  rw [hn2] at H
  clear hs hl hn2
  obtain ⟨MC, hMC⟩ : ∃ MC, MC = madeCells #[Value.int .i64 0] (n * 4) := ⟨_, rfl⟩
  have hmk : ∀ W : World, (Instr.makeSlice 23 (.int .i64 0) (.int .i64 ((n : Int) * 4))).run Try.prog W = .ok (.slice (some ⟨W.heap.size, 0, none⟩) 0 (n * 4)) (W.alloc (.cells MC 3)) := by
    intro W
    rw [hMC]
    exact run_mk intSl 0 ((n : Int) * 4) 0 (n * 4) rfl (by omega) (by omega) (by omega) W
  have hms := hid (show MC.size = n * 4 by rw [hMC]; exact size_madeCells _ _)
  clear hMC
  go_enter Try.func16, Try.ntmps16
  go_wp2_with (first | (go_at_call 33; (with_reducible refine HM.out.mono ?_); rintro e w' ⟨rfl, rfl⟩) | (go_at_call 30; (with_reducible refine HC.out.mono ?_); rintro e w1 ⟨rfl, b1⟩))
  have t1 := b1.size
  have hown := (Own.made0 w1 MC (n * 4) hms.out (by omega)).less t1
  have hbel := b1.alloc t1 (.cells MC 3)
  clear hmk b1
  go_loopw [6, 32] (fun out i wr => ∃ k : Nat, k ≤ n ∧ i = .int .i64 k ∧ Own w.heap.size wr.heap.size wr out (slTo xs 4 k) ∧ Below w.heap.size w wr) (fun _ i _ => n - (intOf i).toNat)
  case atStart => exact ⟨0, Nat.zero_le _, rfl, hown.more (by simp), hbel⟩
  case round =>
    obtain ⟨k, hk, rfl, ho, hb⟩ := hrel
    clear hown hbel
    have hsz := hb.size
    by_cases hlt : k < n
    case neg =>
      obtain rfl : k = n := by omega
      go_wp2
      go_ret
      exact ⟨_, rfl, by rw [H.out]; exact ho, hb⟩
    obtain ⟨b, off, x, y, rfl, _, hc1, hc2, hx, hy⟩ := h.at_ hlt
    have c1 := (hb.cell (p := ⟨b, off + k * 2, none⟩) (by simp; omega)).trans hc1
    have c2 := (hb.cell (p := ⟨b, off + k * 2 + 1, none⟩) (by simp; omega)).trans hc2
    have hnx := hid (show slTo xs 4 (k + 1) = slTo xs 4 k ++ smp 4 x y by rw [← hx.out, ← hy.out]; rfl)
    clear hc1 hc2 hx hy
    have hb1 := hb.alloc hsz (.cells #[.int .i64 x, .int .i64 y] 35)
    have ho1 := ho.alloc (Nat.le_refl _) (.cells #[.int .i64 x, .int .i64 y] 35)
    have hlen2 := hid (slTo_len (xs := xs) (o := 4) rfl k)
    have HA := hid (four_c x y (wr.alloc (.cells #[.int .i64 x, .int .i64 y] 35)) ho1 (by simp) (by simp; omega) (by have := hlen2.out; omega))
    clear ho hb
    go_wp2_with fail
    refine HA.out.mono ?_
    rintro e w2 ⟨v2, rfl, o2, g2, _⟩
    rw [← hnx.out] at o2
    have hb2 := hb1.grown g2 (by simp; omega) (fun q hq => (ho1.lt q hq).1)
    clear HA ho1 hb1 g2
    go_wp2
    go_roundw
    case rel => exact ⟨k + 1, by omega, by go_num, o2, hb2⟩
    case measure => simp [intOf]; omega

theorem implSlice_c {C : Nat} {v : Value} {xs : List Int} (w : World) (o : Int) (h : RdM C w v xs) (hC : C ≤ w.heap.size) :
    Calls Try.prog 16 #[v, .int .i64 o] w fun e w' => ∃ v', e = .returned v' ∧ Own w.heap.size w'.heap.size w' v' (slc xs o) ∧ Below w.heap.size w w' := by
  by_cases h1 : o = 1
  · subst h1; exact implSlice_1 w h hC
  by_cases h2 : o = 2
  · subst h2; exact implSlice_2 w h hC
  by_cases h4 : o = 4
  · subst h4; exact implSlice_4 w h hC
  have H := hid (slc_no (xs := xs) (o := o) (by simp [slOk, ordOk, h1, h2, h4]))
  have HM := modOf_c o w
  rw [if_neg h1, if_neg h2, if_neg h4] at HM
  have HM := hid HM
  have n0 := nil0
  clear h1 h2 h4 h
  go_enter Try.func16, Try.ntmps16
  go_wp2_with (go_at_call 33; (with_reducible refine HM.out.mono ?_); rintro e w' ⟨rfl, rfl⟩)
  go_ret
  exact ⟨_, rfl, by rw [H.out]; exact Own.nil _ _ _, Below.refl _ _⟩

/-! ### the reference's SliceBits -/
set_option maxHeartbeats 1000000 in
theorem l9Slice_c (n m : Int) (w : World) (hm : m = 1 ∨ m = 2) :
    Calls Try.prog 35 #[.int .i64 n, .int .i64 m] w fun e w' => ∃ v', e = .returned v' ∧ Own w.heap.size w'.heap.size w' v' (lv m n) ∧ Below w.heap.size w w' := by
  have fin : ∀ (cs : Array Value) (ys : List Int) (k : Nat), cs.toList = ys.map (Value.int .i64) → ys.length = k → k ≤ 4194304 → lv m n = ys → ∃ v', Ending.returned (.slice (some ⟨w.heap.size, 0, none⟩) k k) = .returned v' ∧ Own w.heap.size (w.alloc (.cells cs 3)).heap.size (w.alloc (.cells cs 3)) v' (lv m n) ∧ Below w.heap.size w (w.alloc (.cells cs 3)) := by
    intro cs ys k h1 h2 h3 h4
    exact ⟨_, rfl, by rw [h4]; exact (Own.made w cs ys h1 h2 h3).more (by simp), (Below.refl _ _).alloc (Nat.le_refl _) _⟩
  have F := hid fin
  clear fin
  rcases hm with rfl | rfl
  · have e1 : lv 1 n = [lv1 n] := rfl
    by_cases h : 0 < n
    · have E := hid (show lv 1 n = [1] by rw [e1]; unfold lv1; rw [if_pos h])
      clear e1
      go_enter Try.func35, Try.ntmps35
      go_wp2
      go_ret
      exact F.out _ [1] 1 rfl rfl (by omega) E.out
    · have E := hid (show lv 1 n = [0] by rw [e1]; unfold lv1; rw [if_neg h])
      clear e1
      go_enter Try.func35, Try.ntmps35
      go_wp2
      go_ret
      exact F.out _ [0] 1 rfl rfl (by omega) E.out
  · have e1 : lv 2 n = lv2 n := rfl
    by_cases q1 : n < -2
    · have E := hid (show lv 2 n = [0, 0] by rw [e1]; unfold lv2; rw [if_pos q1])
      clear e1
      go_enter Try.func35, Try.ntmps35
      go_wp2
      go_ret
      exact F.out _ [0, 0] 2 rfl rfl (by omega) E.out
    by_cases q2 : n ≤ 0
    · have E := hid (show lv 2 n = [0, 1] by rw [e1]; unfold lv2; rw [if_neg q1, if_pos q2])
      clear e1
      go_enter Try.func35, Try.ntmps35
      go_wp2
      go_ret
      exact F.out _ [0, 1] 2 rfl rfl (by omega) E.out
    by_cases q3 : n < 2
    · have E := hid (show lv 2 n = [1, 1] by rw [e1]; unfold lv2; rw [if_neg q1, if_neg q2, if_pos q3])
      clear e1
      go_enter Try.func35, Try.ntmps35
      go_wp2
      go_ret
      exact F.out _ [1, 1] 2 rfl rfl (by omega) E.out
    · have E := hid (show lv 2 n = [1, 0] by rw [e1]; unfold lv2; rw [if_neg q1, if_neg q2, if_neg q3])
      clear e1
      go_enter Try.func35, Try.ntmps35
      go_wp2
      go_ret
      exact F.out _ [1, 0] 2 rfl rfl (by omega) E.out

set_option maxHeartbeats 400000 in
theorem l9Order_c (o : Int) (w : World) : Calls Try.prog 34 #[.int .i64 o] w fun e w' => e = .returned (.bool (ordOk o)) ∧ w = w' := by
  by_cases h1 : o = 1
  · subst h1
    go_enter Try.func34, Try.ntmps34
    go_wp2
    go_ret
    exact ⟨rfl, rfl⟩
  by_cases h2 : o = 2
  · subst h2
    go_enter Try.func34, Try.ntmps34
    go_wp2
    go_ret
    exact ⟨rfl, rfl⟩
  by_cases h4 : o = 4
  · subst h4
    go_enter Try.func34, Try.ntmps34
    go_wp2
    go_ret
    exact ⟨rfl, rfl⟩
  have H := hid (show ordOk o = false by simp [ordOk, h1, h2, h4])
  have q1 : (o == 1) = false := by simpa using h1
  have q2 : (o == 2) = false := by simpa using h2
  have q4 : (o == 4) = false := by simpa using h4
  clear h1 h2 h4
  go_enter Try.func34, Try.ntmps34
  go_wp2
  go_ret
  exact ⟨ret_bool H.out.symm, rfl⟩


set_option maxHeartbeats 2000000 in
theorem specSlice_1 {C : Nat} {v : Value} {xs : List Int} (w : World) (h : RdM C w v xs) (hC : C ≤ w.heap.size) :
    Calls Try.prog 18 #[v, .int .i64 1] w fun e w' => ∃ v', e = .returned v' ∧ Own w.heap.size w'.heap.size w' v' (slc xs 1) ∧ Below w.heap.size w w' := by
  have hown := Own.empty w
  have hbel := (Below.refl w.heap.size w).alloc (Nat.le_refl _) (.cells #[] 3)
  have HC := specSig_c _ (h.below hbel hC)
  have HO := hid (l9Order_c 1 (w.alloc (.cells #[] 3)))
  by_cases hs : sigOk xs = true
  case neg =>
    have hs' : sigOk xs = false := by simpa using hs
    have H := hid (slc_no (xs := xs) (o := 1) (by simp [slOk, hs']))
    rw [hs'] at HC
    have HC := hid HC
    clear hs hs' h
    go_enter Try.func18, Try.ntmps18
    go_wp2_with (go_at_call 31; (with_reducible refine HC.out.mono ?_); rintro e w1 ⟨rfl, rfl⟩)
    go_ret
    exact ⟨_, rfl, by rw [H.out]; exact hown.more (by simp), hbel⟩
  rw [hs] at HC
  have HC := hid HC
  have hl := (sigOk_iff.1 hs).2
  obtain ⟨A, n, c, rfl, h⟩ := h
  have hn : n ≤ 256 := by have := h.len; omega
  have hn2 : xs.length / 2 = n := by have := h.len; omega
  have H := hid (slc_yes (xs := xs) (o := 1) (by simp [slOk, hs, ordOk, hn2]; omega))
  rw [hn2] at H
  clear hs hl hn2
  go_enter Try.func18, Try.ntmps18
  go_wp2_with (first | (go_at_call 31; (with_reducible refine HC.out.mono ?_); rintro e w1 ⟨rfl, rfl⟩) | (go_at_call 34; (with_reducible refine HO.out.mono ?_); rintro e w1 ⟨rfl, rfl⟩))
  clear HC HO
  go_loopw [5, 6] (fun out i wr => ∃ k : Nat, k ≤ n ∧ i = .int .i64 k ∧ Own w.heap.size wr.heap.size wr out (slTo xs 1 k) ∧ Below w.heap.size w wr) (fun _ i _ => n - (intOf i).toNat)
  case atStart => exact ⟨0, Nat.zero_le _, rfl, hown.more (by simp), hbel⟩
  case round =>
    obtain ⟨k, hk, rfl, ho, hb⟩ := hrel
    clear hown hbel
    have hsz := hb.size
    by_cases hlt : k < n
    case neg =>
      obtain rfl : k = n := by omega
      go_wp2
      go_ret
      exact ⟨_, rfl, by rw [H.out]; exact ho, hb⟩
    obtain ⟨b, off, x, y, rfl, hbC, hc1, hc2, hx, hy⟩ := h.at_ hlt
    have c1 := (hb.cell (p := ⟨b, off + k * 2, none⟩) (by simp; omega)).trans hc1
    have hnx := hid (show slTo xs 1 (k + 1) = slTo xs 1 k ++ smp 1 x y by rw [← hx.out, ← hy.out]; rfl)
    have hlen2 := hid (slTo_len (xs := xs) (o := 1) rfl k)
    have LL1 := hid (show (lv 1 x).length ≤ 2 by first | (show (lv2 x).length ≤ 2; rw [lv2_len]; exact Nat.le_refl _) | (show 1 ≤ 2; omega))
    have HC2 := hid hc2
    clear hc1 hc2 hx hy
    go_wp2_with fail
    refine (l9Slice_c x 1 wr (by omega)).mono ?_
    rintro e w2 ⟨v2, rfl, o2, b2⟩
    have hb2 := hb.trans (b2.mono hsz)
    have ho2 := ho.below b2 (Nat.le_refl _)
    have t2 := b2.size
    clear ho b2 hb
    go_wp2_with (at_builtin; refine wpl_append intSl _ rfl (.tmp 30) (.tmp 39) rfl w.heap.size wr.heap.size w2.heap.size _ _ _ _ rfl rfl ho2 o2.rd (by have := LL1.out; have := hlen2.out; omega) (by omega) ?_; intro v3 w3 o3 g3 _; have c2 := ((hb2.grown g3 (by omega) (fun q hq => (ho2.lt q hq).1)).cell (p := ⟨b, off + k * 2 + 1, none⟩) (by simp; omega)).trans HC2.out)
    have hb3 := hb2.grown g3 (by omega) (fun q hq => (ho2.lt q hq).1)
    have t3 := g3.size
    clear ho2 o2 g3 hb2 c1
    have e : slTo xs 1 k ++ lv 1 x = slTo xs 1 (k + 1) := hnx.out.symm
    have E := hid e
    clear e
    rw [E.out] at o3
    go_wp2
    go_roundw
    case rel => exact ⟨k + 1, by omega, by go_num, o3, hb3⟩
    case measure => simp [intOf]; omega
set_option maxHeartbeats 2000000 in
theorem specSlice_2 {C : Nat} {v : Value} {xs : List Int} (w : World) (h : RdM C w v xs) (hC : C ≤ w.heap.size) :
    Calls Try.prog 18 #[v, .int .i64 2] w fun e w' => ∃ v', e = .returned v' ∧ Own w.heap.size w'.heap.size w' v' (slc xs 2) ∧ Below w.heap.size w w' := by
  have hown := Own.empty w
  have hbel := (Below.refl w.heap.size w).alloc (Nat.le_refl _) (.cells #[] 3)
  have HC := specSig_c _ (h.below hbel hC)
  have HO := hid (l9Order_c 2 (w.alloc (.cells #[] 3)))
  by_cases hs : sigOk xs = true
  case neg =>
    have hs' : sigOk xs = false := by simpa using hs
    have H := hid (slc_no (xs := xs) (o := 2) (by simp [slOk, hs']))
    rw [hs'] at HC
    have HC := hid HC
    clear hs hs' h
    go_enter Try.func18, Try.ntmps18
    go_wp2_with (go_at_call 31; (with_reducible refine HC.out.mono ?_); rintro e w1 ⟨rfl, rfl⟩)
    go_ret
    exact ⟨_, rfl, by rw [H.out]; exact hown.more (by simp), hbel⟩
  rw [hs] at HC
  have HC := hid HC
  have hl := (sigOk_iff.1 hs).2
  obtain ⟨A, n, c, rfl, h⟩ := h
  have hn : n ≤ 256 := by have := h.len; omega
  have hn2 : xs.length / 2 = n := by have := h.len; omega
  have H := hid (slc_yes (xs := xs) (o := 2) (by simp [slOk, hs, ordOk, hn2]; omega))
  rw [hn2] at H
  clear hs hl hn2
  go_enter Try.func18, Try.ntmps18
  go_wp2_with (first | (go_at_call 31; (with_reducible refine HC.out.mono ?_); rintro e w1 ⟨rfl, rfl⟩) | (go_at_call 34; (with_reducible refine HO.out.mono ?_); rintro e w1 ⟨rfl, rfl⟩))
  clear HC HO
  go_loopw [5, 6] (fun out i wr => ∃ k : Nat, k ≤ n ∧ i = .int .i64 k ∧ Own w.heap.size wr.heap.size wr out (slTo xs 2 k) ∧ Below w.heap.size w wr) (fun _ i _ => n - (intOf i).toNat)
  case atStart => exact ⟨0, Nat.zero_le _, rfl, hown.more (by simp), hbel⟩
  case round =>
    obtain ⟨k, hk, rfl, ho, hb⟩ := hrel
    clear hown hbel
    have hsz := hb.size
    by_cases hlt : k < n
    case neg =>
      obtain rfl : k = n := by omega
      go_wp2
      go_ret
      exact ⟨_, rfl, by rw [H.out]; exact ho, hb⟩
    obtain ⟨b, off, x, y, rfl, hbC, hc1, hc2, hx, hy⟩ := h.at_ hlt
    have c1 := (hb.cell (p := ⟨b, off + k * 2, none⟩) (by simp; omega)).trans hc1
    have hnx := hid (show slTo xs 2 (k + 1) = slTo xs 2 k ++ smp 2 x y by rw [← hx.out, ← hy.out]; rfl)
    have hlen2 := hid (slTo_len (xs := xs) (o := 2) rfl k)
    have LL1 := hid (show (lv 1 x).length ≤ 2 by first | (show (lv2 x).length ≤ 2; rw [lv2_len]; exact Nat.le_refl _) | (show 1 ≤ 2; omega))
    have HC2 := hid hc2
    clear hc1 hc2 hx hy
    go_wp2_with fail
    refine (l9Slice_c x 1 wr (by omega)).mono ?_
    rintro e w2 ⟨v2, rfl, o2, b2⟩
    have hb2 := hb.trans (b2.mono hsz)
    have ho2 := ho.below b2 (Nat.le_refl _)
    have t2 := b2.size
    clear ho b2 hb
    go_wp2_with (at_builtin; refine wpl_append intSl _ rfl (.tmp 30) (.tmp 39) rfl w.heap.size wr.heap.size w2.heap.size _ _ _ _ rfl rfl ho2 o2.rd (by have := LL1.out; have := hlen2.out; omega) (by omega) ?_; intro v3 w3 o3 g3 _; have c2 := ((hb2.grown g3 (by omega) (fun q hq => (ho2.lt q hq).1)).cell (p := ⟨b, off + k * 2 + 1, none⟩) (by simp; omega)).trans HC2.out)
    have hb3 := hb2.grown g3 (by omega) (fun q hq => (ho2.lt q hq).1)
    have t3 := g3.size
    clear ho2 o2 g3 hb2 c1
    have hsz3 := hb3.size
    have LL2 := hid (show (lv 1 y).length ≤ 2 by first | (show (lv2 y).length ≤ 2; rw [lv2_len]; exact Nat.le_refl _) | (show 1 ≤ 2; omega))
    go_wp2_with fail
    refine (l9Slice_c y 1 w3 (by omega)).mono ?_
    rintro e w4 ⟨v4, rfl, o4, b4⟩
    have hb4 := hb3.trans (b4.mono hsz3)
    have ho4 := o3.below b4 (Nat.le_refl _)
    have t4 := b4.size
    have LL3 := hid (show (slTo xs 2 k ++ lv 1 x).length ≤ 4000 by rw [List.length_append]; have := LL1.out; have := hlen2.out; omega)
    clear o3 b4 hb3 c2
    go_wp2_with (at_builtin; refine wpl_append intSl _ rfl (.tmp 43) (.tmp 51) rfl w.heap.size w3.heap.size w4.heap.size _ _ _ _ rfl rfl ho4 o4.rd (by have := LL2.out; have := LL3.out; omega) (by omega) ?_; intro v5 w5 o5 g5 _)
    have hb5 := hb4.grown g5 (by omega) (fun q hq => (ho4.lt q hq).1)
    have E := hid (show slTo xs 2 k ++ lv 1 x ++ lv 1 y = slTo xs 2 (k + 1) by rw [hnx.out, List.append_assoc]; rfl)
    rw [E.out] at o5
    clear ho4 o4 g5 hb4
    go_wp2
    go_roundw
    case rel => exact ⟨k + 1, by omega, by go_num, o5, hb5⟩
    case measure => simp [intOf]; omega
set_option maxHeartbeats 2000000 in
theorem specSlice_4 {C : Nat} {v : Value} {xs : List Int} (w : World) (h : RdM C w v xs) (hC : C ≤ w.heap.size) :
    Calls Try.prog 18 #[v, .int .i64 4] w fun e w' => ∃ v', e = .returned v' ∧ Own w.heap.size w'.heap.size w' v' (slc xs 4) ∧ Below w.heap.size w w' := by
  have hown := Own.empty w
  have hbel := (Below.refl w.heap.size w).alloc (Nat.le_refl _) (.cells #[] 3)
  have HC := specSig_c _ (h.below hbel hC)
  have HO := hid (l9Order_c 4 (w.alloc (.cells #[] 3)))
  by_cases hs : sigOk xs = true
  case neg =>
    have hs' : sigOk xs = false := by simpa using hs
    have H := hid (slc_no (xs := xs) (o := 4) (by simp [slOk, hs']))
    rw [hs'] at HC
    have HC := hid HC
    clear hs hs' h
    go_enter Try.func18, Try.ntmps18
    go_wp2_with (go_at_call 31; (with_reducible refine HC.out.mono ?_); rintro e w1 ⟨rfl, rfl⟩)
    go_ret
    exact ⟨_, rfl, by rw [H.out]; exact hown.more (by simp), hbel⟩
  rw [hs] at HC
  have HC := hid HC
  have hl := (sigOk_iff.1 hs).2
  obtain ⟨A, n, c, rfl, h⟩ := h
  have hn : n ≤ 256 := by have := h.len; omega
  have hn2 : xs.length / 2 = n := by have := h.len; omega
  have H := hid (slc_yes (xs := xs) (o := 4) (by simp [slOk, hs, ordOk, hn2]; omega))
  rw [hn2] at H
  clear hs hl hn2
  go_enter Try.func18, Try.ntmps18
  go_wp2_with (first | (go_at_call 31; (with_reducible refine HC.out.mono ?_); rintro e w1 ⟨rfl, rfl⟩) | (go_at_call 34; (with_reducible refine HO.out.mono ?_); rintro e w1 ⟨rfl, rfl⟩))
  clear HC HO
  go_loopw [5, 6] (fun out i wr => ∃ k : Nat, k ≤ n ∧ i = .int .i64 k ∧ Own w.heap.size wr.heap.size wr out (slTo xs 4 k) ∧ Below w.heap.size w wr) (fun _ i _ => n - (intOf i).toNat)
  case atStart => exact ⟨0, Nat.zero_le _, rfl, hown.more (by simp), hbel⟩
  case round =>
    obtain ⟨k, hk, rfl, ho, hb⟩ := hrel
    clear hown hbel
    have hsz := hb.size
    by_cases hlt : k < n
    case neg =>
      obtain rfl : k = n := by omega
      go_wp2
      go_ret
      exact ⟨_, rfl, by rw [H.out]; exact ho, hb⟩
    obtain ⟨b, off, x, y, rfl, hbC, hc1, hc2, hx, hy⟩ := h.at_ hlt
    have c1 := (hb.cell (p := ⟨b, off + k * 2, none⟩) (by simp; omega)).trans hc1
    have hnx := hid (show slTo xs 4 (k + 1) = slTo xs 4 k ++ smp 4 x y by rw [← hx.out, ← hy.out]; rfl)
    have hlen2 := hid (slTo_len (xs := xs) (o := 4) rfl k)
    have LL1 := hid (show (lv 2 x).length ≤ 2 by first | (show (lv2 x).length ≤ 2; rw [lv2_len]; exact Nat.le_refl _) | (show 1 ≤ 2; omega))
    have HC2 := hid hc2
    clear hc1 hc2 hx hy
    go_wp2_with fail
    refine (l9Slice_c x 2 wr (by omega)).mono ?_
    rintro e w2 ⟨v2, rfl, o2, b2⟩
    have hb2 := hb.trans (b2.mono hsz)
    have ho2 := ho.below b2 (Nat.le_refl _)
    have t2 := b2.size
    clear ho b2 hb
    go_wp2_with (at_builtin; refine wpl_append intSl _ rfl (.tmp 30) (.tmp 39) rfl w.heap.size wr.heap.size w2.heap.size _ _ _ _ rfl rfl ho2 o2.rd (by have := LL1.out; have := hlen2.out; omega) (by omega) ?_; intro v3 w3 o3 g3 _; have c2 := ((hb2.grown g3 (by omega) (fun q hq => (ho2.lt q hq).1)).cell (p := ⟨b, off + k * 2 + 1, none⟩) (by simp; omega)).trans HC2.out)
    have hb3 := hb2.grown g3 (by omega) (fun q hq => (ho2.lt q hq).1)
    have t3 := g3.size
    clear ho2 o2 g3 hb2 c1
    have hsz3 := hb3.size
    have LL2 := hid (show (lv 2 y).length ≤ 2 by first | (show (lv2 y).length ≤ 2; rw [lv2_len]; exact Nat.le_refl _) | (show 1 ≤ 2; omega))
    go_wp2_with fail
    refine (l9Slice_c y 2 w3 (by omega)).mono ?_
    rintro e w4 ⟨v4, rfl, o4, b4⟩
    have hb4 := hb3.trans (b4.mono hsz3)
    have ho4 := o3.below b4 (Nat.le_refl _)
    have t4 := b4.size
    have LL3 := hid (show (slTo xs 4 k ++ lv 2 x).length ≤ 4000 by rw [List.length_append]; have := LL1.out; have := hlen2.out; omega)
    clear o3 b4 hb3 c2
    go_wp2_with (at_builtin; refine wpl_append intSl _ rfl (.tmp 43) (.tmp 51) rfl w.heap.size w3.heap.size w4.heap.size _ _ _ _ rfl rfl ho4 o4.rd (by have := LL2.out; have := LL3.out; omega) (by omega) ?_; intro v5 w5 o5 g5 _)
    have hb5 := hb4.grown g5 (by omega) (fun q hq => (ho4.lt q hq).1)
    have E := hid (show slTo xs 4 k ++ lv 2 x ++ lv 2 y = slTo xs 4 (k + 1) by rw [hnx.out, List.append_assoc]; rfl)
    rw [E.out] at o5
    clear ho4 o4 g5 hb4
    go_wp2
    go_roundw
    case rel => exact ⟨k + 1, by omega, by go_num, o5, hb5⟩
    case measure => simp [intOf]; omega

set_option maxHeartbeats 1000000 in
theorem specSlice_c {C : Nat} {v : Value} {xs : List Int} (w : World) (o : Int) (h : RdM C w v xs) (hC : C ≤ w.heap.size) :
    Calls Try.prog 18 #[v, .int .i64 o] w fun e w' => ∃ v', e = .returned v' ∧ Own w.heap.size w'.heap.size w' v' (slc xs o) ∧ Below w.heap.size w w' := by
  by_cases h1 : o = 1
  · subst h1; exact specSlice_1 w h hC
  by_cases h2 : o = 2
  · subst h2; exact specSlice_2 w h hC
  by_cases h4 : o = 4
  · subst h4; exact specSlice_4 w h hC
  have ho : ordOk o = false := by simp [ordOk, h1, h2, h4]
  have H := hid (slc_no (xs := xs) (o := o) (by simp [slOk, ho]))
  have hown := Own.empty w
  have hbel := (Below.refl w.heap.size w).alloc (Nat.le_refl _) (.cells #[] 3)
  have HC := specSig_c _ (h.below hbel hC)
  have HO := l9Order_c o (w.alloc (.cells #[] 3))
  rw [ho] at HO
  have HO := hid HO
  clear h1 h2 h4 ho
  by_cases hs : sigOk xs = true
  · rw [hs] at HC
    have HC := hid HC
    clear hs h
    go_enter Try.func18, Try.ntmps18
    go_wp2_with (first | (go_at_call 31; (with_reducible refine HC.out.mono ?_); rintro e w1 ⟨rfl, rfl⟩) | (go_at_call 34; (with_reducible refine HO.out.mono ?_); rintro e w1 ⟨rfl, rfl⟩))
    go_ret
    exact ⟨_, rfl, by rw [H.out]; exact hown.more (by simp), hbel⟩
  · have hs' : sigOk xs = false := by simpa using hs
    rw [hs'] at HC
    have HC := hid HC
    clear hs hs' h
    go_enter Try.func18, Try.ntmps18
    go_wp2_with (go_at_call 31; (with_reducible refine HC.out.mono ?_); rintro e w1 ⟨rfl, rfl⟩)
    go_ret
    exact ⟨_, rfl, by rw [H.out]; exact hown.more (by simp), hbel⟩

theorem implSlice_t {C : Nat} {v : Value} {xs : List Int} {q : Int} (w : World) (h : RdM C w v xs) (hC : C ≤ w.heap.size) (_ : -9223372036854775808 ≤ q ∧ q ≤ 9223372036854775807) :
    Calls Try.prog 16 #[v, .int .i64 q] w fun e w' => ∃ v', e = .returned v' ∧ Own w.heap.size w'.heap.size w' v' (slc xs q) ∧ Below w.heap.size w w' := implSlice_c w q h hC
theorem specSlice_t {C : Nat} {v : Value} {xs : List Int} {q : Int} (w : World) (h : RdM C w v xs) (hC : C ≤ w.heap.size) (_ : -9223372036854775808 ≤ q ∧ q ≤ 9223372036854775807) :
    Calls Try.prog 18 #[v, .int .i64 q] w fun e w' => ∃ v', e = .returned v' ∧ Own w.heap.size w'.heap.size w' v' (slc xs q) ∧ Below w.heap.size w w' := specSlice_c w q h hC

end Go.Proofs.Ytokgonhfmidbeaa
