/-
  Lists of bits: whether they are valid; the number of places in which two of them differ; the laws' fixed answer.
-/
import Derived.Test.YtokgonhfmidbeaaDoorHelp
namespace Go.Proofs.YtokgonhfmidbeaaDoor
open Go.RowKit

theorem xor00 : bits BinOp.xor IntKind.i64 0 0 = 0 := by decide
theorem xor01 : bits BinOp.xor IntKind.i64 0 1 = 1 := by decide
theorem xor10 : bits BinOp.xor IntKind.i64 1 0 = 1 := by decide
theorem xor11 : bits BinOp.xor IntKind.i64 1 1 = 0 := by decide

/-! ### range tests of a whole list -/
def inAll (xs : List Int) (lo hi : Int) : Bool := xs.all fun x => inB x lo hi
theorem inAll_yes {xs : List Int} {lo hi : Int} (h : ∀ j, j < xs.length → inB (xs.getD j 0) lo hi = true) : inAll xs lo hi = true := by
  unfold inAll
  rw [List.all_eq_true]
  intro x hx
  obtain ⟨j, hj, rfl⟩ := List.getElem_of_mem hx
  have := h j hj
  simpa [List.getD, hj] using this
theorem inAll_no {xs : List Int} {lo hi : Int} {j : Nat} (hj : j < xs.length) (h : inB (xs.getD j 0) lo hi = false) : inAll xs lo hi = false := by
  unfold inAll
  rw [List.all_eq_false]
  exact ⟨xs.getD j 0, mem_getD hj, by rw [h]; simp⟩
theorem inAll_mem {xs : List Int} {lo hi : Int} (h : inAll xs lo hi = true) : ∀ x ∈ xs, lo ≤ x ∧ x ≤ hi := by
  unfold inAll at h
  rw [List.all_eq_true] at h
  exact fun x hx => inB_iff.1 (h x hx)

def bitsOk (xs : List Int) : Bool := inAll xs 0 1 && decide (xs.length ≤ 1024)
theorem bitsOk_iff {xs : List Int} : bitsOk xs = true ↔ (∀ x ∈ xs, 0 ≤ x ∧ x ≤ 1) ∧ xs.length ≤ 1024 := by
  simp [bitsOk, inAll, inB]
theorem bitsOk_at {xs : List Int} (h : bitsOk xs = true) (k : Nat) : xs.getD k 0 = 0 ∨ xs.getD k 0 = 1 := by
  by_cases hk : k < xs.length
  · have := (bitsOk_iff.1 h).1 _ (mem_getD hk)
    omega
  · simp [List.getD, List.getElem?_eq_none (by omega : xs.length ≤ k)]
theorem bitsOk_len {xs : List Int} (h : bitsOk xs = true) : xs.length ≤ 1024 := (bitsOk_iff.1 h).2

set_option maxHeartbeats 400000 in
theorem specBits_c {C : Nat} {v : Value} {xs : List Int} (w : World) (h : Rd C w v xs) :
    Calls Tryd.prog 18 #[v] w fun e w' => e = .returned (.bool (bitsOk xs)) ∧ w = w' := by
  obtain ⟨A, n, c, rfl, h⟩ := h
  have hlen := hid h.len
  have hm := h.sm
  go_enter Tryd.func18, Tryd.ntmps18
  go_wp2
  go_loop [3] (fun i => ∃ k : Nat, k ≤ n ∧ i = .int .i64 k ∧ Hid (∀ j, j < k → inB (xs.getD j 0) 0 1 = true)) (fun i => n - (intOf i).toNat)
  case atStart => exact ⟨0, Nat.zero_le _, rfl, fun j hj => absurd hj (by omega)⟩
  case round =>
    obtain ⟨k, hk, rfl, hall⟩ := hrel
    by_cases hlt : k < n
    · obtain ⟨b, off, x, rfl, _, c1, hx⟩ := h.at_ hlt
      by_cases hb : inB x 0 1 = true
      · go_wp2_with (go_at_call 24; refine (l1In_c _ _ _ _).mono ?_; rintro e w' ⟨rfl, rfl⟩)
        go_round
        case rel =>
          refine ⟨k + 1, by omega, by go_num, fun j hj => ?_⟩
          by_cases h : j < k
          · exact hall.out j h
          · obtain rfl : j = k := by omega
            rw [hx.out]; exact hb
        case measure => simp [intOf]; omega
      · have hb' : inB x 0 1 = false := by simpa using hb
        clear hb
        go_wp2_with (go_at_call 24; refine (l1In_c _ _ _ _).mono ?_; rintro e w' ⟨rfl, rfl⟩)
        go_ret
        refine ⟨ret_bool ?_, rfl⟩
        have := inAll_no (lo := 0) (hi := 1) (xs := xs) (j := k) (by have := hlen.out; omega) (by rw [hx.out]; exact hb')
        simp [bitsOk, this]
    · obtain rfl : k = n := by omega
      have H : Hid (bitsOk xs = decide (k ≤ 1024)) := by
        have := inAll_yes (lo := 0) (hi := 1) (xs := xs) (fun j hj => hall.out j (by have := hlen.out; omega))
        show _ = _
        rw [bitsOk, this, hlen.out, Bool.true_and]
      go_wp2
      go_ret
      exact ⟨ret_bool (by rw [H.out]; exact decide_eq_decide.2 (by omega)), rfl⟩

set_option maxHeartbeats 400000 in
theorem implBits_c {C : Nat} {v : Value} {xs : List Int} (w : World) (h : Rd C w v xs) :
    Calls Tryd.prog 16 #[v] w fun e w' => e = .returned (.bool (bitsOk xs)) ∧ w = w' := by
  obtain ⟨A, n, c, rfl, h⟩ := h
  have hlen := hid h.len
  have hm := h.sm
  by_cases hn : n ≤ 1024
  · go_enter Tryd.func16, Tryd.ntmps16
    go_wp2
    go_loop [4, 10] (fun _ i => ∃ k : Nat, k ≤ n ∧ i = .int .i64 k ∧ Hid (∀ j, j < k → inB (xs.getD j 0) 0 1 = true)) (fun _ i => n - (intOf i).toNat)
    case atStart => exact ⟨0, Nat.zero_le _, rfl, fun j hj => absurd hj (by omega)⟩
    case round =>
      obtain ⟨k, hk, rfl, hall⟩ := hrel
      by_cases hlt : k < n
      · obtain ⟨b, off, x, rfl, _, c1, hx⟩ := h.at_ hlt
        by_cases h0 : x = 0
        · subst h0
          go_wp2
          go_round
          case rel =>
            refine ⟨k + 1, by omega, by go_num, fun j hj => ?_⟩
            by_cases h : j < k
            · exact hall.out j h
            · obtain rfl : j = k := by omega
              rw [hx.out]; rfl
          case measure => simp [intOf]; omega
        · by_cases h1 : x = 1
          · subst h1
            go_wp2
            go_round
            case rel =>
              refine ⟨k + 1, by omega, by go_num, fun j hj => ?_⟩
              by_cases h : j < k
              · exact hall.out j h
              · obtain rfl : j = k := by omega
                rw [hx.out]; rfl
            case measure => simp [intOf]; omega
          · have q0 : (x != 0) = true := by simpa using h0
            have q1 : (x != 1) = true := by simpa using h1
            have q2 : (x == 0) = false := by simpa using h0
            have q3 : (x == 1) = false := by simpa using h1
            have hno : Hid (inB x 0 1 = false) := by
              show _ = _
              cases hb : inB x 0 1 with
              | false => rfl
              | true => have := inB_iff.1 hb; omega
            go_wp2
            go_ret
            refine ⟨ret_bool ?_, rfl⟩
            have := inAll_no (lo := 0) (hi := 1) (xs := xs) (j := k) (by have := hlen.out; omega) (by rw [hx.out]; exact hno.out)
            simp [bitsOk, this]
      · obtain rfl : k = n := by omega
        go_wp2
        go_ret
        refine ⟨ret_bool ?_, rfl⟩
        have := inAll_yes (lo := 0) (hi := 1) (xs := xs) (fun j hj => hall.out j (by have := hlen.out; omega))
        rw [bitsOk, this, hlen.out]
        simp [hn]
  · go_enter Tryd.func16, Tryd.ntmps16
    go_wp2
    go_ret
    refine ⟨ret_bool ?_, rfl⟩
    rw [bitsOk, hlen.out]
    simp [hn]

def twinOk (xs ys : List Int) : Bool := bitsOk xs && bitsOk ys && decide (xs.length = ys.length)
set_option maxHeartbeats 400000 in
theorem samePlaces_c {C D : Nat} {v1 v2 : Value} {xs ys : List Int} (w : World) (h1 : Rd C w v1 xs) (h2 : Rd D w v2 ys) :
    Calls Tryd.prog 25 #[v1, v2] w fun e w' => e = .returned (.bool (twinOk xs ys)) ∧ w = w' := by
  obtain ⟨A, n, c, rfl, h1⟩ := h1
  obtain ⟨B, m, d, rfl, h2⟩ := h2
  have R1 : Rd C w (.slice A n c) xs := ⟨_, _, _, rfl, h1⟩
  have R2 : Rd D w (.slice B m d) ys := ⟨_, _, _, rfl, h2⟩
  have l1 := hid h1.len
  have l2 := hid h2.len
  have H : Hid (twinOk xs ys = (bitsOk xs && bitsOk ys && decide (xs.length = ys.length))) := rfl
  by_cases s1 : bitsOk xs = true
  · by_cases s2 : bitsOk ys = true
    · have H2 : Hid (twinOk xs ys = decide (n = m)) := by show _ = _; rw [H.out, s1, s2, l1.out, l2.out]; rfl
      by_cases hnm : n = m
      · subst hnm
        go_enter Tryd.func25, Tryd.ntmps25
        go_wp2_with (first | (go_at_call 16; (with_reducible refine (implBits_c _ R1).mono ?_); rintro e w' ⟨rfl, rfl⟩) | (go_at_call 16; (with_reducible refine (implBits_c _ R2).mono ?_); rintro e w' ⟨rfl, rfl⟩))
        go_ret
        exact ⟨ret_bool (by rw [H2.out]; simp), rfl⟩
      · have q1 : ((n : Int) == (m : Int)) = false := by simp; omega
        go_enter Tryd.func25, Tryd.ntmps25
        go_wp2_with (first | (go_at_call 16; (with_reducible refine (implBits_c _ R1).mono ?_); rintro e w' ⟨rfl, rfl⟩) | (go_at_call 16; (with_reducible refine (implBits_c _ R2).mono ?_); rintro e w' ⟨rfl, rfl⟩))
        go_ret
        exact ⟨ret_bool (by rw [H2.out]; simp [hnm]), rfl⟩
    · have s2' : bitsOk ys = false := by simpa using s2
      have H2 : Hid (twinOk xs ys = false) := by show _ = _; rw [H.out, s1, s2']; rfl
      clear s2
      go_enter Tryd.func25, Tryd.ntmps25
      go_wp2_with (first | (go_at_call 16; (with_reducible refine (implBits_c _ R1).mono ?_); rintro e w' ⟨rfl, rfl⟩) | (go_at_call 16; (with_reducible refine (implBits_c _ R2).mono ?_); rintro e w' ⟨rfl, rfl⟩))
      go_ret
      exact ⟨ret_bool H2.out.symm, rfl⟩
  · have s1' : bitsOk xs = false := by simpa using s1
    have H2 : Hid (twinOk xs ys = false) := by show _ = _; rw [H.out, s1']; rfl
    clear s1
    go_enter Tryd.func25, Tryd.ntmps25
    go_wp2_with (go_at_call 16; (with_reducible refine (implBits_c _ R1).mono ?_); rintro e w' ⟨rfl, rfl⟩)
    go_ret
    exact ⟨ret_bool H2.out.symm, rfl⟩

/-- how many of the first k places differ -/
def hdTo (xs ys : List Int) : Nat → Int
  | 0 => 0
  | k + 1 => hdTo xs ys k + if xs.getD k 0 = ys.getD k 0 then 0 else 1
def hd (xs ys : List Int) : Int := if twinOk xs ys = true then hdTo xs ys xs.length else -1
theorem hdTo_in (xs ys : List Int) (k : Nat) : 0 ≤ hdTo xs ys k ∧ hdTo xs ys k ≤ k := by
  induction k with
  | zero => simp [hdTo]
  | succ k ih => simp only [hdTo]; split <;> omega

set_option maxHeartbeats 1000000 in
theorem hamming_c {C D : Nat} {v1 v2 : Value} {xs ys : List Int} (w : World) (h1 : Rd C w v1 xs) (h2 : Rd D w v2 ys) :
    Calls Tryd.prog 20 #[v1, v2] w fun e w' => e = .returned (.int .i64 (hd xs ys)) ∧ ∃ q, w' = w.drewN q := by
  by_cases hok : twinOk xs ys = true
  · have H : Hid (hd xs ys = hdTo xs ys xs.length) := by show _ = _; rw [hd, if_pos hok]
    obtain ⟨⟨s1, s2⟩, hl⟩ : (bitsOk xs = true ∧ bitsOk ys = true) ∧ xs.length = ys.length := by simpa [twinOk] using hok
    have S1 := hid s1
    have S2 := hid s2
    have hlen := bitsOk_len s1
    obtain ⟨A, n, c, rfl, h1⟩ := h1
    obtain ⟨B, m, d, rfl, h2⟩ := h2
    have R1 : Rd C w (.slice A n c) xs := ⟨_, _, _, rfl, h1⟩
    have R2 : Rd D w (.slice B m d) ys := ⟨_, _, _, rfl, h2⟩
    rw [h1.len] at hlen
    obtain rfl : n = m := by rw [← h1.len, ← h2.len]; exact hl
    have l1 := hid h1.len
    clear hl s1 s2
    go_enter Tryd.func20, Tryd.ntmps20
    go_wp2_with (go_at_call 25; (with_reducible refine (samePlaces_c _ R1 R2).mono ?_); rintro e w' ⟨rfl, rfl⟩)
    go_loopw [5, 13] (fun t i wr => ∃ k : Nat, k ≤ n ∧ i = .int .i64 k ∧ t = .int .i64 (hdTo xs ys k) ∧ ∃ q, wr = w.drewN q) (fun _ i _ => n - (intOf i).toNat)
    case atStart => exact ⟨0, Nat.zero_le _, rfl, rfl, 0, rfl⟩
    case round =>
      obtain ⟨k, hk, rfl, rfl, q, rfl⟩ := hrel
      have hb := hdTo_in xs ys k
      by_cases hlt : k < n
      · obtain ⟨b, off, x, rfl, _, c1, hx⟩ := h1.at_ hlt
        obtain ⟨b', off', y, rfl, _, c2, hy⟩ := h2.at_ hlt
        have bx := bitsOk_at S1.out k
        have by' := bitsOk_at S2.out k
        have hs : Hid (hdTo xs ys (k + 1) = hdTo xs ys k + if x = y then 0 else 1) := by show _ = _; rw [hdTo, hx.out, hy.out]
        rw [hx.out] at bx
        rw [hy.out] at by'
        generalize hS : hdTo xs ys k = S at hb hs
        have hS' := hid hS
        clear hS
        have i1 : (k : Int) < (n : Int) := by omega
        have u0 : IntKind.i64.wrap (S + 0) = S := by rw [Int.add_zero]; exact IntWalk.i64_in _ (by omega)
        have u1 : IntKind.i64.wrap (S + 1) = S + 1 := IntWalk.i64_in _ (by omega)
        have u2 : IntKind.i64.wrap S = S := IntWalk.i64_in _ (by omega)
        rcases bx with rfl | rfl <;> rcases by' with rfl | rfl
        all_goals
          have x00 := xor00
          have x01 := xor01
          have x10 := xor10
          have x11 := xor11
          go_wp2
          go_quiet (fail)
          clear u0 u1 u2 x00 x01 x10 x11
          go_wp2
          go_roundw
          case rel => exact ⟨k + 1, by omega, by go_num, by rw [hs.out]; simp, _, rfl⟩
          case measure => simp [intOf]; omega
      · obtain rfl : k = n := by omega
        go_wp2
        go_ret
        exact ⟨ret_int (by rw [H.out, l1.out]), _, rfl⟩
  · have hok' : twinOk xs ys = false := by simpa using hok
    have H : Hid (hd xs ys = -1) := by show _ = _; rw [hd, hok']; rfl
    clear hok
    go_enter Tryd.func20, Tryd.ntmps20
    go_wp2_with (go_at_call 25; (with_reducible refine (samePlaces_c _ h1 h2).mono ?_); rintro e w' ⟨rfl, rfl⟩)
    go_ret
    exact ⟨ret_int H.out.symm, 0, rfl⟩

set_option maxHeartbeats 400000 in
theorem alive_c (w : World) : Calls Tryd.prog 8 #[] w fun e w' => e = .returned (.bool true) ∧ Below w.heap.size w w' := by
  have b1 := (Below.refl w.heap.size w).alloc (Nat.le_refl _) (.cells #[.int .i64 1] 3)
  have o1 := Own.made w #[.int .i64 1] [1] rfl rfl (by omega : 1 ≤ 4194304)
  have b2 := b1.alloc (by simp) (.cells #[.int .i64 0] 3)
  have o2 := Own.made (w.alloc (.cells #[.int .i64 1] 3)) #[.int .i64 0] [0] rfl rfl (by omega : 1 ≤ 4194304)
  have o3 := o1.alloc (by simp) (.cells #[.int .i64 0] 3)
  have R1 := o3.rd
  have R2 := o2.rd
  have e1 : hd [1] [0] = 1 := by decide
  simp at R2
  clear o1 o2 o3
  go_enter Tryd.func8, Tryd.ntmps8
  go_wp2_with (go_at_call 20; refine (hamming_c _ R1 R2).mono ?_; rintro e w' ⟨rfl, q, rfl⟩)
  go_ret
  exact ⟨rfl, below_drewN b2 q⟩

end Go.Proofs.YtokgonhfmidbeaaDoor
