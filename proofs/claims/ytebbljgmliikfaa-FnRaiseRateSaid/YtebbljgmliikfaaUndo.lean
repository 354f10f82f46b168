/-
  UndoFilter, of the program and of the reference: number by number, what the filter added is taken away again; nothing where a number leaves the range.
-/
import Derived.Test.YtebbljgmliikfaaFilt
namespace Go.Proofs.Ytebbljgmliikfaa
open Go.RowKit

/-- number k of xs, less the first j products -/
def undS (xs fs out : List Int) (k : Nat) : Nat → Int
  | 0 => xs.getD k 0
  | j + 1 => undS xs fs out k j - fs.getD (j + 1) 0 * out.getD (k - (j + 1)) 0
def undN (xs fs out : List Int) (k : Nat) : Int := undS xs fs out k (min (fs.length - 1) k)
def undoTo (xs fs : List Int) : Nat → Option (List Int)
  | 0 => some []
  | k + 1 => (undoTo xs fs k).bind fun out => if inB (undN xs fs out k) (-1000) 1000 = true then some (out ++ [undN xs fs out k]) else none
def undoOk (xs fs : List Int) : Bool := seqOk xs && seqOk fs && !decide (fs.length = 0) && decide (fs.getD 0 0 = 1)
def undo (xs fs : List Int) : List Int × Bool :=
  if undoOk xs fs = true then (match undoTo xs fs xs.length with | some out => (out, true) | none => ([], false)) else ([], false)
theorem undo_no {xs fs : List Int} (h : undoOk xs fs = false) : undo xs fs = ([], false) := by simp [undo, h]
theorem undo_some {xs fs o : List Int} (h : undoOk xs fs = true) (ho : undoTo xs fs xs.length = some o) : undo xs fs = (o, true) := by simp [undo, h, ho]
theorem undo_none {xs fs : List Int} (h : undoOk xs fs = true) (ho : undoTo xs fs xs.length = none) : undo xs fs = ([], false) := by simp [undo, h, ho]
theorem undoTo_none {xs fs : List Int} {k : Nat} (h : undoTo xs fs k = none) : ∀ j, k ≤ j → undoTo xs fs j = none := by
  intro j hj
  induction j with
  | zero => obtain rfl : k = 0 := by omega
            exact h
  | succ j ih =>
    by_cases hk : k = j + 1
    · subst hk; exact h
    · simp only [undoTo, ih (by omega), Option.bind_none]
theorem getD_snoc (o : List Int) (y : Int) (i : Nat) : (o ++ [y]).getD i 0 = if i < o.length then o.getD i 0 else if i = o.length then y else 0 := by
  by_cases h : i < o.length
  · simp [List.getD, List.getElem?_append_left h, h]
  · rw [if_neg h]
    by_cases h2 : i = o.length
    · subst h2; simp [List.getD]
    · rw [if_neg h2]
      simp [List.getD, List.getElem?_eq_none (show (o ++ [y]).length ≤ i by simp; omega)]
theorem undoTo_ok {xs fs : List Int} {k : Nat} : ∀ {o : List Int}, undoTo xs fs k = some o → o.length = k ∧ ∀ i, -1000 ≤ o.getD i 0 ∧ o.getD i 0 ≤ 1000 := by
  induction k with
  | zero => intro o h; simp only [undoTo, Option.some.injEq] at h; subst h; simp
  | succ k ih =>
    intro o h
    simp only [undoTo, Option.bind_eq_some_iff] at h
    obtain ⟨p, hp, h⟩ := h
    obtain ⟨h1, h2⟩ := ih hp
    split at h
    · rename_i hin
      simp only [Option.some.injEq] at h
      subst h
      refine ⟨by simp [h1], fun i => ?_⟩
      rw [getD_snoc]
      split
      · exact h2 i
      · split
        · exact inB_iff.1 hin
        · omega
    · cases h
theorem undS_bound {xs fs o : List Int} (h1 : seqOk xs = true) (h2 : seqOk fs = true) (h3 : ∀ i, -1000 ≤ o.getD i 0 ∧ o.getD i 0 ≤ 1000) (k j : Nat) :
    -(1000 + 1000000 * (j : Int)) ≤ undS xs fs o k j ∧ undS xs fs o k j ≤ 1000 + 1000000 * (j : Int) := by
  induction j with
  | zero => have := seqOk_at h1 k; simp only [undS]; omega
  | succ j ih =>
    have := mul_bound (seqOk_at h2 (j + 1)) (h3 (k - (j + 1)))
    simp only [undS]
    omega



set_option maxHeartbeats 1000000 in
theorem implUndo_c {C D : Nat} {v1 v2 : Value} {xs fs : List Int} (w : World) (h1 : Rd C w v1 xs) (h2 : Rd D w v2 fs) (hC : C ≤ w.heap.size) (hD : D ≤ w.heap.size) :
    Calls Try.prog 31 #[v1, v2] w fun e w' => ∃ v', e = .returned (.tuple #[v', .bool (undo xs fs).2]) ∧ Own w.heap.size w'.heap.size w' v' (undo xs fs).1 ∧ Below w.heap.size w w' := by
  by_cases hok : undoOk xs fs = true
  · skip
    obtain ⟨⟨⟨s1, s2⟩, z2⟩, f0⟩ : ((seqOk xs = true ∧ seqOk fs = true) ∧ fs.length ≠ 0) ∧ fs.getD 0 0 = 1 := by simpa [undoOk] using hok
    obtain ⟨A, L, c, rfl, h1⟩ := h1
    obtain ⟨B, m, d, rfl, h2⟩ := h2
    have R1 : Rd C w (.slice A L c) xs := ⟨_, _, _, rfl, h1⟩
    have R2 : Rd D w (.slice B m d) fs := ⟨_, _, _, rfl, h2⟩
    have L1 := hid h1.len
    have L2 := hid h2.len
    have e1 : L ≤ 64 := by have := seqOk_len s1; have := h1.len; omega
    have e2 : m ≤ 64 := by have := seqOk_len s2; have := h2.len; omega
    have p2 : 0 < m := by have := h2.len; omega
    have p2' : ((m : Int) == 0) = false := by simp; omega
    obtain ⟨b0, off0, f, rfl, hb0, cf0, hf0⟩ := h2.at_ p2
    obtain rfl : f = 1 := by rw [← hf0.out, f0]
    simp only [Nat.add_zero] at cf0
    have S1 := hid s1
    have S2 := hid s2
    have HO := hid hok
    clear hok z2 f0 hf0
    go_enter Try.func31, Try.ntmps31
    go_wp2_with (first | (go_at_call 16; (with_reducible refine (implSeq_c _ R1).mono ?_); rintro e w' ⟨rfl, rfl⟩) | (go_at_call 16; (with_reducible refine (implSeq_c _ R2).mono ?_); rintro e w' ⟨rfl, rfl⟩) | (refine wpl_make intSl _ rfl (.tmp 30) (.tmp 30) rfl _ _ L rfl rfl rfl rfl (by omega) ?_; intro w1 hown hbel hlt1))
    clear cf0
    go_loopw [34] (fun i wr => ∃ (k : Nat) (o : List Int), k ≤ L ∧ i = .int .i64 k ∧ Hid (undoTo xs fs k = some o) ∧ Own w.heap.size w1.heap.size wr (.slice (some ⟨w.heap.size, 0, none⟩) L L) (rg L fun j => o.getD j 0) ∧ Below w.heap.size w wr ∧ Hid (wr.heap.size = w1.heap.size)) (fun i _ => L - (intOf i).toNat)
    case atStart => exact ⟨0, [], Nat.zero_le _, rfl, rfl, by simpa [rg_zero] using hown, hbel, rfl⟩
    case round =>
      obtain ⟨k, o, hk, rfl, hu, ho, hb, hsz⟩ := hrel
      clear hown hbel
      have O1 := hid (undoTo_ok hu.out).1
      have O2 := hid (undoTo_ok hu.out).2
      by_cases hlt : k < L
      · obtain ⟨b, off, x, rfl, hbC, hcell, hx⟩ := h1.at_ hlt
        have c1 := (hb.cell (p := ⟨b, off + k, none⟩) (by simp; omega)).trans hcell
        have HU := undS_bound S1.out S2.out O2.out k
        have HU' := hid HU
        clear HU
        go_wp2
        obtain ⟨wo, rfl⟩ : ∃ wo, wo = wr := ⟨_, rfl⟩
        go_loopw [8, 9] (fun t i wr => ∃ j : Nat, j ≤ min (m - 1) k ∧ i = .int .i64 ((j : Int) + 1) ∧ t = .int .i64 (undS xs fs o k j) ∧ ∃ q, wr = wo.drewN q) (fun _ i _ => m + 1 - (intOf i).toNat)
        case atStart => exact ⟨0, Nat.zero_le _, rfl, by rw [undS, hx.out], 0, rfl⟩
        case round =>
          obtain ⟨j, hj, rfl, rfl, q, rfl⟩ := hrel
          have bu := HU'.out j
          by_cases hjm : j + 1 < m ∧ j + 1 ≤ k
          · obtain ⟨hj1, hj2⟩ := hjm
            obtain ⟨b', off', y, hBe, hbD, hcell', hy⟩ := h2.at_ hj1
            obtain ⟨rfl, rfl⟩ : b0 = b' ∧ off0 = off' := by simpa using hBe
            have c2 := (hb.cell (p := ⟨b0, off0 + (j + 1), none⟩) (by simp; omega)).trans hcell'
            obtain ⟨z, hz⟩ : ∃ z, Hid (o.getD (k - (j + 1)) 0 = z) := ⟨_, rfl⟩ 
            have c3 := ho.cell (k := k - (j + 1)) (by rw [rg_length]; omega)
            rw [rg_getD (by omega), hz.out] at c3
            have by' := seqOk_at S2.out (j + 1)
            rw [hy.out] at by'
            have bz := O2.out (k - (j + 1))
            rw [hz.out] at bz
            have bm := mul_bound by' bz
            have hs : Hid (undS xs fs o k (j + 1) = undS xs fs o k j - y * z) := by
              show _ = _
              rw [undS, hy.out, hz.out]
            generalize hS : undS xs fs o k j = S at bu hs
            have hS' := hid hS
            clear hS
            generalize hp : y * z = p at bm hs
            have u1 : IntKind.i64.wrap ((k : Int) - ((j : Int) + 1)) = (k : Int) - ((j : Int) + 1) := IntWalk.i64_in _ (by omega)
            have u2 : IntKind.i64.wrap (y * z) = p := by rw [hp]; exact IntWalk.i64_in _ (by omega)
            clear hp
            have u3 : IntKind.i64.wrap (S - p) = S - p := IntWalk.i64_in _ (by omega)
            have u4 : (0 : Int) ≤ (k : Int) - ((j : Int) + 1) := by omega
            have u5 : ((k : Int) - ((j : Int) + 1)).toNat = k - (j + 1) := by omega
            have u6 : (k : Int) - ((j : Int) + 1) < (L : Int) := by omega
            have u7 : (j : Int) + 1 < (m : Int) := by omega
            have u8 : ((j : Int) + 1).toNat = j + 1 := by omega
            have u9 : (j : Int) + 1 ≤ (k : Int) := by omega
            have u10 : (0 : Int) ≤ (j : Int) + 1 := by omega
            clear hcell' hBe
            go_wp2
            go_quiet (fail)
            clear u1 u2 u3 u4 u5 u6
            go_wp2
            go_roundw
            case rel => exact ⟨j + 1, by omega, by go_num, by rw [hs.out], _, rfl⟩
            case measure => simp [intOf]; omega
          · have hje : Hid (j = min (m - 1) k) := by show _ = _; omega
            have hun : Hid (undS xs fs o k j = undN xs fs o k) := by
              show _ = _
              rw [undN, L2.out, ← hje.out]
            generalize hS : undS xs fs o k j = S at bu hun
            have hS' := hid hS
            clear hS
            by_cases hin : inB S (-1000) 1000 = true
            · have r1 := (inB_iff.1 hin).1
              have r2 := (inB_iff.1 hin).2
              have hu2 : Hid (undoTo xs fs (k + 1) = some (o ++ [S])) := by
                show _ = _
                rw [undoTo, hu.out, Option.bind_some, ← hun.out, if_pos hin]
              have c3 := ho.cell (k := k) (by rw [rg_length]; exact hlt)
              have c4 := ho.free k
              have ho2 := ho.store k S
              have e : (rg L fun j => o.getD j 0).set k S = rg L fun j => (o ++ [S]).getD j 0 := by
                rw [rg_set]
                apply rg_congr
                intro i _
                rw [getD_snoc, O1.out]
                by_cases h1 : i = k
                · subst h1; simp
                · by_cases h2 : i < k
                  · rw [if_neg h1, if_pos h2]
                  · rw [if_neg h1, if_neg h2, if_neg h1]
                    simp [List.getD, List.getElem?_eq_none (show o.length ≤ i by have := O1.out; omega)]
              rw [e] at ho2
              have hb2 := hb.setCell (p := ⟨w.heap.size, k, none⟩) (Nat.le_refl _) (.int .i64 S)
              clear ho hb e hin hcell
              go_wp2
              all_goals
                go_roundw
                case rel => exact ⟨k + 1, o ++ [S], by omega, by go_num, hu2, ho2.drewN q, below_drewN hb2 q, hid (by simpa using hsz.out)⟩
                case measure => simp [intOf]; omega
            · have hin' : inB S (-1000) 1000 = false := by simpa using hin
              have hno : Hid (undo xs fs = ([], false)) := by
                show _ = _
                refine undo_none HO.out (undoTo_none (k := k + 1) ?_ _ (by have := L1.out; omega))
                rw [undoTo, hu.out, Option.bind_some, ← hun.out, hin']
                rfl
              by_cases r1 : -1000 ≤ S
              · have r2 : 1000 < S := by
                  simp [inB, r1] at hin'
                  exact hin'
                clear hin hin' hcell
                go_wp2
                all_goals
                  go_ret2
                  exact ⟨.slice none 0 0, by rw [hno.out]; rfl, by rw [hno.out]; exact Own.nil _ _ _, below_drewN hb q⟩
              · have r3 : S < -1000 := by omega
                clear hin hin' hcell
                go_wp2
                all_goals
                  go_ret2
                  exact ⟨.slice none 0 0, by rw [hno.out]; rfl, by rw [hno.out]; exact Own.nil _ _ _, below_drewN hb q⟩
      · obtain rfl : k = L := by omega
        go_wp2
        go_ret2
        have hy := undo_some HO.out (by rw [L1.out]; exact hu.out)
        refine ⟨.slice (some ⟨w.heap.size, 0, none⟩) k k, by rw [hy]; rfl, ?_, hb⟩
        rw [hy]
        have e : (rg k fun j => o.getD j 0) = o := by rw [← O1.out]; exact rg_self o
        rw [e] at ho
        exact ho.more (by rw [hsz.out]; exact Nat.le_refl _)
  · skip
    have hok' : undoOk xs fs = false := by simpa using hok
    have H := hid (undo_no hok')
    clear hok
    obtain ⟨A, L, c, rfl, h1⟩ := h1
    obtain ⟨B, m, d, rfl, h2⟩ := h2
    have R1 : Rd C w (.slice A L c) xs := ⟨_, _, _, rfl, h1⟩
    have R2 : Rd D w (.slice B m d) fs := ⟨_, _, _, rfl, h2⟩
    have l2 := h2.len
    by_cases s1 : seqOk xs = true
    · by_cases s2 : seqOk fs = true
      · by_cases z2 : m = 0
        · subst z2
          clear hok' l2 h2
          go_enter Try.func31, Try.ntmps31
          go_wp2_with (first | (go_at_call 16; (with_reducible refine (implSeq_c _ R1).mono ?_); rintro e w' ⟨rfl, rfl⟩) | (go_at_call 16; (with_reducible refine (implSeq_c _ R2).mono ?_); rintro e w' ⟨rfl, rfl⟩))
          go_ret2
          exact ⟨.slice none 0 0, by rw [H.out]; rfl, by rw [H.out]; exact Own.nil _ _ _, Below.refl _ _⟩
        · obtain ⟨b0, off0, f, rfl, hb0, cf0, hf0⟩ := h2.at_ (k := 0) (by omega)
          simp only [Nat.add_zero] at cf0
          rw [undoOk, s1, s2, l2, hf0.out] at hok'
          have hf : ¬ f = 1 := by simpa [z2] using hok'
          have p2' : ((m : Int) == 0) = false := by simp; omega
          have p3 : (f == 1) = false := by simpa using hf
          have p4 : (f != 1) = true := by simpa using hf
          have p5 : 0 < m := by omega
          clear hok' l2 hf0
          go_enter Try.func31, Try.ntmps31
          go_wp2_with (first | (go_at_call 16; (with_reducible refine (implSeq_c _ R1).mono ?_); rintro e w' ⟨rfl, rfl⟩) | (go_at_call 16; (with_reducible refine (implSeq_c _ R2).mono ?_); rintro e w' ⟨rfl, rfl⟩))
          go_ret2
          exact ⟨.slice none 0 0, by rw [H.out]; rfl, by rw [H.out]; exact Own.nil _ _ _, Below.refl _ _⟩
      · have s2' : seqOk fs = false := by simpa using s2
        clear s2 hok' l2
        go_enter Try.func31, Try.ntmps31
        go_wp2_with (first | (go_at_call 16; (with_reducible refine (implSeq_c _ R1).mono ?_); rintro e w' ⟨rfl, rfl⟩) | (go_at_call 16; (with_reducible refine (implSeq_c _ R2).mono ?_); rintro e w' ⟨rfl, rfl⟩))
        go_ret2
        exact ⟨.slice none 0 0, by rw [H.out]; rfl, by rw [H.out]; exact Own.nil _ _ _, Below.refl _ _⟩
    · have s1' : seqOk xs = false := by simpa using s1
      clear s1 hok' l2
      go_enter Try.func31, Try.ntmps31
      go_wp2_with (go_at_call 16; (with_reducible refine (implSeq_c _ R1).mono ?_); rintro e w' ⟨rfl, rfl⟩)
      go_ret2
      exact ⟨.slice none 0 0, by rw [H.out]; rfl, by rw [H.out]; exact Own.nil _ _ _, Below.refl _ _⟩

set_option maxHeartbeats 1000000 in
theorem specUndo_c {C D : Nat} {v1 v2 : Value} {xs fs : List Int} (w : World) (h1 : Rd C w v1 xs) (h2 : Rd D w v2 fs) (hC : C ≤ w.heap.size) (hD : D ≤ w.heap.size) :
    Calls Try.prog 32 #[v1, v2] w fun e w' => ∃ v', e = .returned (.tuple #[v', .bool (undo xs fs).2]) ∧ Own w.heap.size w'.heap.size w' v' (undo xs fs).1 ∧ Below w.heap.size w w' := by
  have hown := Own.empty w
  have hbel := (Below.refl w.heap.size w).alloc (Nat.le_refl _) (.cells #[] 3)
  by_cases hok : undoOk xs fs = true
  · skip
    obtain ⟨⟨⟨s1, s2⟩, z2⟩, f0⟩ : ((seqOk xs = true ∧ seqOk fs = true) ∧ fs.length ≠ 0) ∧ fs.getD 0 0 = 1 := by simpa [undoOk] using hok
    obtain ⟨A, L, c, rfl, h1⟩ := h1
    obtain ⟨B, m, d, rfl, h2⟩ := h2
    have R1 : Rd C w (.slice A L c) xs := ⟨_, _, _, rfl, h1⟩
    have R2 : Rd D w (.slice B m d) fs := ⟨_, _, _, rfl, h2⟩
    have L1 := hid h1.len
    have L2 := hid h2.len
    have e1 : L ≤ 64 := by have := seqOk_len s1; have := h1.len; omega
    have e2 : m ≤ 64 := by have := seqOk_len s2; have := h2.len; omega
    have p2 : 0 < m := by have := h2.len; omega
    have p2' : ((m : Int) == 0) = false := by simp; omega
    obtain ⟨b0, off0, f, rfl, hb0, cf0, hf0⟩ := h2.at_ p2
    obtain rfl : f = 1 := by rw [← hf0.out, f0]
    simp only [Nat.add_zero] at cf0
    have S1 := hid s1
    have S2 := hid s2
    have HO := hid hok
    clear hok z2 f0 hf0
    have R1' := R1.below hbel hC
    have R2' := R2.below hbel hD
    have cf1 := (hbel.cell (p := ⟨b0, off0, none⟩) (by simp; omega)).trans cf0
    go_enter Try.func32, Try.ntmps32
    go_wp2_with (first | (go_at_call 35; (with_reducible refine (specSeq_c _ R1').mono ?_); rintro e w' ⟨rfl, rfl⟩) | (go_at_call 35; (with_reducible refine (specSeq_c _ R2').mono ?_); rintro e w' ⟨rfl, rfl⟩))
    clear cf0 cf1 R1' R2'
    go_loopw [6, 7] (fun out i wr => ∃ (k : Nat) (o : List Int), k ≤ L ∧ i = .int .i64 k ∧ Hid (undoTo xs fs k = some o) ∧ Own w.heap.size wr.heap.size wr out o ∧ Below w.heap.size w wr) (fun _ i _ => L - (intOf i).toNat)
    case atStart => exact ⟨0, [], Nat.zero_le _, rfl, rfl, by simpa using hown, hbel⟩
    case round =>
      obtain ⟨k, o, hk, rfl, hu, ho, hb⟩ := hrel
      clear hown hbel
      have O1 := hid (undoTo_ok hu.out).1
      have O2 := hid (undoTo_ok hu.out).2
      have hsz := hb.size
      obtain ⟨A', n', c', rfl, hrd⟩ := ho.rd
      obtain rfl : n' = k := by rw [← hrd.len, O1.out]
      by_cases hlt : n' < L
      · obtain ⟨b, off, x, rfl, hbC, hcell, hx⟩ := h1.at_ hlt
        have c1 := (hb.cell (p := ⟨b, off + n', none⟩) (by simp; omega)).trans hcell
        obtain ⟨k, rfl⟩ : ∃ k, k = n' := ⟨_, rfl⟩
        have HU := undS_bound S1.out S2.out O2.out k
        have HU' := hid HU
        clear HU
        go_wp2
        obtain ⟨wo, rfl⟩ : ∃ wo, wo = wr := ⟨_, rfl⟩
        go_loopw [8, 9] (fun t i wr => ∃ j : Nat, j ≤ min (m - 1) k ∧ i = .int .i64 ((j : Int) + 1) ∧ t = .int .i64 (undS xs fs o k j) ∧ ∃ q, wr = wo.drewN q) (fun _ i _ => m + 1 - (intOf i).toNat)
        case atStart => exact ⟨0, Nat.zero_le _, rfl, by rw [undS, hx.out], 0, rfl⟩
        case round =>
          obtain ⟨j, hj, rfl, rfl, q, rfl⟩ := hrel
          have bu := HU'.out j
          by_cases hjm : j + 1 < m ∧ j + 1 ≤ k
          · obtain ⟨hj1, hj2⟩ := hjm
            obtain ⟨b', off', y, hBe, hbD, hcell', hy⟩ := h2.at_ hj1
            obtain ⟨rfl, rfl⟩ : b0 = b' ∧ off0 = off' := by simpa using hBe
            have c2 := (hb.cell (p := ⟨b0, off0 + (j + 1), none⟩) (by simp; omega)).trans hcell'
            obtain ⟨g, goff, z, rfl, _, c3, hz⟩ := hrd.at_ (k := k - (j + 1)) (by omega)
            have by' := seqOk_at S2.out (j + 1)
            rw [hy.out] at by'
            have bz := O2.out (k - (j + 1))
            rw [hz.out] at bz
            have bm := mul_bound by' bz
            have hs : Hid (undS xs fs o k (j + 1) = undS xs fs o k j - y * z) := by
              show _ = _
              rw [undS, hy.out, hz.out]
            generalize hS : undS xs fs o k j = S at bu hs
            have hS' := hid hS
            clear hS
            generalize hp : y * z = p at bm hs
            have u1 : IntKind.i64.wrap ((k : Int) - ((j : Int) + 1)) = (k : Int) - ((j : Int) + 1) := IntWalk.i64_in _ (by omega)
            have u2 : IntKind.i64.wrap (y * z) = p := by rw [hp]; exact IntWalk.i64_in _ (by omega)
            clear hp
            have u3 : IntKind.i64.wrap (S - p) = S - p := IntWalk.i64_in _ (by omega)
            have u4 : (0 : Int) ≤ (k : Int) - ((j : Int) + 1) := by omega
            have u5 : ((k : Int) - ((j : Int) + 1)).toNat = k - (j + 1) := by omega
            have u6 : (k : Int) - ((j : Int) + 1) < (L : Int) := by omega
            have u7 : (j : Int) + 1 < (m : Int) := by omega
            have u8 : ((j : Int) + 1).toNat = j + 1 := by omega
            have u9 : (j : Int) + 1 ≤ (k : Int) := by omega
            have u10 : (0 : Int) ≤ (j : Int) + 1 := by omega
            clear hcell' hBe
            go_wp2
            go_quiet (fail)
            clear u1 u2 u3 u4 u5 u6
            go_wp2
            go_roundw
            case rel => exact ⟨j + 1, by omega, by go_num, by rw [hs.out], _, rfl⟩
            case measure => simp [intOf]; omega
          · have hje : Hid (j = min (m - 1) k) := by show _ = _; omega
            have hun : Hid (undS xs fs o k j = undN xs fs o k) := by
              show _ = _
              rw [undN, L2.out, ← hje.out]
            generalize hS : undS xs fs o k j = S at bu hun
            have hS' := hid hS
            clear hS
            have ho2 := ho.drewN q
            have hb2 := below_drewN hb q
            have hsz2 : w.heap.size ≤ (wo.drewN q).heap.size := hb2.size
            have hwq : Hid ((wo.drewN q).heap.size = wo.heap.size) := rfl
            rw [← hwq.out] at ho2
            clear ho hb hrd hsz hwq hcell c1
            by_cases hin : inB S (-1000) 1000 = true
            · have hu2 : Hid (undoTo xs fs (k + 1) = some (o ++ [S])) := by
                show _ = _
                rw [undoTo, hu.out, Option.bind_some, ← hun.out, if_pos hin]
              generalize wo.drewN q = wq at *
              go_wp2_with (first | (go_at_call 40; refine (l1In_c _ _ _ _).mono ?_; rintro e w' ⟨rfl, rfl⟩) | (at_builtin; refine wpl_appl intSl _ rfl (.tmp 69) (.tmp 71) rfl w.heap.size wq.heap.size _ _ _ [S] 1 rfl rfl rfl rfl ho2 (Nat.le_refl _) (by rw [O1.out]; omega) hsz2 ?_; intro v' w1 ho1 hg1; have hb1 := hb2.grown hg1 hsz2 (fun q hq => (ho2.lt q hq).1)))
              all_goals
                clear ho2 hb2 hg1
                go_wp2
                go_roundw
                case rel => exact ⟨k + 1, o ++ [S], by omega, by go_num, hu2, ho1, hb1⟩
                case measure => simp [intOf]; omega
            · have hin' : inB S (-1000) 1000 = false := by simpa using hin
              have hno : Hid (undo xs fs = ([], false)) := by
                show _ = _
                refine undo_none HO.out (undoTo_none (k := k + 1) ?_ _ (by have := L1.out; omega))
                rw [undoTo, hu.out, Option.bind_some, ← hun.out, hin']
                rfl
              clear hin
              generalize wo.drewN q = wq at *
              have hb3 := hb2.alloc hsz2 (.cells #[] 3)
              have ho3 := (Own.empty wq).less hsz2
              clear hb2 ho2
              go_wp2_with (go_at_call 40; refine (l1In_c _ _ _ _).mono ?_; rintro e w' ⟨rfl, rfl⟩)
              all_goals
                go_ret2
                exact ⟨.slice (some ⟨wq.heap.size, 0, none⟩) 0 0, by rw [hno.out]; rfl, by rw [hno.out]; exact ho3.more (by simp), hb3⟩
      · obtain rfl : n' = L := by omega
        have hy := undo_some HO.out (by rw [L1.out]; exact hu.out)
        have HY := hid hy
        clear hy
        go_wp2
        go_ret2
        refine ⟨.slice A' n' c', by rw [HY.out]; rfl, ?_, hb⟩
        rw [HY.out]
        exact ho
  · have R0 : ∀ {X : Nat} {v : Value} {zs : List Int}, Rd X w v zs → X ≤ w.heap.size → Rd X (w.alloc (.cells #[] 3)) v zs := fun h hX => h.below hbel hX
    have hok' : undoOk xs fs = false := by simpa using hok
    have H := hid (undo_no hok')
    clear hok
    obtain ⟨A, L, c, rfl, h1⟩ := h1
    obtain ⟨B, m, d, rfl, h2⟩ := h2
    have R1 : Rd C w (.slice A L c) xs := ⟨_, _, _, rfl, h1⟩
    have R2 : Rd D w (.slice B m d) fs := ⟨_, _, _, rfl, h2⟩
    have R1' := R0 R1 hC
    have R2' := R0 R2 hD
    clear R0
    have l2 := h2.len
    have FIN : Hid (∀ e : Ending, e = .returned (.tuple #[.slice (some ⟨w.heap.size, 0, none⟩) 0 0, .bool false]) → ∃ v', e = .returned (.tuple #[v', .bool (undo xs fs).2]) ∧ Own w.heap.size (w.alloc (.cells #[] 3)).heap.size (w.alloc (.cells #[] 3)) v' (undo xs fs).1 ∧ Below w.heap.size w (w.alloc (.cells #[] 3))) := by
      intro e he
      rw [H.out]
      exact ⟨_, he, hown.more (by simp), hbel⟩
    clear hown
    by_cases s1 : seqOk xs = true
    · by_cases s2 : seqOk fs = true
      · by_cases z2 : m = 0
        · subst z2
          clear hok' l2 h2 hbel
          go_enter Try.func32, Try.ntmps32
          go_wp2_with (first | (go_at_call 35; (with_reducible refine (specSeq_c _ R1').mono ?_); rintro e w' ⟨rfl, rfl⟩) | (go_at_call 35; (with_reducible refine (specSeq_c _ R2').mono ?_); rintro e w' ⟨rfl, rfl⟩))
          go_ret2
          exact FIN.out _ rfl
        · obtain ⟨b0, off0, f, rfl, hb0, cf0, hf0⟩ := h2.at_ (k := 0) (by omega)
          simp only [Nat.add_zero] at cf0
          have cf1 := (hbel.cell (p := ⟨b0, off0, none⟩) (by simp; omega)).trans cf0
          rw [undoOk, s1, s2, l2, hf0.out] at hok'
          have hf : ¬ f = 1 := by simpa [z2] using hok'
          have p2' : ((m : Int) == 0) = false := by simp; omega
          have p3 : (f == 1) = false := by simpa using hf
          have p4 : (f != 1) = true := by simpa using hf
          have p5 : 0 < m := by omega
          clear hok' l2 hf0 cf0 hbel
          go_enter Try.func32, Try.ntmps32
          go_wp2_with (first | (go_at_call 35; (with_reducible refine (specSeq_c _ R1').mono ?_); rintro e w' ⟨rfl, rfl⟩) | (go_at_call 35; (with_reducible refine (specSeq_c _ R2').mono ?_); rintro e w' ⟨rfl, rfl⟩))
          go_ret2
          exact FIN.out _ rfl
      · have s2' : seqOk fs = false := by simpa using s2
        clear s2 hok' l2 hbel
        go_enter Try.func32, Try.ntmps32
        go_wp2_with (first | (go_at_call 35; (with_reducible refine (specSeq_c _ R1').mono ?_); rintro e w' ⟨rfl, rfl⟩) | (go_at_call 35; (with_reducible refine (specSeq_c _ R2').mono ?_); rintro e w' ⟨rfl, rfl⟩))
        go_ret2
        exact FIN.out _ rfl
    · have s1' : seqOk xs = false := by simpa using s1
      clear s1 hok' l2 hbel
      go_enter Try.func32, Try.ntmps32
      go_wp2_with (go_at_call 35; (with_reducible refine (specSeq_c _ R1').mono ?_); rintro e w' ⟨rfl, rfl⟩)
      go_ret2
      exact FIN.out _ rfl

end Go.Proofs.Ytebbljgmliikfaa
