/-
  Encoding a stream, the program's way (by tables) and the reference's: both write the code of the way of the bits.
-/
import Derived.Test.YtnlacmbmmlmpjaaDoorVitLaw
import Derived.Test.YtnlacmbmmlmpjaaDoorBits
import Derived.Test.YtnlacmbmmlmpjaaDoorTabs
namespace Go.Proofs.YtnlacmbmmlmpjaaDoor
open Go.RowKit T

/-! ### plain facts -/
def sOk (xs : List Int) : Bool := bitsOk xs && decide (xs.length ≤ 40)
def encS (xs : List Int) : List Int := if sOk xs = true then rg (2 * (xs.length + 2)) (cdf (way xs)) else []
theorem encS_yes {xs : List Int} (h : sOk xs = true) : encS xs = rg (2 * (xs.length + 2)) (cdf (way xs)) := by rw [encS, if_pos h]
theorem encS_no {xs : List Int} (h : sOk xs = false) : encS xs = [] := by rw [encS, if_neg (by rw [h]; decide)]
/-- the way of the first k bits, two zeros at the end -/
def wy (xs : List Int) (k : Nat) : List Int := ((xs ++ [0, 0]).take k).reverse
def xk (xs : List Int) (k : Nat) : Int := if k < xs.length then xs.getD k 0 else 0
theorem wy_zero (xs : List Int) : wy xs 0 = [] := rfl
theorem wy_length {xs : List Int} {k : Nat} (h : k ≤ xs.length + 2) : (wy xs k).length = k := by simp [wy]; omega
theorem wy_next {xs : List Int} {k : Nat} (h : k < xs.length + 2) : wy xs (k + 1) = xk xs k :: wy xs k := by
  unfold wy
  rw [List.take_succ_eq_append_getElem (by simpa using h), List.reverse_append]
  show _ :: _ = _
  congr 1
  unfold xk
  by_cases h1 : k < xs.length
  · rw [if_pos h1, List.getElem_append_left h1]
    simp [List.getD, h1]
  · rw [if_neg h1, List.getElem_append_right (by omega)]
    rcases (by omega : k = xs.length ∨ k = xs.length + 1) with rfl | rfl <;> simp
theorem wy_end (xs : List Int) : wy xs (xs.length + 2) = way xs := by
  unfold wy way
  rw [List.take_of_length_le (by simp), List.reverse_append]; rfl
theorem xk_bit {xs : List Int} (h : bitsOk xs = true) (k : Nat) : xk xs k = 0 ∨ xk xs k = 1 := by
  unfold xk; split
  · exact bitsOk_at h k
  · exact .inl rfl
theorem wy_bits {xs : List Int} (h : bitsOk xs = true) {k : Nat} (hk : k ≤ xs.length + 2) : T.Bits (wy xs k) := by
  induction k with
  | zero => intro b hb; simp [wy] at hb
  | succ k ih =>
    rw [wy_next (by omega)]
    intro b hb
    rcases List.mem_cons.1 hb with rfl | hb
    · exact xk_bit h k
    · exact ih (by omega) b hb
theorem cdf_next (b : Int) (r : List Int) : rg (2 * r.length) (cdf r) ++ [o1 b (sA r) (sC r), o2 b (sC r)] = rg (2 * (r.length + 1)) (cdf (b :: r)) := by
  have e1 : rg (2 * r.length) (cdf r) = rg (2 * r.length) (cdf (b :: r)) := rg_congr fun i hi => (cdf_lt hi).symm
  rw [e1, ← cdf_1 b r, ← cdf_2 b r, show [cdf (b :: r) (2 * r.length), cdf (b :: r) (2 * r.length + 1)] = [cdf (b :: r) (2 * r.length)] ++ [cdf (b :: r) (2 * r.length + 1)] from rfl, ← List.append_assoc, rg_snoc, rg_snoc]
  rfl
theorem bits_of {xs : List Int} (h : bitsOk xs = true) : T.Bits xs := fun b hb => by have := (bitsOk_iff.1 h).1 b hb; omega
/-- one step of a code -/
theorem code_step {xs : List Int} {k : Nat} (h : k < xs.length + 2) {b : Int} (hb : xk xs k = b) :
    rg (2 * k) (cdf (wy xs k)) ++ [o1 b (sA (wy xs k)) (sC (wy xs k)), o2 b (sC (wy xs k))] = rg (2 * (k + 1)) (cdf (wy xs (k + 1))) ∧ sA (wy xs (k + 1)) = b ∧ sC (wy xs (k + 1)) = sA (wy xs k) := by
  have hl := wy_length (Nat.le_of_lt h)
  have := cdf_next b (wy xs k)
  rw [hl] at this
  rw [wy_next h, hb]
  exact ⟨this, sA_cons _ _, sC_cons _ _⟩

section
variable {P : Program} {t : TypeId} {ops : Array Oper} {rest : List Oper} {o : Oper} {a : Act} {Q : Exit → Act → World → Prop}
/-- append of numbers that are written out, the block's number spelled otherwise -/
theorem wpl_applG (T : IntSl P t) (W : World) (hg : o.guard = none) (s x : Operand) (ho : o.op = .call { callee := .builtin .append, args := #[s, x], argTypes := #[t, t] })
    (B C : Nat) (v : Value) (xs : List Int) (cs : Array Value) (ys : List Int) (n G : Nat) (hcs : cs.toList = ys.map (Value.int .i64)) (hn : ys.length = n) (hs : a.eval s = v) (hx : a.eval x = .slice (some ⟨G, 0, none⟩) n n) (hG : G = W.heap.size)
    (hown : Own B C W v xs) (hC : C ≤ W.heap.size) (hsm : xs.length + n ≤ 4194304) (hB : B ≤ W.heap.size)
    (h : ∀ v' w', Own B w'.heap.size w' v' (xs ++ ys) → W.grownBy w' v.ownBlock → wpList P ops Q rest (a.put o.dst v') w') : wpList P ops Q (o :: rest) a (W.alloc (.cells cs 3)) := by
  subst hG
  exact wpl_appl T W hg s x ho B C v xs cs ys n hcs hn hs hx hown hC hsm hB h
end

set_option maxHeartbeats 4000000 in
theorem implEncS_c {C : Nat} {v : Value} {xs : List Int} (w : World) (T1 : TtrellisNext w) (T2 : TtrellisOut w) (h : Rd C w v xs) (hC : C ≤ w.heap.size) :
    Calls Tryd.prog 13 #[v] w fun e w' => ∃ v', e = .returned v' ∧ Own w.heap.size w'.heap.size w' v' (encS xs) ∧ Below w.heap.size w w' := by
  have Q := implBits_c w h
  cases s1 : sOk xs with
  | false =>
    have H := hid (encS_no s1)
    by_cases hb : bitsOk xs = true
    · have hl : ¬ xs.length ≤ 40 := fun e => by rw [sOk, hb, decide_eq_true e] at s1; cases s1
      rw [hb] at Q
      have Q := hid Q
      obtain ⟨A, n, c, rfl, h⟩ := h
      have hn : ¬ n ≤ 40 := by rw [← h.len]; exact hl
      have hsm := h.sm
      have hn' : 40 < n := by omega
      clear s1 T1 T2 hl h hb hn
      go_enter Tryd.func13, Tryd.ntmps13
      go_wp2_with fail
      refine Q.out.mono ?_
      rintro e w' ⟨rfl, rfl⟩
      go_wp2
      go_ret
      exact ⟨_, rfl, by rw [H.out]; exact Own.nil _ _ _, Below.refl _ _⟩
    · have hb' : bitsOk xs = false := by simpa using hb
      rw [hb'] at Q
      have Q := hid Q
      clear s1 T1 T2 h hb hb'
      go_enter Tryd.func13, Tryd.ntmps13
      go_wp2_with fail
      refine Q.out.mono ?_
      rintro e w' ⟨rfl, rfl⟩
      go_wp2
      go_ret
      exact ⟨_, rfl, by rw [H.out]; exact Own.nil _ _ _, Below.refl _ _⟩
  | true =>
    have H := hid (encS_yes s1)
    obtain ⟨hb, hl⟩ : bitsOk xs = true ∧ xs.length ≤ 40 := by simpa [sOk] using s1
    rw [hb] at Q
    have Q := hid Q
    have HB := hid hb
    have l1 := T1.lt
    have l2 := T2.lt
    obtain ⟨A, n, c, rfl, h⟩ := h
    have HL := hid h.len
    rw [h.len] at hl
    clear s1 hb
    go_enter Tryd.func13, Tryd.ntmps13
    go_wp2_with fail
    refine Q.out.mono ?_
    rintro e w' ⟨rfl, rfl⟩
    go_wp2_with (refine wpl_make0 intSl _ rfl (.const (.int .i64 0)) (.tmp 19) rfl _ (2 * n + 4) rfl rfl (by omega) (by omega) ?_; intro w1 ho b1 hlt1)
    go_loopw [3, 4, 5, 6, 7, 24] (fun o s _ _ _ i wr => ∃ (k : Nat) (st : Int), k ≤ n + 2 ∧ i = .int .i64 k ∧ s = .int .i64 st ∧ Hid (st = 2 * sA (wy xs k) + sC (wy xs k)) ∧ Own w.heap.size wr.heap.size wr o (rg (2 * k) (cdf (wy xs k))) ∧ Below w.heap.size w wr) (fun _ _ _ _ _ i _ => n + 2 - (intOf i).toNat)
    case atStart => exact ⟨0, 0, by omega, rfl, rfl, rfl, ho, b1⟩
    case round =>
      obtain ⟨k, st, hk, rfl, rfl, hst, ho, hb⟩ := hrel
      have hsz := hb.size
      by_cases hlt : k < n + 2
      · have T1' := T1.below hb l1
        have T2' := T2.below hb l2
        have R' := h.below hb hC
        have wb := wy_bits HB.out (show k ≤ xs.length + 2 by rw [HL.out]; omega)
        have ha := wb.sA
        have hc := wb.sC
        have d0 : wr.cell? ⟨0, 0, none⟩ = some (.int .i64 0) := T2'.at_ 0 (by decide)
        have d1 : wr.cell? ⟨0, 1, none⟩ = some (.int .i64 0) := T2'.at_ 1 (by decide)
        have d2 : wr.cell? ⟨0, 2, none⟩ = some (.int .i64 1) := T2'.at_ 2 (by decide)
        have d3 : wr.cell? ⟨0, 3, none⟩ = some (.int .i64 1) := T2'.at_ 3 (by decide)
        have d4 : wr.cell? ⟨0, 4, none⟩ = some (.int .i64 1) := T2'.at_ 4 (by decide)
        have d5 : wr.cell? ⟨0, 5, none⟩ = some (.int .i64 1) := T2'.at_ 5 (by decide)
        have d6 : wr.cell? ⟨0, 6, none⟩ = some (.int .i64 0) := T2'.at_ 6 (by decide)
        have d7 : wr.cell? ⟨0, 7, none⟩ = some (.int .i64 0) := T2'.at_ 7 (by decide)
        have d8 : wr.cell? ⟨0, 8, none⟩ = some (.int .i64 1) := T2'.at_ 8 (by decide)
        have d9 : wr.cell? ⟨0, 9, none⟩ = some (.int .i64 0) := T2'.at_ 9 (by decide)
        have d10 : wr.cell? ⟨0, 10, none⟩ = some (.int .i64 0) := T2'.at_ 10 (by decide)
        have d11 : wr.cell? ⟨0, 11, none⟩ = some (.int .i64 1) := T2'.at_ 11 (by decide)
        have d12 : wr.cell? ⟨0, 12, none⟩ = some (.int .i64 0) := T2'.at_ 12 (by decide)
        have d13 : wr.cell? ⟨0, 13, none⟩ = some (.int .i64 1) := T2'.at_ 13 (by decide)
        have d14 : wr.cell? ⟨0, 14, none⟩ = some (.int .i64 1) := T2'.at_ 14 (by decide)
        have d15 : wr.cell? ⟨0, 15, none⟩ = some (.int .i64 0) := T2'.at_ 15 (by decide)
        have step : ∀ b, xk xs k = b → Hid (rg (2 * k) (cdf (wy xs k)) ++ [o1 b (sA (wy xs k)) (sC (wy xs k)), o2 b (sC (wy xs k))] = rg (2 * (k + 1)) (cdf (wy xs (k + 1))) ∧ sA (wy xs (k + 1)) = b ∧ sC (wy xs (k + 1)) = sA (wy xs k)) := fun b hb => code_step (by rw [HL.out]; exact hlt) hb
        have hlen : (rg (2 * k) (cdf (wy xs k))).length = 2 * k := rg_length _ _
        have HLN := hid hlen
        clear T2' wb hlen
        generalize rg (2 * k) (cdf (wy xs k)) = ys at ho step HLN
        generalize sA (wy xs k) = a at hst ha step
        generalize sC (wy xs k) = c' at hst hc step
        by_cases hkn : k < n
        · obtain ⟨b, off, x, rfl, _, c1, hx⟩ := R'.at_ hkn
          have hxk : xk xs k = x := by unfold xk; rw [if_pos (by rw [HL.out]; exact hkn)]; exact hx.out
          have hxb := xk_bit HB.out k
          rw [hxk] at hxb
          have S := step x hxk
          clear step hxk hx R'
          rcases (by have := hst.out; omega : (st = 0 ∧ a = 0 ∧ c' = 0) ∨ (st = 1 ∧ a = 0 ∧ c' = 1) ∨ (st = 2 ∧ a = 1 ∧ c' = 0) ∨ (st = 3 ∧ a = 1 ∧ c' = 1)) with ⟨rfl, rfl, rfl⟩ | ⟨rfl, rfl, rfl⟩ | ⟨rfl, rfl, rfl⟩ | ⟨rfl, rfl, rfl⟩ <;> rcases hxb with rfl | rfl
          all_goals
            clear hst ha hc
            go_wp2_with (at_builtin; refine wpl_applG intSl _ rfl (.tmp 40) (.tmp 45) rfl w.heap.size wr.heap.size _ _ _ [_, _] 2 _ rfl rfl rfl rfl (by simp) (ho.alloc (Nat.le_refl _) _) (by simp) (by rw [HLN.out]; omega) (by simp; omega) ?_; intro v' w6 ho6 g6; have hb6 := (hb.alloc hsz _).trans (below_of_own (ho.alloc (Nat.le_refl _) _) g6 (Nat.le_refl _) (by simp; omega)); have T16 := T1.below hb6 l1; have n0 : w6.cell? ⟨1, 0, none⟩ = some (.int .i64 0) := T16.at_ 0 (by decide); have n1 : w6.cell? ⟨1, 1, none⟩ = some (.int .i64 2) := T16.at_ 1 (by decide); have n2 : w6.cell? ⟨1, 2, none⟩ = some (.int .i64 0) := T16.at_ 2 (by decide); have n3 : w6.cell? ⟨1, 3, none⟩ = some (.int .i64 2) := T16.at_ 3 (by decide); have n4 : w6.cell? ⟨1, 4, none⟩ = some (.int .i64 1) := T16.at_ 4 (by decide); have n5 : w6.cell? ⟨1, 5, none⟩ = some (.int .i64 3) := T16.at_ 5 (by decide); have n6 : w6.cell? ⟨1, 6, none⟩ = some (.int .i64 1) := T16.at_ 6 (by decide); have n7 : w6.cell? ⟨1, 7, none⟩ = some (.int .i64 3) := T16.at_ 7 (by decide); have ho7 : Own w.heap.size w6.heap.size w6 v' (rg (2 * (k + 1)) (cdf (wy xs (k + 1)))) := (by rw [← S.out.1]; exact ho6); clear T16 g6 ho6)
            go_roundw
            case rel => exact ⟨k + 1, _, by omega, by go_num, rfl, by show _ = _; rw [S.out.2.1, S.out.2.2]; rfl, ho7, hb6⟩
            case measure => simp [intOf]; omega
        · have hxk : xk xs k = 0 := by unfold xk; rw [if_neg (by rw [HL.out]; exact hkn)]
          have S := step 0 hxk
          clear step hxk R'
          rcases (by have := hst.out; omega : (st = 0 ∧ a = 0 ∧ c' = 0) ∨ (st = 1 ∧ a = 0 ∧ c' = 1) ∨ (st = 2 ∧ a = 1 ∧ c' = 0) ∨ (st = 3 ∧ a = 1 ∧ c' = 1)) with ⟨rfl, rfl, rfl⟩ | ⟨rfl, rfl, rfl⟩ | ⟨rfl, rfl, rfl⟩ | ⟨rfl, rfl, rfl⟩
          all_goals
            clear hst ha hc
            go_wp2_with (at_builtin; refine wpl_applG intSl _ rfl (.tmp 40) (.tmp 45) rfl w.heap.size wr.heap.size _ _ _ [_, _] 2 _ rfl rfl rfl rfl (by simp) (ho.alloc (Nat.le_refl _) _) (by simp) (by rw [HLN.out]; omega) (by simp; omega) ?_; intro v' w6 ho6 g6; have hb6 := (hb.alloc hsz _).trans (below_of_own (ho.alloc (Nat.le_refl _) _) g6 (Nat.le_refl _) (by simp; omega)); have T16 := T1.below hb6 l1; have n0 : w6.cell? ⟨1, 0, none⟩ = some (.int .i64 0) := T16.at_ 0 (by decide); have n1 : w6.cell? ⟨1, 1, none⟩ = some (.int .i64 2) := T16.at_ 1 (by decide); have n2 : w6.cell? ⟨1, 2, none⟩ = some (.int .i64 0) := T16.at_ 2 (by decide); have n3 : w6.cell? ⟨1, 3, none⟩ = some (.int .i64 2) := T16.at_ 3 (by decide); have n4 : w6.cell? ⟨1, 4, none⟩ = some (.int .i64 1) := T16.at_ 4 (by decide); have n5 : w6.cell? ⟨1, 5, none⟩ = some (.int .i64 3) := T16.at_ 5 (by decide); have n6 : w6.cell? ⟨1, 6, none⟩ = some (.int .i64 1) := T16.at_ 6 (by decide); have n7 : w6.cell? ⟨1, 7, none⟩ = some (.int .i64 3) := T16.at_ 7 (by decide); have ho7 : Own w.heap.size w6.heap.size w6 v' (rg (2 * (k + 1)) (cdf (wy xs (k + 1)))) := (by rw [← S.out.1]; exact ho6); clear T16 g6 ho6)
            go_roundw
            case rel => exact ⟨k + 1, _, by omega, by go_num, rfl, by show _ = _; rw [S.out.2.1, S.out.2.2]; rfl, ho7, hb6⟩
            case measure => simp [intOf]; omega
      · obtain rfl : k = n + 2 := by omega
        go_wp2
        go_ret
        exact ⟨_, rfl, by rw [H.out, HL.out, ← wy_end, HL.out]; exact ho, hb⟩

end Go.Proofs.YtnlacmbmmlmpjaaDoor
