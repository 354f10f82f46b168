/-
  The reference's paths: their order; the survivors as they are filled in. The walk of the comparison.
-/
import Derived.Test.YtnlacmbmmlmpjaaDoorDecSt
import Derived.Laws.Rows
import Derived.BigRegion
namespace Go.Proofs.YtnlacmbmmlmpjaaDoor
open Go.RowKit T

/-! ### the order of ways, read from the front -/
theorem getD_app_left {xs ys : List Int} {k : Nat} (h : k < xs.length) : (xs ++ ys).getD k 0 = xs.getD k 0 := by
  simp [List.getD_eq_getElem?_getD, List.getElem?_append_left h]
theorem getD_app_end {xs : List Int} {a : Int} : (xs ++ [a]).getD xs.length 0 = a := by
  simp [List.getD_eq_getElem?_getD]
theorem lt_front : ∀ {p q : List Int} {k : Nat}, p.length = q.length → k < p.length → (∀ i, i < k → p.reverse.getD i 0 = q.reverse.getD i 0) → p.reverse.getD k 0 ≠ q.reverse.getD k 0 → T.lt p q = decide (p.reverse.getD k 0 < q.reverse.getD k 0)
  | [], _, _, _, hk, _, _ => by simp at hk
  | a :: p, [], _, hl, _, _, _ => by simp at hl
  | a :: p, b :: q, k, hl, hk, he, hne => by
    have hl' : p.length = q.length := by simpa using hl
    simp only [List.reverse_cons] at he hne ⊢
    simp only [List.length_cons] at hk
    by_cases hkp : k < p.length
    · have e1 : ∀ i, i < p.length → (p.reverse ++ [a]).getD i 0 = p.reverse.getD i 0 := fun i hi => getD_app_left (by simpa using hi)
      have e2 : ∀ i, i < p.length → (q.reverse ++ [b]).getD i 0 = q.reverse.getD i 0 := fun i hi => getD_app_left (by simp; omega)
      rw [e1 k hkp, e2 k hkp] at hne ⊢
      have hpq : p ≠ q := by rintro rfl; exact hne rfl
      simp only [T.lt]
      rw [if_neg hpq]
      exact lt_front hl' hkp (fun i hi => by have := he i hi; rwa [e1 i (by omega), e2 i (by omega)] at this) hne
    · obtain rfl : k = p.length := by omega
      have hpq : p = q := by
        have : p.reverse = q.reverse := list_ext_getD (by simp [hl']) fun i hi => by
          have hi' : i < p.length := by simpa using hi
          have := he i hi'
          rwa [getD_app_left hi, getD_app_left (by simp; omega)] at this
        simpa using congrArg List.reverse this
      subst hpq
      have e1 : (p.reverse ++ [a]).getD p.length 0 = a := by have := getD_app_end (xs := p.reverse) (a := a); rwa [List.length_reverse] at this
      have e2 : (p.reverse ++ [b]).getD p.length 0 = b := by have := getD_app_end (xs := p.reverse) (a := b); rwa [List.length_reverse] at this
      rw [e1, e2]
      simp [T.lt]
theorem lt_same {p q : List Int} (hl : p.length = q.length) (h : ∀ i, i < p.length → p.reverse.getD i 0 = q.reverse.getD i 0) : T.lt p q = false := by
  have : p.reverse = q.reverse := list_ext_getD (by simp [hl]) fun i hi => h i (by simpa using hi)
  have : p = q := by simpa using congrArg List.reverse this
  rw [this, lt_irrefl]

/-! ### the survivors, as they are filled in -/
/-- the survivor of k steps whose state is s (the last bit in the place of weight 1) -/
def zs7 (y : Nat → Int) (n k s : Nat) : Option (List Int) := vit y n k ((s % 2 : Nat) : Int) ((s / 2 : Nat) : Int)
def nz (y : Nat → Int) (n k s j t : Nat) : Option (List Int) :=
  if n ≤ k ∧ t % 2 = 1 then none else
    pick y (if t / 2 < s ∨ (t / 2 = s ∧ t % 2 < j) then (zs7 y n k (t / 2)).map (((t % 2 : Nat) : Int) :: ·) else none)
      (if t / 2 + 2 < s ∨ (t / 2 + 2 = s ∧ t % 2 < j) then (zs7 y n k (t / 2 + 2)).map (((t % 2 : Nat) : Int) :: ·) else none)
theorem nz_start (y : Nat → Int) (n k : Nat) (t : Nat) : nz y n k 0 0 t = none := by
  unfold nz
  split
  · rfl
  · rw [if_neg (by omega), if_neg (by omega)]; rfl
theorem nz_end (y : Nat → Int) (n k : Nat) {t : Nat} (ht : t < 4) : nz y n k 4 0 t = zs7 y n (k + 1) t := by
  rcases lt4 ht with rfl | rfl | rfl | rfl <;> by_cases h : n ≤ k <;> simp [nz, zs7, vit, h]
theorem nz_state (y : Nat → Int) (n k s t : Nat) : nz y n k s 2 t = nz y n k (s + 1) 0 t := by
  unfold nz
  have e1 : (t / 2 < s ∨ t / 2 = s ∧ t % 2 < 2) ↔ (t / 2 < s + 1 ∨ t / 2 = s + 1 ∧ t % 2 < 0) := by omega
  have e2 : (t / 2 + 2 < s ∨ t / 2 + 2 = s ∧ t % 2 < 2) ↔ (t / 2 + 2 < s + 1 ∨ t / 2 + 2 = s + 1 ∧ t % 2 < 0) := by omega
  simp only [e1, e2]
theorem nz_nil (y : Nat → Int) (n k s t : Nat) (hs : zs7 y n k s = none) : nz y n k s 0 t = nz y n k (s + 1) 0 t := by
  unfold nz
  split
  · rfl
  · congr 1
    · by_cases h : t / 2 = s
      · subst h; rw [hs]; simp
      · have : (t / 2 < s ∨ t / 2 = s ∧ t % 2 < 0) ↔ (t / 2 < s + 1 ∨ t / 2 = s + 1 ∧ t % 2 < 0) := by omega
        simp only [this]
    · by_cases h : t / 2 + 2 = s
      · subst h; rw [hs]; simp
      · have : (t / 2 + 2 < s ∨ t / 2 + 2 = s ∧ t % 2 < 0) ↔ (t / 2 + 2 < s + 1 ∨ t / 2 + 2 = s + 1 ∧ t % 2 < 0) := by omega
        simp only [this]
theorem nz_skip (y : Nat → Int) (n k s t : Nat) (h : n ≤ k) : nz y n k s 1 t = nz y n k s 2 t := by
  unfold nz
  by_cases h1 : t % 2 = 1
  · rw [if_pos ⟨h, h1⟩, if_pos ⟨h, h1⟩]
  · have e1 : (t % 2 < 1) ↔ (t % 2 < 2) := by omega
    simp only [e1]
theorem nz_else (y : Nat → Int) (n k s j t : Nat) (h : t ≠ s % 2 * 2 + j) (_ : j < 2) (_ : s < 4) (_ : t < 4) : nz y n k s (j + 1) t = nz y n k s j t := by
  unfold nz
  have e1 : (t / 2 < s ∨ t / 2 = s ∧ t % 2 < j + 1) ↔ (t / 2 < s ∨ t / 2 = s ∧ t % 2 < j) := by omega
  have e2 : (t / 2 + 2 < s ∨ t / 2 + 2 = s ∧ t % 2 < j + 1) ↔ (t / 2 + 2 < s ∨ t / 2 + 2 = s ∧ t % 2 < j) := by omega
  simp only [e1, e2]
theorem nz_at (y : Nat → Int) (n k s j : Nat) (hj : j < 2) (hs : s < 4) (hn : ¬ (n ≤ k ∧ j = 1)) {r : List Int} (hr : zs7 y n k s = some r) :
    (nz y n k s j (s % 2 * 2 + j) = none ∧ nz y n k s (j + 1) (s % 2 * 2 + j) = some ((j : Int) :: r)) ∨
    ∃ p, nz y n k s j (s % 2 * 2 + j) = some p ∧ nz y n k s (j + 1) (s % 2 * 2 + j) = some (if lessB y ((j : Int) :: r) p = true then (j : Int) :: r else p) := by
  have e1 : (s % 2 * 2 + j) % 2 = j := by omega
  have e2 : (s % 2 * 2 + j) / 2 = s % 2 := by omega
  unfold nz
  rw [e1, e2, if_neg hn, if_neg hn]
  by_cases hp : s < 2
  · have hs2 : s % 2 = s := by omega
    have a1 : ¬ (s % 2 < s ∨ (s % 2 = s ∧ j < j)) := by omega
    have a2 : ¬ (s % 2 + 2 < s ∨ (s % 2 + 2 = s ∧ j < j)) := by omega
    have a3 : (s % 2 < s ∨ (s % 2 = s ∧ j < j + 1)) := by omega
    have a4 : ¬ (s % 2 + 2 < s ∨ (s % 2 + 2 = s ∧ j < j + 1)) := by omega
    rw [if_neg a1, if_neg a2, if_pos a3, if_neg a4, hs2, hr]
    exact .inl ⟨rfl, rfl⟩
  · have hs2 : s % 2 + 2 = s := by omega
    have a1 : (s % 2 < s ∨ (s % 2 = s ∧ j < j)) := by omega
    have a2 : ¬ (s % 2 + 2 < s ∨ (s % 2 + 2 = s ∧ j < j)) := by omega
    have a3 : (s % 2 < s ∨ (s % 2 = s ∧ j < j + 1)) := by omega
    have a4 : (s % 2 + 2 < s ∨ (s % 2 + 2 = s ∧ j < j + 1)) := by omega
    rw [if_pos a1, if_neg a2, if_pos a3, if_pos a4, hs2, hr]
    cases hv : zs7 y n k (s % 2) with
    | none => exact .inl ⟨rfl, rfl⟩
    | some q =>
      refine .inr ⟨_, rfl, ?_⟩
      simp only [Option.map_some, pick]
      split <;> rfl
theorem zs_facts {y : Nat → Int} {n k s : Nat} (hs : s < 4) {r : List Int} (h : zs7 y n k s = some r) : r.length = k ∧ Ok n r ∧ sA r = ((s % 2 : Nat) : Int) ∧ sC r = ((s / 2 : Nat) : Int) :=
  (vit_best y n k _ _ (by unfold Bit; omega) (by unfold Bit; omega)).1 r h
theorem nz_len {y : Nat → Int} {n k s j : Nat} {t : Nat} (ht : t < 4) {p : List Int} (h : nz y n k s j t = some p) : p.length = k + 1 := by
  unfold nz at h
  split at h
  · cases h
  · rcases pick_some h with h | h
    · split at h
      · obtain ⟨q, hq, rfl⟩ := Option.map_eq_some_iff.1 h
        have := (zs_facts (by omega) hq).1; simp [this]
      · cases h
    · split at h
      · obtain ⟨q, hq, rfl⟩ := Option.map_eq_some_iff.1 h
        have := (zs_facts (by omega) hq).1; simp [this]
      · cases h
theorem cost_step7 {y : Nat → Int} {k s j : Nat} {r : List Int} {O1 O2 : Int} (hl : r.length = k) (ha : sA r = ((s % 2 : Nat) : Int)) (hc : sC r = ((s / 2 : Nat) : Int)) (h1 : O1 = o1 ((j : Nat) : Int) ((s % 2 : Nat) : Int) ((s / 2 : Nat) : Int)) (h2 : O2 = o2 ((j : Nat) : Int) ((s / 2 : Nat) : Int)) :
    cost y ((j : Int) :: r) = cost y r + dx O1 (y (2 * k)) + dx O2 (y (2 * k + 1)) := by
  simp only [cost, ha, hc, hl, h1, h2]

set_option maxHeartbeats 1000000 in
theorem better7_none (v : Value) (c : Int) (_ : v.oneCell' = true) (w : World) :
    Calls Tryd.prog 46 #[.agg #[v, .int .i64 c, .bool true], .agg #[.slice none 0 0, .int .i64 0, .bool false]] w fun e w' => e = .returned (.bool true) ∧ Below w.heap.size w w' := by
  have b1 := ((Below.refl w.heap.size w).alloc (Nat.le_refl _) (.cells #[v, .int .i64 c, .bool true] 46)).alloc (by simp) (.cells #[.slice none 0 0, .int .i64 0, .bool false] 46)
  go_enter Tryd.func46, Tryd.ntmps46
  go_wp2
  go_ret
  exact ⟨rfl, b1⟩
set_option maxHeartbeats 2000000 in
theorem better7_some {C D : Nat} {v1 v2 : Value} {y : Nat → Int} {p q : List Int} (w : World) (h1 : Rd C w v1 p.reverse) (h2 : Rd D w v2 q.reverse) (hC : C ≤ w.heap.size) (hD : D ≤ w.heap.size) (hl : p.length = q.length) :
    Calls Tryd.prog 46 #[.agg #[v1, .int .i64 (cost y p), .bool true], .agg #[v2, .int .i64 (cost y q), .bool true]] w fun e w' => e = .returned (.bool (lessB y p q)) ∧ Below w.heap.size w w' := by
  obtain ⟨A1, n1, c1, rfl, h1⟩ := h1
  obtain ⟨A2, n2, c2, rfl, h2⟩ := h2
  have hn1 := h1.len
  have hn2 := h2.len
  have hs1 := h1.sm
  rw [List.length_reverse] at hn1 hn2
  obtain rfl : n1 = n2 := by omega
  have b1 := ((Below.refl w.heap.size w).alloc (Nat.le_refl _) (.cells #[.slice A1 n1 c1, .int .i64 (cost y p), .bool true] 46)).alloc (by simp) (.cells #[.slice A2 n1 c2, .int .i64 (cost y q), .bool true] 46)
  by_cases hc : cost y p = cost y q
  · have H : Hid (lessB y p q = T.lt p q) := by show _ = _; unfold lessB; simp [hc]
    have FR := hid (fun k hk he hne => lt_front (k := k) hl hk he hne)
    have SM := hid (fun h => lt_same (p := p) (q := q) hl h)
    rw [← hc] at b1 ⊢
    have LN := hid hn1
    generalize cost y p = c at b1 ⊢
    generalize T.lt p q = L at H FR SM
    clear hc hn1 hn2 hl
    go_enter Tryd.func46, Tryd.ntmps46
    go_wp2_with fail
    have k1 := heap_alloc2_old w (.cells #[.slice A1 n1 c1, .int .i64 c, .bool true] 46) (.cells #[.slice A2 n1 c2, .int .i64 c, .bool true] 46)
    have k2 := heap_alloc2_new w (.cells #[.slice A1 n1 c1, .int .i64 c, .bool true] 46) (.cells #[.slice A2 n1 c2, .int .i64 c, .bool true] 46)
    generalize (w.alloc (.cells #[.slice A1 n1 c1, .int .i64 c, .bool true] 46)).alloc (.cells #[.slice A2 n1 c2, .int .i64 c, .bool true] 46) = w2 at *
    have d1 : w2.cell? ⟨w.heap.size, 0, none⟩ = some (.slice A1 n1 c1) := by rw [cell_of_row w2 w.heap.size 0 _ _ _ k1]; rfl
    have d2 : w2.cell? ⟨w.heap.size + 1, 0, none⟩ = some (.slice A2 n1 c2) := by rw [cell_of_row w2 (w.heap.size + 1) 0 _ _ _ k2]; rfl
    have h1 := h1.below b1 hC
    have h2 := h2.below b1 hD
    clear k1 k2
    go_loopw [5] (fun i wr => ∃ k : Nat, k ≤ n1 ∧ i = .int .i64 k ∧ Hid (∀ j, j < k → p.reverse.getD j 0 = q.reverse.getD j 0) ∧ ∃ m, wr = w2.drewN m) (fun i _ => n1 - (intOf i).toNat)
    case atStart => exact ⟨0, by omega, rfl, fun j hj => absurd hj (by omega), 0, rfl⟩
    case round =>
      obtain ⟨k, hk, rfl, heq, m, rfl⟩ := hrel
      by_cases hlt : k < n1
      · obtain ⟨ba, oa, xa, rfl, _, e1, hxa⟩ := h1.at_ hlt
        obtain ⟨bb, ob, xb, rfl, _, e2, hxb⟩ := h2.at_ hlt
        have i1 : (k : Int) < (n1 : Int) := by omega
        by_cases hx : xa = xb
        · subst hx
          go_wp2_with fail
          go_quiet (fail)
          go_wp2_with fail
          go_roundw
          case rel =>
            refine ⟨k + 1, by omega, by go_num, fun j hj => ?_, _, rfl⟩
            by_cases h : j < k
            · exact heq.out j h
            · obtain rfl : j = k := by omega
              exact hxa.out.trans hxb.out.symm
          case measure => simp [intOf]; omega
        · have n1' : (xa != xb) = true := by simpa using hx
          have HF := hid (FR.out k (by have := LN.out; omega) heq.out (by rw [hxa.out, hxb.out]; exact hx))
          rw [hxa.out, hxb.out] at HF
          have HF := hid HF.out
          clear hx
          go_wp2_with fail
          go_quiet (fail)
          go_wp2_with fail
          go_quiet (fail)
          go_wp2_with fail
          go_ret
          exact ⟨ret_bool (by rw [H.out, HF.out]), below_drewN (below_drewN (below_drewN b1 _) _) _⟩
      · obtain rfl : k = n1 := by omega
        have HS := hid (SM.out fun i hi => heq.out i (by have := LN.out; omega))
        go_wp2_with fail
        go_ret
        exact ⟨ret_bool (by rw [H.out, HS.out]), below_drewN b1 _⟩
  · have H : Hid (lessB y p q = decide (cost y p < cost y q)) := by show _ = _; unfold lessB; simp [hc]
    generalize cost y p = a at *
    generalize cost y q = b at *
    have n1' : (a != b) = true := by simpa using hc
    clear hc hn1 hn2 hl h1 h2
    go_enter Tryd.func46, Tryd.ntmps46
    go_wp2_with fail
    go_ret
    exact ⟨ret_bool H.out.symm, b1⟩

end Go.Proofs.YtnlacmbmmlmpjaaDoor
