/-
  The reference's search through the trellis: a slice of four paths, filled in anew for every step.
-/
import Derived.Test.YtnlacmbmmlmpjaaDoorBett7
import Derived.Deep.RegionWith
import Derived.Deep.RegionLaw
namespace Go.Proofs.YtnlacmbmmlmpjaaDoor
open Go.RowKit T

/-! ### in memory -/
def Pt (w : World) (y : Nat → Int) (B C : Nat) (o : Option (List Int)) (v : Value) (c : Int) (u : Bool) : Prop :=
  match o with
  | none => v = .slice none 0 0 ∧ c = 0 ∧ u = false
  | some r => c = cost y r ∧ u = true ∧ Own B C w v r.reverse
theorem Pt.keep {w w' : World} {y : Nat → Int} {B C B' C' : Nat} {o : Option (List Int)} {v : Value} {c : Int} {u : Bool} (h : Pt w y B C o v c u) (hk : ∀ b, B ≤ b → b < C → w'.heap[b]? = w.heap[b]?) (hB : B' ≤ B) (hC : C ≤ C') : Pt w' y B' C' o v c u := by
  cases o with
  | none => exact h
  | some r =>
    obtain ⟨h1, h2, h3⟩ := h
    refine ⟨h1, h2, ?_⟩
    have : Own B C w' v r.reverse := by
      refine ⟨⟨h3.1.1, ?_⟩, h3.2⟩
      rcases h3.1.2 with hn | ⟨g, cap, cur, hv, hb, hh, q⟩
      · exact .inl hn
      · refine .inr ⟨g, cap, cur, hv, hb, ?_, q⟩
        rw [hk g hb (h3.2.2 g (by rw [hv]; rfl))]
        exact hh
    exact this.fit hB hC
/-- four paths in block g -/
def A7 (w : World) (y : Nat → Int) (B C g : Nat) (f : Nat → Option (List Int)) (sv : Nat → Value) (ct : Nat → Int) (ut : Nat → Bool) : Prop :=
  (∃ t, w.heap[g]? = some (.cells #[sv 0, .int .i64 (ct 0), .bool (ut 0), sv 1, .int .i64 (ct 1), .bool (ut 1), sv 2, .int .i64 (ct 2), .bool (ut 2), sv 3, .int .i64 (ct 3), .bool (ut 3)] t (0, 0))) ∧
    ∀ t, t < 4 → Pt w y B C (f t) (sv t) (ct t) (ut t)
section
variable {w w' : World} {y : Nat → Int} {B C B' C' g : Nat} {f f' : Nat → Option (List Int)} {sv : Nat → Value} {ct : Nat → Int} {ut : Nat → Bool}
theorem A7.keep (h : A7 w y B C g f sv ct ut) (hk : ∀ b, B ≤ b → b < C → w'.heap[b]? = w.heap[b]?) (hg : w'.heap[g]? = w.heap[g]?) (hB : B' ≤ B) (hC : C ≤ C') : A7 w' y B' C' g f sv ct ut := by
  obtain ⟨⟨t, h1⟩, h2⟩ := h
  exact ⟨⟨t, by rw [hg, h1]⟩, fun t ht => (h2 t ht).keep hk hB hC⟩
theorem A7.eqv (h : A7 w y B C g f sv ct ut) (e : ∀ t, t < 4 → f t = f' t) : A7 w y B C g f' sv ct ut := ⟨h.1, fun t ht => by rw [← e t ht]; exact h.2 t ht⟩
theorem A7.c0 (h : A7 w y B C g f sv ct ut) {t : Nat} (ht : t < 4) : w.cell? ⟨g, t * 3, none⟩ = some (sv t) := by
  obtain ⟨⟨ty, h1⟩, _⟩ := h
  rw [cell_of_row w g _ _ _ _ h1]
  rcases lt4 ht with rfl | rfl | rfl | rfl <;> rfl
theorem A7.c1 (h : A7 w y B C g f sv ct ut) {t : Nat} (ht : t < 4) : w.cell? ⟨g, t * 3 + 1, none⟩ = some (.int .i64 (ct t)) := by
  obtain ⟨⟨ty, h1⟩, _⟩ := h
  rw [cell_of_row w g _ _ _ _ h1]
  rcases lt4 ht with rfl | rfl | rfl | rfl <;> rfl
theorem A7.c2 (h : A7 w y B C g f sv ct ut) {t : Nat} (ht : t < 4) : w.cell? ⟨g, t * 3 + 2, none⟩ = some (.bool (ut t)) := by
  obtain ⟨⟨ty, h1⟩, _⟩ := h
  rw [cell_of_row w g _ _ _ _ h1]
  rcases lt4 ht with rfl | rfl | rfl | rfl <;> rfl
theorem A7.free (h : A7 w y B C g f sv ct ut) (t : Nat) : w.frozen? ⟨g, t, none⟩ = false := by
  obtain ⟨⟨ty, h1⟩, _⟩ := h
  exact frozen_of_row w g t _ _ h1
theorem A7.lt (h : A7 w y B C g f sv ct ut) : g < w.heap.size := by
  obtain ⟨⟨ty, h1⟩, _⟩ := h
  exact (Array.getElem?_eq_some_iff.1 h1).1
/-- one path is laid into its place -/
theorem A7.store (h : A7 w y B C g f sv ct ut) (hg : g < B ∨ C ≤ g) {i : Nat} (hi : i < 4) {o : Option (List Int)} {v : Value} {c : Int} {u : Bool} (hp : Pt w y B C o v c u) :
    A7 (((w.setCell ⟨g, i * 3, none⟩ v).setCell ⟨g, i * 3 + 1, none⟩ (.int .i64 c)).setCell ⟨g, i * 3 + 2, none⟩ (.bool u)) y B C g (fun t => if t = i then o else f t) (fun t => if t = i then v else sv t) (fun t => if t = i then c else ct t) (fun t => if t = i then u else ut t) := by
  obtain ⟨⟨ty, h1⟩, h2⟩ := h
  have hk : ∀ b, B ≤ b → b < C → (((w.setCell ⟨g, i * 3, none⟩ v).setCell ⟨g, i * 3 + 1, none⟩ (.int .i64 c)).setCell ⟨g, i * 3 + 2, none⟩ (.bool u)).heap[b]? = w.heap[b]? := fun b h1 h2 => by
    have hb : b ≠ g := by omega
    rw [Below.heap_setCell _ ⟨g, i * 3 + 2, none⟩ _ b hb, Below.heap_setCell _ ⟨g, i * 3 + 1, none⟩ _ b hb, Below.heap_setCell _ ⟨g, i * 3, none⟩ _ b hb]
  refine ⟨⟨ty, ?_⟩, fun t ht => ?_⟩
  · have e1 := heap_setCell_same w g (i * 3) _ _ v h1
    have e2 := heap_setCell_same _ g (i * 3 + 1) _ _ (.int .i64 c) e1
    have e3 := heap_setCell_same _ g (i * 3 + 2) _ _ (.bool u) e2
    rw [e3]
    rcases lt4 hi with rfl | rfl | rfl | rfl <;> rfl
  · by_cases e : t = i
    · subst e; simp only [if_pos]; exact hp.keep hk (Nat.le_refl _) (Nat.le_refl _)
    · simp only [if_neg e]; exact (h2 t ht).keep hk (Nat.le_refl _) (Nat.le_refl _)
end

set_option maxHeartbeats 1000000 in
theorem l7Ok_c {C : Nat} {v : Value} {xs : List Int} (w : World) (h : Rd C w v xs) : Calls Tryd.prog 35 #[v] w fun e w' => e = .returned (.bool (lOk xs)) ∧ w = w' := by
  have Q := specBits_c w h
  obtain ⟨A, m, c, rfl, h⟩ := h
  have hlen := h.len
  have hsm := h.sm
  by_cases hb : bitsOk xs = true
  · rw [hb] at Q
    have Q := hid Q
    by_cases h2 : m % 2 = 0
    · have n1 : (m : Int) % 2 = 0 := by omega
      have L := l1In_c (m : Int) 4 84 w
      by_cases h3 : 4 ≤ m ∧ m ≤ 84
      · rw [inB_yes (by omega) (by omega)] at L
        have L := hid L
        have S := hid (lOk_iff.2 ⟨hb, by rw [hlen]; exact ⟨h2, h3⟩⟩)
        clear hb h hlen h2 h3
        go_enter Tryd.func35, Tryd.ntmps35
        go_wp2_with fail
        refine Q.out.mono ?_
        rintro e w' ⟨rfl, rfl⟩
        go_wp2_with fail
        refine L.out.mono ?_
        rintro e w' ⟨rfl, rfl⟩
        go_wp2_with fail
        go_ret
        exact ⟨ret_bool S.out.symm, rfl⟩
      · have hz : inB (m : Int) 4 84 = false := by
          by_cases h4 : (4 : Int) ≤ m
          · exact inB_hi (by omega)
          · exact inB_lo h4
        rw [hz] at L
        have L := hid L
        have S : Hid (lOk xs = false) := by
          show _ = _
          cases e : lOk xs with
          | false => rfl
          | true => have := (lOk_iff.1 e).2; rw [hlen] at this; omega
        clear hb h hlen h2 h3 hz
        go_enter Tryd.func35, Tryd.ntmps35
        go_wp2_with fail
        refine Q.out.mono ?_
        rintro e w' ⟨rfl, rfl⟩
        go_wp2_with fail
        refine L.out.mono ?_
        rintro e w' ⟨rfl, rfl⟩
        go_wp2_with fail
        go_ret
        exact ⟨ret_bool S.out.symm, rfl⟩
    · have n1 : (m : Int) % 2 = 1 := by omega
      have S : Hid (lOk xs = false) := by
        show _ = _
        cases e : lOk xs with
        | false => rfl
        | true => have := (lOk_iff.1 e).2; rw [hlen] at this; omega
      clear hb h hlen h2
      go_enter Tryd.func35, Tryd.ntmps35
      go_wp2_with fail
      refine Q.out.mono ?_
      rintro e w' ⟨rfl, rfl⟩
      go_wp2_with fail
      go_ret
      exact ⟨ret_bool S.out.symm, rfl⟩
  · have hb' : bitsOk xs = false := by simpa using hb
    rw [hb'] at Q
    have Q := hid Q
    have S : Hid (lOk xs = false) := by
      show _ = _
      cases e : lOk xs with
      | false => rfl
      | true => have := (lOk_iff.1 e).1; rw [hb'] at this; cases this
    clear hb hb' h hlen
    go_enter Tryd.func35, Tryd.ntmps35
    go_wp2_with fail
    refine Q.out.mono ?_
    rintro e w' ⟨rfl, rfl⟩
    go_wp2_with fail
    go_ret
    exact ⟨ret_bool S.out.symm, rfl⟩

theorem own_ne {B C : Nat} {w : World} {v : Value} {r : List Int} {a : Int} (h : Own B C w v (r.reverse ++ [a])) : ∃ g cap, v = .slice (some ⟨g, 0, none⟩) (r.length + 1) cap ∧ B ≤ g ∧ g < C := by
  rcases h.form with ⟨hn, _⟩ | ⟨g, cap, rfl, gB, gC, _, _⟩
  · simp at hn
  · exact ⟨g, cap, by simp, gB, gC⟩
theorem made7 : madeCells #[Value.slice none 0 0, .int .i64 0, .bool false] 12 = #[Value.slice none 0 0, .int .i64 0, .bool false, .slice none 0 0, .int .i64 0, .bool false, .slice none 0 0, .int .i64 0, .bool false, .slice none 0 0, .int .i64 0, .bool false] := by kernel_rfl
theorem run_mk7 (W : World) : (Instr.makeSlice 60 (.int .i64 4) (.int .i64 4)).run Tryd.prog W = .ok (.slice (some ⟨W.heap.size, 0, none⟩) 4 4)
    (W.alloc (.cells #[Value.slice none 0 0, .int .i64 0, .bool false, .slice none 0 0, .int .i64 0, .bool false, .slice none 0 0, .int .i64 0, .bool false, .slice none 0 0, .int .i64 0, .bool false] 46)) := by
  obtain ⟨i, hi, h3⟩ := Option.map_eq_some_iff.1 (show (Tryd.prog.info? 46).map (fun i => (i.zero, i.size, i.bytes)) = some (some (.agg #[.slice none 0 0, .int .i64 0, .bool false]), 3, 40) by kernel_rfl)
  have hz0 : i.zero = some (.agg #[.slice none 0 0, .int .i64 0, .bool false]) := congrArg Prod.fst h3
  have hz1 : i.size = 3 := congrArg (fun z => z.2.1) h3
  have hz2 : i.bytes = 40 := congrArg (fun z => z.2.2) h3
  have hrun := run_make (P := Tryd.prog) W 60 46 i _ Tryd.underlying60 hi hz0 .i64 .i64 4 4 (by omega) (by omega) (by rw [hz2]; decide) (by omega)
  rw [hz1] at hrun
  have e : madeCells (Value.agg #[.slice none 0 0, .int .i64 0, .bool false]).cells (Int.toNat 4 * 3) = _ := made7
  rw [e] at hrun
  exact hrun
/-- the path that is found -/
def Srch (xs : List Int) (n : Nat) (w : World) (e : Ending) (w' : World) : Prop :=
  ∃ v, e = .returned (.agg #[v, .int .i64 (cost (gx xs) (way (bst (gx xs) n))), .bool true]) ∧ Own w.heap.size w'.heap.size w' v (way (bst (gx xs) n)).reverse ∧ Below w.heap.size w w'
set_option maxHeartbeats 4000000 in
set_option maxRecDepth 20000 in
theorem l7Search_c {C n : Nat} {v : Value} {xs : List Int} (w : World) (h : Rd C w v xs) (hC : C ≤ w.heap.size) (hok : lOk xs = true) (hn : xs.length = 2 * (n + 2)) :
    Calls Tryd.prog 36 #[v] w (Srch xs n w) := by
  obtain ⟨hb, h2, h4, h84⟩ := lOk_iff.1 hok
  have HB := hid hb
  obtain ⟨A, m, c, rfl, h⟩ := h
  obtain rfl : m = 2 * (n + 2) := by rw [← h.len]; exact hn
  have d2 : ((2 * (n + 2) : Nat) : Int) / 2 = (n : Int) + 2 := by omega
  have n40 : n ≤ 40 := by omega
  have d4 : ((2 * (n + 2) : Nat) : Int) ≤ 84 := by omega
  generalize hm : 2 * (n + 2) = m at *
  have HM := hid hm
  clear hok hb h2 h4 h84 hn hm
  have mk := run_mk7
  go_enter Tryd.func36, Tryd.ntmps36
  go_wp2_with fail
  have G0 := heap_alloc2_old w (.cells #[.slice none 0 0, .int .i64 0, .bool false] 46) (.cells #[.slice none 0 0, .int .i64 0, .bool true, .slice none 0 0, .int .i64 0, .bool false, .slice none 0 0, .int .i64 0, .bool false, .slice none 0 0, .int .i64 0, .bool false] 46)
  have G1 := heap_alloc2_new w (.cells #[.slice none 0 0, .int .i64 0, .bool false] 46) (.cells #[.slice none 0 0, .int .i64 0, .bool true, .slice none 0 0, .int .i64 0, .bool false, .slice none 0 0, .int .i64 0, .bool false, .slice none 0 0, .int .i64 0, .bool false] 46)
  have b0 := ((Below.refl w.heap.size w).alloc (Nat.le_refl _) (.cells #[.slice none 0 0, .int .i64 0, .bool false] 46)).alloc (by simp) (.cells #[.slice none 0 0, .int .i64 0, .bool true, .slice none 0 0, .int .i64 0, .bool false, .slice none 0 0, .int .i64 0, .bool false, .slice none 0 0, .int .i64 0, .bool false] 46)
  have hz0 : ((w.alloc (.cells #[.slice none 0 0, .int .i64 0, .bool false] 46)).alloc (.cells #[.slice none 0 0, .int .i64 0, .bool true, .slice none 0 0, .int .i64 0, .bool false, .slice none 0 0, .int .i64 0, .bool false, .slice none 0 0, .int .i64 0, .bool false] 46)).heap.size = w.heap.size + 2 := by simp
  generalize (w.alloc (.cells #[.slice none 0 0, .int .i64 0, .bool false] 46)).alloc (.cells #[.slice none 0 0, .int .i64 0, .bool true, .slice none 0 0, .int .i64 0, .bool false, .slice none 0 0, .int .i64 0, .bool false, .slice none 0 0, .int .i64 0, .bool false] 46) = w2 at *
  have HA0 : Hid (A7 w2 (gx xs) (w.heap.size + 1) w2.heap.size (w.heap.size + 1) (zs7 (gx xs) n 0) (fun _ => .slice none 0 0) (fun _ => 0) (fun t => decide (t = 0))) := by
    refine ⟨⟨_, G1⟩, fun t ht => ?_⟩
    rcases lt4 ht with rfl | rfl | rfl | rfl
    · exact ⟨rfl, rfl, Own.nil _ _ _⟩
    · exact ⟨rfl, rfl, rfl⟩
    · exact ⟨rfl, rfl, rfl⟩
    · exact ⟨rfl, rfl, rfl⟩
  have HG0 : Hid (∃ t, w2.heap[w.heap.size]? = some (.cells #[.slice none 0 0, .int .i64 0, .bool false] t (0, 0))) := ⟨_, G0⟩
  clear G0 G1 d2 d4
  go_loopw [3, 5, 6, 7, 8, 9, 10, 11, 12] (fun nw kk _ _ _ _ _ _ _ wr => ∃ (k gw : Nat) (sv : Nat → Value) (ct : Nat → Int) (ut : Nat → Bool), k ≤ n + 2 ∧ kk = .int .i64 k ∧ nw = .slice (some ⟨gw, 0, none⟩) 4 4 ∧ w.heap.size + 1 ≤ gw ∧ Hid (A7 wr (gx xs) (w.heap.size + 1) wr.heap.size gw (zs7 (gx xs) n k) sv ct ut) ∧ Hid (∃ t, wr.heap[w.heap.size]? = some (.cells #[.slice none 0 0, .int .i64 0, .bool false] t (0, 0))) ∧ Below w.heap.size w wr ∧ w.heap.size + 2 ≤ wr.heap.size) (fun _ kk _ _ _ _ _ _ _ _ => n + 2 - (intOf kk).toNat)
  case atStart => exact ⟨0, _, _, _, _, by omega, rfl, rfl, Nat.le_refl _, HA0, HG0, b0, by omega⟩
  case round =>
    clear HA0 HG0 b0 hz0
    obtain ⟨k, gw, sv, ct, ut, hk, rfl, rfl, hgw, HA, HG, hb, hsz⟩ := hrel
    by_cases hlt : k < n + 2
    · have i1 : (k : Int) < (n : Int) + 2 := by omega
      have hgl := HA.out.lt
      have bN : Below wr.heap.size wr (wr.alloc (.cells #[Value.slice none 0 0, .int .i64 0, .bool false, .slice none 0 0, .int .i64 0, .bool false, .slice none 0 0, .int .i64 0, .bool false, .slice none 0 0, .int .i64 0, .bool false] 46)) := (Below.refl wr.heap.size wr).alloc (Nat.le_refl _) _
      have hz := World.size_alloc wr (.cells #[Value.slice none 0 0, .int .i64 0, .bool false, .slice none 0 0, .int .i64 0, .bool false, .slice none 0 0, .int .i64 0, .bool false, .slice none 0 0, .int .i64 0, .bool false] 46)
      have GN := heap_alloc_new wr (.cells #[Value.slice none 0 0, .int .i64 0, .bool false, .slice none 0 0, .int .i64 0, .bool false, .slice none 0 0, .int .i64 0, .bool false, .slice none 0 0, .int .i64 0, .bool false] 46)
      go_wp2_with fail
      generalize wr.alloc (.cells #[Value.slice none 0 0, .int .i64 0, .bool false, .slice none 0 0, .int .i64 0, .bool false, .slice none 0 0, .int .i64 0, .bool false, .slice none 0 0, .int .i64 0, .bool false] 46) = wa at *
      have HA1 : Hid (A7 wa (gx xs) (w.heap.size + 1) wr.heap.size gw (zs7 (gx xs) n k) sv ct ut) := HA.out.keep (fun b _ h => bN.block b h) (bN.block _ hgl) (Nat.le_refl _) (Nat.le_refl _)
      have HN1 : Hid (A7 wa (gx xs) (wr.heap.size + 1) wa.heap.size wr.heap.size (nz (gx xs) n k 0 0) (fun _ => .slice none 0 0) (fun _ => 0) (fun _ => false)) := ⟨⟨_, GN⟩, fun t ht => by rw [nz_start]; exact ⟨rfl, rfl, rfl⟩⟩
      have HG1 : Hid (∃ t, wa.heap[w.heap.size]? = some (.cells #[.slice none 0 0, .int .i64 0, .bool false] t (0, 0))) := by
        obtain ⟨t, h⟩ := HG.out
        exact ⟨t, by rw [bN.block _ (by omega)]; exact h⟩
      have hb1 := hb.trans (bN.mono (show w.heap.size ≤ wr.heap.size by omega))
      generalize wr.heap.size = gn at *
      have hga : gn + 1 ≤ wa.heap.size := by omega
      clear HA HG hb GN bN hz
      go_loopw [7, 8, 9, 10, 11, 12] (fun ss _ _ _ _ _ wr => ∃ (s : Nat) (nsv : Nat → Value) (nct : Nat → Int) (nut : Nat → Bool), s ≤ 4 ∧ ss = .int .i64 s ∧ Hid (A7 wr (gx xs) (w.heap.size + 1) gn gw (zs7 (gx xs) n k) sv ct ut) ∧ Hid (A7 wr (gx xs) (gn + 1) wr.heap.size gn (nz (gx xs) n k s 0) nsv nct nut) ∧ Hid (∃ t, wr.heap[w.heap.size]? = some (.cells #[.slice none 0 0, .int .i64 0, .bool false] t (0, 0))) ∧ Below w.heap.size w wr ∧ gn + 1 ≤ wr.heap.size) (fun ss _ _ _ _ _ _ => 4 - (intOf ss).toNat)
      case atStart => exact ⟨0, _, _, _, by omega, rfl, HA1, HN1, HG1, hb1, hga⟩
      case round =>
        clear HA1 HN1 HG1 hb1 hga
        obtain ⟨s, nsv, nct, nut, hs, rfl, HA, HN, HG, hb, hg1⟩ := hrel
        by_cases hs4 : s < 4
        · have is4 : (s : Int) < 4 := by omega
          go_wp2_with fail
          go_loopw [8, 9, 10, 11, 12] (fun b _ _ _ _ wr => ∃ (j : Nat) (nsv : Nat → Value) (nct : Nat → Int) (nut : Nat → Bool), j ≤ 2 ∧ b = .int .i64 j ∧ Hid (A7 wr (gx xs) (w.heap.size + 1) gn gw (zs7 (gx xs) n k) sv ct ut) ∧ Hid (A7 wr (gx xs) (gn + 1) wr.heap.size gn (nz (gx xs) n k s j) nsv nct nut) ∧ Hid (∃ t, wr.heap[w.heap.size]? = some (.cells #[.slice none 0 0, .int .i64 0, .bool false] t (0, 0))) ∧ Below w.heap.size w wr ∧ gn + 1 ≤ wr.heap.size ∧ (zs7 (gx xs) n k s = none → j = 0)) (fun b _ _ _ _ _ => 2 - (intOf b).toNat)
          case atStart => exact ⟨0, nsv, nct, nut, by omega, rfl, HA, HN, HG, hb, hg1, fun _ => rfl⟩
          case round =>
            clear HA HN HG hb hg1
            obtain ⟨j, nsv, nct, nut, hj, rfl, HA, HN, HG, hb, hg1, hj0⟩ := hrel
            have cu := HA.out.c2 hs4
            have hpt := HA.out.2 s hs4
            cases hvs : zs7 (gx xs) n k s with
            | none => as_aux_lemma =>
              obtain rfl : j = 0 := hj0 hvs
              rw [hvs] at hpt
              have hu : ut s = false := hpt.2.2
              rw [hu] at cu
              clear hpt hj0 hu
              go_wp2_with fail
              go_roundw
              case rel => exact ⟨s + 1, nsv, nct, nut, by omega, by go_num, HA, hid (HN.out.eqv fun t _ => nz_nil _ _ _ _ t hvs), HG, hb, hg1⟩
              case measure => simp [intOf]; omega
            | some r =>
              rw [hvs] at hpt
              obtain ⟨hcs, hus, hos⟩ := hpt
              rw [hus] at cu
              clear hj0
              by_cases hj2 : j < 2
              · have ij2 : (j : Int) < 2 := by omega
                by_cases hskip : n ≤ k ∧ j = 1
                · as_aux_lemma =>
                    obtain ⟨hnk, rfl⟩ := hskip
                    have ink : (n : Int) ≤ (k : Int) := by omega
                    clear hos hcs hus
                    go_wp2_with fail
                    go_roundw
                    case rel => exact ⟨s + 1, nsv, nct, nut, by omega, by go_num, HA, hid (HN.out.eqv fun t _ => (nz_skip _ _ _ _ t hnk).trans (nz_state _ _ _ _ t)), HG, hb, hg1⟩
                    case measure => simp [intOf]; omega
                · by_cases hkn : k < n
                  · have ink : (k : Int) < (n : Int) := by omega
                    as_aux_lemma =>
                      have HGW := hid (show gw < gn by omega)
                      have HGN := hid (show w.heap.size + 2 ≤ gn by omega)
                      obtain ⟨hrl, hok', hsa, hsc⟩ := zs_facts hs4 hvs
                      have HRL := hid hrl
                      have cc := HA.out.c1 hs4
                      rw [hcs] at cc
                      have cs0 := HA.out.c0 hs4
                      have hcin := cost_in (gx xs) r
                      obtain ⟨O1, hO1⟩ : ∃ O1, O1 = o1 ((j : Nat) : Int) ((s % 2 : Nat) : Int) ((s / 2 : Nat) : Int) := ⟨_, rfl⟩
                      obtain ⟨O2, hO2⟩ : ∃ O2, O2 = o2 ((j : Nat) : Int) ((s / 2 : Nat) : Int) := ⟨_, rfl⟩
                      have HCS := hid (cost_step7 (y := gx xs) (j := j) hrl hsa hsc hO1 hO2)
                      have m1 : (s : Int) % 2 = ((s % 2 : Nat) : Int) := by omega
                      have m2 : (s : Int) / 2 = ((s / 2 : Nat) : Int) := by omega
                      have PR : Hid (∀ W, Calls Tryd.prog 32 #[.int .i64 (s : Nat), .int .i64 (j : Nat)] W fun e w' => e = .returned (.tuple #[.int .i64 O1, .int .i64 O2]) ∧ W = w') := fun W => by
                        have := l7Pair_c (s : Int) (j : Int) W (by omega) (by omega)
                        rw [m1, m2, ← hO1, ← hO2] at this
                        exact this
                      have NX : Hid (∀ W, Calls Tryd.prog 33 #[.int .i64 (s : Nat), .int .i64 (j : Nat)] W fun e w' => e = .returned (.int .i64 ((s % 2 * 2 + j : Nat) : Int)) ∧ W = w') := fun W => by
                        have := l7Next_c (s : Int) (j : Int) W (by omega) (by omega)
                        rw [show (s : Int) % 2 * 2 + (j : Int) = ((s % 2 * 2 + j : Nat) : Int) by omega] at this
                        exact this
                      have hob1 := o1_bit hO1
                      have hob2 := o2_bit hO2
                      have hnx := nz_at (gx xs) n k s j hj2 hs4 hskip hvs
                      have HNE := hid (fun t (ht : t < 4) (h : t ≠ s % 2 * 2 + j) => nz_else (gx xs) n k s j t h hj2 hs4 ht)
                      have hto : s % 2 * 2 + j < 4 := by omega
                      generalize s % 2 * 2 + j = to at NX hnx HNE hto
                      have HNX := hid hnx
                      have ito : (to : Int) < 4 := by omega
                      have hR := h.below hb hC
                      obtain ⟨bA, oA, rfl, hbC, hcl⟩ := hR.cells (by have := HM.out; omega)
                      have cl0 := hcl (2 * k) (by have := HM.out; omega)
                      have cl1 := hcl (2 * k + 1) (by have := HM.out; omega)
                      have hx0 := bitsOk_at HB.out (2 * k)
                      have hx1 := bitsOk_at HB.out (2 * k + 1)
                      have HCS : Hid (T.cost (gx xs) ((j : Int) :: r) = T.cost (gx xs) r + dx O1 (xs.getD (2 * k) 0) + dx O2 (xs.getD (2 * k + 1) 0)) := HCS.out
                      generalize xs.getD (2 * k) 0 = L0 at cl0 hx0 HCS
                      generalize xs.getD (2 * k + 1) 0 = L1 at cl1 hx1 HCS
                      have x1 := xor_dx hob1 hx0
                      have x2 := xor_dx hob2 hx1
                      have dd1 := dx_in O1 L0
                      have dd2 := dx_in O2 L1
                      generalize dx O1 L0 = D1 at x1 dd1 HCS
                      generalize dx O2 L1 = D2 at x2 dd2 HCS
                      have hos := hid hos
                      generalize T.cost (gx xs) r = c0 at cc hcin HCS
                      obtain ⟨E1, hE1⟩ : ∃ E1, c0 + D1 = E1 := ⟨_, rfl⟩
                      obtain ⟨NC, hNC⟩ : ∃ NC, E1 + D2 = NC := ⟨_, rfl⟩
                      obtain ⟨K2, hK2⟩ : ∃ K2, 2 * k = K2 := ⟨_, rfl⟩
                      obtain ⟨K3, hK3⟩ : ∃ K3, 2 * k + 1 = K3 := ⟨_, rfl⟩
                      rw [hK2] at cl0
                      rw [hK3] at cl1
                      have HCS := hid (show T.cost (gx xs) ((j : Int) :: r) = NC by rw [HCS.out, hE1, hNC])
                      have eK2 : 2 * (k : Int) = (K2 : Int) := by omega
                      have eK3 : (K2 : Int) + 1 = (K3 : Int) := by omega
                      have b1' : 0 ≤ E1 ∧ E1 ≤ 200 := by omega
                      have b2' : 0 ≤ NC ∧ NC ≤ 200 := by omega
                      have b3' : K2 < m := by have := HM.out; omega
                      have b4' : K3 < m := by have := HM.out; omega
                      have b5' : K3 ≤ 200 := by omega
                      have hk2 : k ≤ 50 := by omega
                      have hsw := hb.size
                      have hgl := HA.out.lt
                      have bq : Below wr.heap.size wr ((wr.alloc (.cells #[.slice none 0 0, .int .i64 0, .bool false] 46)).drew) := below_drewN ((Below.refl wr.heap.size wr).alloc (Nat.le_refl _) _) 1
                      have cc2 := (bq.cell (p := ⟨gw, s * 3 + 1, none⟩) hgl).trans cc
                      have cl2 := (bq.cell (p := ⟨bA, oA + K2, none⟩) (by show bA < wr.heap.size; omega)).trans cl0
                      have cl3 := (bq.cell (p := ⟨bA, oA + K3, none⟩) (by show bA < wr.heap.size; omega)).trans cl1
                      clear bq
                      clear hcl hK2 hK3 hcin dd1 dd2 hx0 hx1 hsa hsc hO1 hO2 hob1 hob2 m1 m2 hR hnx hcs hus hrl hok'
                      go_wp2_with fail
                      refine (PR.out _).mono ?_
                      rintro e w' ⟨rfl, rfl⟩
                      go_wp2_with fail
                      go_region
                      have hz3 : ((wr.alloc (.cells #[.slice none 0 0, .int .i64 NC, .bool true] 46)).drew).heap.size = wr.heap.size + 1 := World.size_alloc wr _
                      have GN3 : ((wr.alloc (.cells #[.slice none 0 0, .int .i64 NC, .bool true] 46)).drew).heap[wr.heap.size]? = _ := heap_alloc_new wr _
                      have b3 : Below wr.heap.size wr ((wr.alloc (.cells #[.slice none 0 0, .int .i64 NC, .bool true] 46)).drew) := below_drewN ((Below.refl wr.heap.size wr).alloc (Nat.le_refl _) _) 1
                      generalize (wr.alloc (.cells #[.slice none 0 0, .int .i64 NC, .bool true] 46)).drew = w3 at *
                      have hE := (Own.empty w3).more (show w3.heap.size + 1 ≤ (w3.alloc (.cells #[] 3)).heap.size by simp)
                      have bE := (Below.refl w3.heap.size w3).alloc (Nat.le_refl _) (.cells #[] 3)
                      have bE2 := b3.trans (bE.mono (show wr.heap.size ≤ w3.heap.size by omega))
                      have osE := (hos.out.below b3 (by omega)).below bE (show gn ≤ w3.heap.size by omega)
                      have csE := (bE2.cell (p := ⟨gw, s * 3, none⟩) hgl).trans cs0
                      have hgt3 : wr.heap.size < w3.heap.size := by omega
                      have HZ3 := hid hz3
                      clear hz3
                      clear cc cc2 cl0 cl1 cl2 cl3 b1' b2' b3' b4' b5' x1 x2 hE1 hNC eK2 eK3 cs0 cu
                      go_wp2_with (first | (at_builtin; refine wpl_append intSl _ rfl (.tmp 80) (.tmp 85) rfl w3.heap.size _ gn _ _ [] r.reverse rfl rfl hE osE.rd (by simp [HRL.out]; omega) (by simp) ?_; intro v4 w4 ho4 g4 _; rw [List.nil_append] at ho4; have b4 := bE.trans (below_of_own hE g4 (Nat.le_refl _) (by simp)); have s4 := b4.size) | (at_builtin; refine wpl_appl intSl _ rfl (.tmp 86) (.tmp 88) rfl w3.heap.size w4.heap.size _ _ _ [(j : Int)] 1 rfl rfl rfl rfl ho4 (Nat.le_refl _) (by simp [HRL.out]; omega) s4 ?_; intro v5 w5 ho5 g5; have b5 := b4.trans (below_of_own ho4 g5 (Nat.le_refl _) s4); have s5 := b5.size; obtain ⟨q5, c5, rfl, q5B, q5C⟩ := own_ne ho5; have r5 := (b5.block _ hgt3).trans GN3; have ec := cell_of_row w5 wr.heap.size 0 _ _ _ r5; have ef := frozen_of_row w5 wr.heap.size 0 _ _ r5; have ec : w5.cell? ⟨wr.heap.size, 0, none⟩ = some (.slice none 0 0) := ec; clear hE bE bE2 osE csE g4 g5 b4) | (go_at_call 33; refine (NX.out _).mono ?_; rintro e w' ⟨rfl, rfl⟩))
                      have hz3 := HZ3.out
                      have ho6 := ho5.apart (grown_set (World.grownBy.refl w5 (some wr.heap.size)) (i := 0) (Value.slice (some ⟨q5, 0, none⟩) (r.length + 1) c5)) (fun q hq => by injection hq; omega)
                      rw [← List.reverse_cons] at ho6
                      have r6 := heap_setCell_same w5 wr.heap.size 0 _ _ (Value.slice (some ⟨q5, 0, none⟩) (r.length + 1) c5) r5
                      have r6 : (w5.setCell ⟨wr.heap.size, 0, none⟩ (Value.slice (some ⟨q5, 0, none⟩) (r.length + 1) c5)).heap[wr.heap.size]? = some (.cells #[(Value.slice (some ⟨q5, 0, none⟩) (r.length + 1) c5), .int .i64 NC, .bool true] 46 (0, 0)) := r6
                      have B6 := (b3.trans (b5.mono (show wr.heap.size ≤ w3.heap.size by omega))).setCell (p := ⟨wr.heap.size, 0, none⟩) (Nat.le_refl _) (Value.slice (some ⟨q5, 0, none⟩) (r.length + 1) c5)
                      have z6 : (w5.setCell ⟨wr.heap.size, 0, none⟩ (Value.slice (some ⟨q5, 0, none⟩) (r.length + 1) c5)).heap.size = w5.heap.size := by simp
                      generalize w5.setCell ⟨wr.heap.size, 0, none⟩ (Value.slice (some ⟨q5, 0, none⟩) (r.length + 1) c5) = w6 at *
                      have HA6 : Hid (A7 w6 (gx xs) (w.heap.size + 1) gn gw (zs7 (gx xs) n k) sv ct ut) := HA.out.keep (fun b _ h => B6.block b (by omega)) (B6.block _ hgl) (Nat.le_refl _) (Nat.le_refl _)
                      have hN6 : A7 w6 (gx xs) (gn + 1) w6.heap.size gn (nz (gx xs) n k s j) nsv nct nut := HN.out.keep (fun b _ h => B6.block b h) (B6.block _ (by omega)) (Nat.le_refl _) (by omega)
                      have HG6 : Hid (∃ t, w6.heap[w.heap.size]? = some (.cells #[.slice none 0 0, .int .i64 0, .bool false] t (0, 0))) := by
                        obtain ⟨t, h⟩ := HG.out
                        exact ⟨t, by rw [B6.block _ (by have := HGN.out; omega)]; exact h⟩
                      have HB6 := hid (hb.trans (B6.mono hsw))
                      have HO6 := hid (ho6.fit (D := gn + 1) (E := w6.heap.size) (by omega) (by omega))
                      obtain ⟨gt, hgt⟩ : ∃ gt, wr.heap.size = gt := ⟨_, rfl⟩
                      rw [hgt] at r6 ⊢
                      have HR6 := hid r6
                      have e0 : w6.cell? ⟨gt, 0, none⟩ = some (Value.slice (some ⟨q5, 0, none⟩) (r.length + 1) c5) := by rw [cell_of_row w6 gt 0 _ _ _ r6]; rfl
                      have e1' : w6.cell? ⟨gt, 1, none⟩ = some (.int .i64 NC) := by rw [cell_of_row w6 gt 1 _ _ _ r6]; rfl
                      have e2' : w6.cell? ⟨gt, 2, none⟩ = some (.bool true) := by rw [cell_of_row w6 gt 2 _ _ _ r6]; rfl
                      have k0 := hN6.c0 hto
                      have k1 := hN6.c1 hto
                      have k2 := hN6.c2 hto
                      have hpt6 := hN6.2 to hto
                      have HN6 := hid hN6
                      have hgt6 : gt < w6.heap.size := by omega
                      have hgn6 : gn + 1 ≤ w6.heap.size := by omega
                      clear B6 r6 r5 ho6 ho5 ec ef HA HN HG hb hg1 hz3 GN3 b3 b5 z6 hN6 hsw hgl
                      rcases HNX.out with ⟨e1, e2⟩ | ⟨p, e1, e2⟩
                      · as_aux_lemma =>
                          have HE2 := hid e2
                          rw [e1] at hpt6
                          obtain ⟨p1, p2, p3⟩ := hpt6
                          rw [p1] at k0
                          rw [p2] at k1
                          rw [p3] at k2
                          have B7 := hid (better7_none (Value.slice (some ⟨q5, 0, none⟩) (r.length + 1) c5) NC rfl w6.drew)
                          clear e1 e2 p1 p2 p3
                          go_region_law (go_simp; go_at_call 46; (with_reducible refine B7.out.mono ?_); rintro e w7 ⟨rfl, b7⟩)
                          all_goals
                            clear e0 e1' e2' k0 k1 k2
                            have b7 : Below w6.heap.size w6 w7 := ⟨b7.os, b7.tape, b7.output, b7.size, b7.block⟩
                            have s7 := b7.size
                            have s7 : w6.heap.size ≤ w7.heap.size := s7
                            have HA7 : Hid (A7 w7 (gx xs) (w.heap.size + 1) gn gw (zs7 (gx xs) n k) sv ct ut) := HA6.out.keep (fun b _ h => b7.block b (by show b < w6.heap.size; omega)) (b7.block _ (by have := HGW.out; show gw < w6.heap.size; omega)) (Nat.le_refl _) (Nat.le_refl _)
                            have hN7 : A7 w7 (gx xs) (gn + 1) w7.heap.size gn (nz (gx xs) n k s j) nsv nct nut := HN6.out.keep (fun b _ h => b7.block b h) (b7.block _ (by show gn < w6.heap.size; omega)) (Nat.le_refl _) s7
                            have HG7 : Hid (∃ t, w7.heap[w.heap.size]? = some (.cells #[.slice none 0 0, .int .i64 0, .bool false] t (0, 0))) := by
                              obtain ⟨t, h⟩ := HG6.out
                              exact ⟨t, by rw [b7.block _ (by have := HGN.out; show w.heap.size < w6.heap.size; omega)]; exact h⟩
                            have HB7 := hid (HB6.out.trans ((b7.mono (B' := w.heap.size) (by have := HB6.out.size; show w.heap.size ≤ w6.heap.size; omega))))
                            have HO7 := hid ((HO6.out.below b7 (Nat.le_refl _)).fit (D := gn + 1) (E := w7.heap.size) (Nat.le_refl _) s7)
                            have HS7 := hid (show gn + 1 ≤ w7.heap.size by omega)
                            have r7 := (b7.block _ (show gt < w6.heap.size by omega)).trans HR6.out
                            have e0 : w7.cell? ⟨gt, 0, none⟩ = some (Value.slice (some ⟨q5, 0, none⟩) (r.length + 1) c5) := by rw [cell_of_row w7 gt 0 _ _ _ r7]; rfl
                            have e1' : w7.cell? ⟨gt, 1, none⟩ = some (.int .i64 NC) := by rw [cell_of_row w7 gt 1 _ _ _ r7]; rfl
                            have e2' : w7.cell? ⟨gt, 2, none⟩ = some (.bool true) := by rw [cell_of_row w7 gt 2 _ _ _ r7]; rfl
                            have k0 := hN7.c0 hto
                            have k1 := hN7.c1 hto
                            have k2 := hN7.c2 hto
                            have f0 := hN7.free (to * 3)
                            have f1 := hN7.free (to * 3 + 1)
                            have f2 := hN7.free (to * 3 + 2)
                            have HN7 := hid hN7
                            clear b7 r7 hN7
                            go_wp2_with fail
                            go_roundw
                            case rel =>
                              refine ⟨j + 1, fun t => if t = to then (Value.slice (some ⟨q5, 0, none⟩) (r.length + 1) c5) else nsv t, fun t => if t = to then NC else nct t, fun t => if t = to then true else nut t, by omega, by go_num, ?_, ?_, ?_, ?_, ?_, fun e => by cases e⟩
                              · exact hid (HA7.out.keep (fun b _ h => by rw [Below.heap_setCell _ ⟨gn, to * 3 + 2, none⟩ _ b (by show b ≠ gn; omega), Below.heap_setCell _ ⟨gn, to * 3 + 1, none⟩ _ b (by show b ≠ gn; omega), Below.heap_setCell _ ⟨gn, to * 3, none⟩ _ b (by show b ≠ gn; omega)]) (by rw [Below.heap_setCell _ ⟨gn, to * 3 + 2, none⟩ _ gw (by have := HGW.out; show gw ≠ gn; omega), Below.heap_setCell _ ⟨gn, to * 3 + 1, none⟩ _ gw (by have := HGW.out; show gw ≠ gn; omega), Below.heap_setCell _ ⟨gn, to * 3, none⟩ _ gw (by have := HGW.out; show gw ≠ gn; omega)]) (Nat.le_refl _) (Nat.le_refl _))
                              · refine hid ((((HN7.out.store (.inl (by omega)) hto (o := some ((j : Int) :: r)) ⟨HCS.out.symm, rfl, HO7.out⟩).keep (fun _ _ _ => rfl) rfl (Nat.le_refl _) (by simp))).eqv fun t ht => ?_)
                                by_cases h : t = to
                                · subst h; rw [if_pos rfl, HE2.out]
                                · rw [if_neg h, HNE.out t ht h]
                              · obtain ⟨t, h⟩ := HG7.out
                                exact hid ⟨t, by rw [Below.heap_setCell _ ⟨gn, to * 3 + 2, none⟩ _ _ (by have := HGN.out; show w.heap.size ≠ gn; omega), Below.heap_setCell _ ⟨gn, to * 3 + 1, none⟩ _ _ (by have := HGN.out; show w.heap.size ≠ gn; omega), Below.heap_setCell _ ⟨gn, to * 3, none⟩ _ _ (by have := HGN.out; show w.heap.size ≠ gn; omega)]; exact h⟩
                              · exact ((HB7.out.setCell (p := ⟨gn, to * 3, none⟩) (by have := HGN.out; simp; omega) _).setCell (p := ⟨gn, to * 3 + 1, none⟩) (by have := HGN.out; simp; omega) _).setCell (p := ⟨gn, to * 3 + 2, none⟩) (by have := HGN.out; simp; omega) _
                              · have := HS7.out; simp; omega
                            case measure => simp [intOf]; omega
                      · have HE2 := hid e2
                        have hpl := hid (nz_len hto e1)
                        have HE1 := hid e1
                        rw [e1] at hpt6
                        obtain ⟨p1, p2, p3⟩ := hpt6
                        rw [p1] at k1
                        rw [p2] at k2
                        have B7 := better7_some (y := gx xs) (p := (j : Int) :: r) (q := p) w6.drew (HO6.out.rd.drewN 1) (p3.rd.drewN 1) (Nat.le_refl _) (Nat.le_refl _) (by rw [hpl.out]; simp [HRL.out])
                        rw [HCS.out] at B7
                        cases hless : lessB (gx xs) ((j : Int) :: r) p with
                        | true => as_aux_lemma =>
                          rw [hless] at B7
                          have B7 := hid B7
                          have HE2 := hid (HE2.out.trans (by rw [if_pos hless]))
                          clear hless e1 e2 p1 p2 p3
                          go_region_law (go_simp; go_at_call 46; (with_reducible refine B7.out.mono ?_); rintro e w7 ⟨rfl, b7⟩)
                          all_goals
                            clear e0 e1' e2' k0 k1 k2
                            have b7 : Below w6.heap.size w6 w7 := ⟨b7.os, b7.tape, b7.output, b7.size, b7.block⟩
                            have s7 := b7.size
                            have s7 : w6.heap.size ≤ w7.heap.size := s7
                            have HA7 : Hid (A7 w7 (gx xs) (w.heap.size + 1) gn gw (zs7 (gx xs) n k) sv ct ut) := HA6.out.keep (fun b _ h => b7.block b (by show b < w6.heap.size; omega)) (b7.block _ (by have := HGW.out; show gw < w6.heap.size; omega)) (Nat.le_refl _) (Nat.le_refl _)
                            have hN7 : A7 w7 (gx xs) (gn + 1) w7.heap.size gn (nz (gx xs) n k s j) nsv nct nut := HN6.out.keep (fun b _ h => b7.block b h) (b7.block _ (by show gn < w6.heap.size; omega)) (Nat.le_refl _) s7
                            have HG7 : Hid (∃ t, w7.heap[w.heap.size]? = some (.cells #[.slice none 0 0, .int .i64 0, .bool false] t (0, 0))) := by
                              obtain ⟨t, h⟩ := HG6.out
                              exact ⟨t, by rw [b7.block _ (by have := HGN.out; show w.heap.size < w6.heap.size; omega)]; exact h⟩
                            have HB7 := hid (HB6.out.trans ((b7.mono (B' := w.heap.size) (by have := HB6.out.size; show w.heap.size ≤ w6.heap.size; omega))))
                            have HO7 := hid ((HO6.out.below b7 (Nat.le_refl _)).fit (D := gn + 1) (E := w7.heap.size) (Nat.le_refl _) s7)
                            have HS7 := hid (show gn + 1 ≤ w7.heap.size by omega)
                            have r7 := (b7.block _ (show gt < w6.heap.size by omega)).trans HR6.out
                            have e0 : w7.cell? ⟨gt, 0, none⟩ = some (Value.slice (some ⟨q5, 0, none⟩) (r.length + 1) c5) := by rw [cell_of_row w7 gt 0 _ _ _ r7]; rfl
                            have e1' : w7.cell? ⟨gt, 1, none⟩ = some (.int .i64 NC) := by rw [cell_of_row w7 gt 1 _ _ _ r7]; rfl
                            have e2' : w7.cell? ⟨gt, 2, none⟩ = some (.bool true) := by rw [cell_of_row w7 gt 2 _ _ _ r7]; rfl
                            have k0 := hN7.c0 hto
                            have k1 := hN7.c1 hto
                            have k2 := hN7.c2 hto
                            have f0 := hN7.free (to * 3)
                            have f1 := hN7.free (to * 3 + 1)
                            have f2 := hN7.free (to * 3 + 2)
                            have HN7 := hid hN7
                            clear b7 r7 hN7
                            go_wp2_with fail
                            go_roundw
                            case rel =>
                              refine ⟨j + 1, fun t => if t = to then (Value.slice (some ⟨q5, 0, none⟩) (r.length + 1) c5) else nsv t, fun t => if t = to then NC else nct t, fun t => if t = to then true else nut t, by omega, by go_num, ?_, ?_, ?_, ?_, ?_, fun e => by cases e⟩
                              · exact hid (HA7.out.keep (fun b _ h => by rw [Below.heap_setCell _ ⟨gn, to * 3 + 2, none⟩ _ b (by show b ≠ gn; omega), Below.heap_setCell _ ⟨gn, to * 3 + 1, none⟩ _ b (by show b ≠ gn; omega), Below.heap_setCell _ ⟨gn, to * 3, none⟩ _ b (by show b ≠ gn; omega)]) (by rw [Below.heap_setCell _ ⟨gn, to * 3 + 2, none⟩ _ gw (by have := HGW.out; show gw ≠ gn; omega), Below.heap_setCell _ ⟨gn, to * 3 + 1, none⟩ _ gw (by have := HGW.out; show gw ≠ gn; omega), Below.heap_setCell _ ⟨gn, to * 3, none⟩ _ gw (by have := HGW.out; show gw ≠ gn; omega)]) (Nat.le_refl _) (Nat.le_refl _))
                              · refine hid ((((HN7.out.store (.inl (by omega)) hto (o := some ((j : Int) :: r)) ⟨HCS.out.symm, rfl, HO7.out⟩).keep (fun _ _ _ => rfl) rfl (Nat.le_refl _) (by simp))).eqv fun t ht => ?_)
                                by_cases h : t = to
                                · subst h; rw [if_pos rfl, HE2.out]
                                · rw [if_neg h, HNE.out t ht h]
                              · obtain ⟨t, h⟩ := HG7.out
                                exact hid ⟨t, by rw [Below.heap_setCell _ ⟨gn, to * 3 + 2, none⟩ _ _ (by have := HGN.out; show w.heap.size ≠ gn; omega), Below.heap_setCell _ ⟨gn, to * 3 + 1, none⟩ _ _ (by have := HGN.out; show w.heap.size ≠ gn; omega), Below.heap_setCell _ ⟨gn, to * 3, none⟩ _ _ (by have := HGN.out; show w.heap.size ≠ gn; omega)]; exact h⟩
                              · exact ((HB7.out.setCell (p := ⟨gn, to * 3, none⟩) (by have := HGN.out; simp; omega) _).setCell (p := ⟨gn, to * 3 + 1, none⟩) (by have := HGN.out; simp; omega) _).setCell (p := ⟨gn, to * 3 + 2, none⟩) (by have := HGN.out; simp; omega) _
                              · have := HS7.out; simp; omega
                            case measure => simp [intOf]; omega
                        | false => as_aux_lemma =>
                          rw [hless] at B7
                          have B7 := hid B7
                          have HE2 := hid (HE2.out.trans (by rw [if_neg (by rw [hless]; decide)]))
                          clear hless e1 e2 p1 p2 p3
                          go_region_law (go_simp; go_at_call 46; (with_reducible refine B7.out.mono ?_); rintro e w7 ⟨rfl, b7⟩)
                          all_goals
                            clear e0 e1' e2' k0 k1 k2
                            have b7 : Below w6.heap.size w6 w7 := ⟨b7.os, b7.tape, b7.output, b7.size, b7.block⟩
                            have s7 := b7.size
                            have s7 : w6.heap.size ≤ w7.heap.size := s7
                            have HA7 : Hid (A7 w7 (gx xs) (w.heap.size + 1) gn gw (zs7 (gx xs) n k) sv ct ut) := HA6.out.keep (fun b _ h => b7.block b (by show b < w6.heap.size; omega)) (b7.block _ (by have := HGW.out; show gw < w6.heap.size; omega)) (Nat.le_refl _) (Nat.le_refl _)
                            have hN7 : A7 w7 (gx xs) (gn + 1) w7.heap.size gn (nz (gx xs) n k s j) nsv nct nut := HN6.out.keep (fun b _ h => b7.block b h) (b7.block _ (by show gn < w6.heap.size; omega)) (Nat.le_refl _) s7
                            have HG7 : Hid (∃ t, w7.heap[w.heap.size]? = some (.cells #[.slice none 0 0, .int .i64 0, .bool false] t (0, 0))) := by
                              obtain ⟨t, h⟩ := HG6.out
                              exact ⟨t, by rw [b7.block _ (by have := HGN.out; show w.heap.size < w6.heap.size; omega)]; exact h⟩
                            have HB7 := hid (HB6.out.trans ((b7.mono (B' := w.heap.size) (by have := HB6.out.size; show w.heap.size ≤ w6.heap.size; omega))))
                            have HO7 := hid ((HO6.out.below b7 (Nat.le_refl _)).fit (D := gn + 1) (E := w7.heap.size) (Nat.le_refl _) s7)
                            have HS7 := hid (show gn + 1 ≤ w7.heap.size by omega)
                            have r7 := (b7.block _ (show gt < w6.heap.size by omega)).trans HR6.out
                            have e0 : w7.cell? ⟨gt, 0, none⟩ = some (Value.slice (some ⟨q5, 0, none⟩) (r.length + 1) c5) := by rw [cell_of_row w7 gt 0 _ _ _ r7]; rfl
                            have e1' : w7.cell? ⟨gt, 1, none⟩ = some (.int .i64 NC) := by rw [cell_of_row w7 gt 1 _ _ _ r7]; rfl
                            have e2' : w7.cell? ⟨gt, 2, none⟩ = some (.bool true) := by rw [cell_of_row w7 gt 2 _ _ _ r7]; rfl
                            have k0 := hN7.c0 hto
                            have k1 := hN7.c1 hto
                            have k2 := hN7.c2 hto
                            have f0 := hN7.free (to * 3)
                            have f1 := hN7.free (to * 3 + 1)
                            have f2 := hN7.free (to * 3 + 2)
                            have HN7 := hid hN7
                            clear b7 r7 hN7
                            go_wp2_with fail
                            go_roundw
                            case rel =>
                              refine ⟨j + 1, nsv, nct, nut, by omega, by go_num, HA7, hid (HN7.out.eqv fun t ht => ?_), HG7, HB7.out, HS7.out, fun e => by cases e⟩
                              by_cases h : t = to
                              · subst h; rw [HE2.out, HE1.out]
                              · exact (HNE.out t ht h).symm
                            case measure => simp [intOf]; omega
                  · have ink : (n : Int) ≤ (k : Int) := by omega
                    have bj : ((j : Int) == 1) = false := by simp; omega
                    as_aux_lemma =>
                      have HGW := hid (show gw < gn by omega)
                      have HGN := hid (show w.heap.size + 2 ≤ gn by omega)
                      obtain ⟨hrl, hok', hsa, hsc⟩ := zs_facts hs4 hvs
                      have HRL := hid hrl
                      have cc := HA.out.c1 hs4
                      rw [hcs] at cc
                      have cs0 := HA.out.c0 hs4
                      have hcin := cost_in (gx xs) r
                      obtain ⟨O1, hO1⟩ : ∃ O1, O1 = o1 ((j : Nat) : Int) ((s % 2 : Nat) : Int) ((s / 2 : Nat) : Int) := ⟨_, rfl⟩
                      obtain ⟨O2, hO2⟩ : ∃ O2, O2 = o2 ((j : Nat) : Int) ((s / 2 : Nat) : Int) := ⟨_, rfl⟩
                      have HCS := hid (cost_step7 (y := gx xs) (j := j) hrl hsa hsc hO1 hO2)
                      have m1 : (s : Int) % 2 = ((s % 2 : Nat) : Int) := by omega
                      have m2 : (s : Int) / 2 = ((s / 2 : Nat) : Int) := by omega
                      have PR : Hid (∀ W, Calls Tryd.prog 32 #[.int .i64 (s : Nat), .int .i64 (j : Nat)] W fun e w' => e = .returned (.tuple #[.int .i64 O1, .int .i64 O2]) ∧ W = w') := fun W => by
                        have := l7Pair_c (s : Int) (j : Int) W (by omega) (by omega)
                        rw [m1, m2, ← hO1, ← hO2] at this
                        exact this
                      have NX : Hid (∀ W, Calls Tryd.prog 33 #[.int .i64 (s : Nat), .int .i64 (j : Nat)] W fun e w' => e = .returned (.int .i64 ((s % 2 * 2 + j : Nat) : Int)) ∧ W = w') := fun W => by
                        have := l7Next_c (s : Int) (j : Int) W (by omega) (by omega)
                        rw [show (s : Int) % 2 * 2 + (j : Int) = ((s % 2 * 2 + j : Nat) : Int) by omega] at this
                        exact this
                      have hob1 := o1_bit hO1
                      have hob2 := o2_bit hO2
                      have hnx := nz_at (gx xs) n k s j hj2 hs4 hskip hvs
                      have HNE := hid (fun t (ht : t < 4) (h : t ≠ s % 2 * 2 + j) => nz_else (gx xs) n k s j t h hj2 hs4 ht)
                      have hto : s % 2 * 2 + j < 4 := by omega
                      generalize s % 2 * 2 + j = to at NX hnx HNE hto
                      have HNX := hid hnx
                      have ito : (to : Int) < 4 := by omega
                      have hR := h.below hb hC
                      obtain ⟨bA, oA, rfl, hbC, hcl⟩ := hR.cells (by have := HM.out; omega)
                      have cl0 := hcl (2 * k) (by have := HM.out; omega)
                      have cl1 := hcl (2 * k + 1) (by have := HM.out; omega)
                      have hx0 := bitsOk_at HB.out (2 * k)
                      have hx1 := bitsOk_at HB.out (2 * k + 1)
                      have HCS : Hid (T.cost (gx xs) ((j : Int) :: r) = T.cost (gx xs) r + dx O1 (xs.getD (2 * k) 0) + dx O2 (xs.getD (2 * k + 1) 0)) := HCS.out
                      generalize xs.getD (2 * k) 0 = L0 at cl0 hx0 HCS
                      generalize xs.getD (2 * k + 1) 0 = L1 at cl1 hx1 HCS
                      have x1 := xor_dx hob1 hx0
                      have x2 := xor_dx hob2 hx1
                      have dd1 := dx_in O1 L0
                      have dd2 := dx_in O2 L1
                      generalize dx O1 L0 = D1 at x1 dd1 HCS
                      generalize dx O2 L1 = D2 at x2 dd2 HCS
                      have hos := hid hos
                      generalize T.cost (gx xs) r = c0 at cc hcin HCS
                      obtain ⟨E1, hE1⟩ : ∃ E1, c0 + D1 = E1 := ⟨_, rfl⟩
                      obtain ⟨NC, hNC⟩ : ∃ NC, E1 + D2 = NC := ⟨_, rfl⟩
                      obtain ⟨K2, hK2⟩ : ∃ K2, 2 * k = K2 := ⟨_, rfl⟩
                      obtain ⟨K3, hK3⟩ : ∃ K3, 2 * k + 1 = K3 := ⟨_, rfl⟩
                      rw [hK2] at cl0
                      rw [hK3] at cl1
                      have HCS := hid (show T.cost (gx xs) ((j : Int) :: r) = NC by rw [HCS.out, hE1, hNC])
                      have eK2 : 2 * (k : Int) = (K2 : Int) := by omega
                      have eK3 : (K2 : Int) + 1 = (K3 : Int) := by omega
                      have b1' : 0 ≤ E1 ∧ E1 ≤ 200 := by omega
                      have b2' : 0 ≤ NC ∧ NC ≤ 200 := by omega
                      have b3' : K2 < m := by have := HM.out; omega
                      have b4' : K3 < m := by have := HM.out; omega
                      have b5' : K3 ≤ 200 := by omega
                      have hk2 : k ≤ 50 := by omega
                      have hsw := hb.size
                      have hgl := HA.out.lt
                      have bq : Below wr.heap.size wr ((wr.alloc (.cells #[.slice none 0 0, .int .i64 0, .bool false] 46)).drew) := below_drewN ((Below.refl wr.heap.size wr).alloc (Nat.le_refl _) _) 1
                      have cc2 := (bq.cell (p := ⟨gw, s * 3 + 1, none⟩) hgl).trans cc
                      have cl2 := (bq.cell (p := ⟨bA, oA + K2, none⟩) (by show bA < wr.heap.size; omega)).trans cl0
                      have cl3 := (bq.cell (p := ⟨bA, oA + K3, none⟩) (by show bA < wr.heap.size; omega)).trans cl1
                      clear bq
                      clear hcl hK2 hK3 hcin dd1 dd2 hx0 hx1 hsa hsc hO1 hO2 hob1 hob2 m1 m2 hR hnx hcs hus hrl hok'
                      go_wp2_with fail
                      refine (PR.out _).mono ?_
                      rintro e w' ⟨rfl, rfl⟩
                      go_wp2_with fail
                      go_region
                      have hz3 : ((wr.alloc (.cells #[.slice none 0 0, .int .i64 NC, .bool true] 46)).drew).heap.size = wr.heap.size + 1 := World.size_alloc wr _
                      have GN3 : ((wr.alloc (.cells #[.slice none 0 0, .int .i64 NC, .bool true] 46)).drew).heap[wr.heap.size]? = _ := heap_alloc_new wr _
                      have b3 : Below wr.heap.size wr ((wr.alloc (.cells #[.slice none 0 0, .int .i64 NC, .bool true] 46)).drew) := below_drewN ((Below.refl wr.heap.size wr).alloc (Nat.le_refl _) _) 1
                      generalize (wr.alloc (.cells #[.slice none 0 0, .int .i64 NC, .bool true] 46)).drew = w3 at *
                      have hE := (Own.empty w3).more (show w3.heap.size + 1 ≤ (w3.alloc (.cells #[] 3)).heap.size by simp)
                      have bE := (Below.refl w3.heap.size w3).alloc (Nat.le_refl _) (.cells #[] 3)
                      have bE2 := b3.trans (bE.mono (show wr.heap.size ≤ w3.heap.size by omega))
                      have osE := (hos.out.below b3 (by omega)).below bE (show gn ≤ w3.heap.size by omega)
                      have csE := (bE2.cell (p := ⟨gw, s * 3, none⟩) hgl).trans cs0
                      have hgt3 : wr.heap.size < w3.heap.size := by omega
                      have HZ3 := hid hz3
                      clear hz3
                      clear cc cc2 cl0 cl1 cl2 cl3 b1' b2' b3' b4' b5' x1 x2 hE1 hNC eK2 eK3 cs0 cu
                      go_wp2_with (first | (at_builtin; refine wpl_append intSl _ rfl (.tmp 80) (.tmp 85) rfl w3.heap.size _ gn _ _ [] r.reverse rfl rfl hE osE.rd (by simp [HRL.out]; omega) (by simp) ?_; intro v4 w4 ho4 g4 _; rw [List.nil_append] at ho4; have b4 := bE.trans (below_of_own hE g4 (Nat.le_refl _) (by simp)); have s4 := b4.size) | (at_builtin; refine wpl_appl intSl _ rfl (.tmp 86) (.tmp 88) rfl w3.heap.size w4.heap.size _ _ _ [(j : Int)] 1 rfl rfl rfl rfl ho4 (Nat.le_refl _) (by simp [HRL.out]; omega) s4 ?_; intro v5 w5 ho5 g5; have b5 := b4.trans (below_of_own ho4 g5 (Nat.le_refl _) s4); have s5 := b5.size; obtain ⟨q5, c5, rfl, q5B, q5C⟩ := own_ne ho5; have r5 := (b5.block _ hgt3).trans GN3; have ec := cell_of_row w5 wr.heap.size 0 _ _ _ r5; have ef := frozen_of_row w5 wr.heap.size 0 _ _ r5; have ec : w5.cell? ⟨wr.heap.size, 0, none⟩ = some (.slice none 0 0) := ec; clear hE bE bE2 osE csE g4 g5 b4) | (go_at_call 33; refine (NX.out _).mono ?_; rintro e w' ⟨rfl, rfl⟩))
                      have hz3 := HZ3.out
                      have ho6 := ho5.apart (grown_set (World.grownBy.refl w5 (some wr.heap.size)) (i := 0) (Value.slice (some ⟨q5, 0, none⟩) (r.length + 1) c5)) (fun q hq => by injection hq; omega)
                      rw [← List.reverse_cons] at ho6
                      have r6 := heap_setCell_same w5 wr.heap.size 0 _ _ (Value.slice (some ⟨q5, 0, none⟩) (r.length + 1) c5) r5
                      have r6 : (w5.setCell ⟨wr.heap.size, 0, none⟩ (Value.slice (some ⟨q5, 0, none⟩) (r.length + 1) c5)).heap[wr.heap.size]? = some (.cells #[(Value.slice (some ⟨q5, 0, none⟩) (r.length + 1) c5), .int .i64 NC, .bool true] 46 (0, 0)) := r6
                      have B6 := (b3.trans (b5.mono (show wr.heap.size ≤ w3.heap.size by omega))).setCell (p := ⟨wr.heap.size, 0, none⟩) (Nat.le_refl _) (Value.slice (some ⟨q5, 0, none⟩) (r.length + 1) c5)
                      have z6 : (w5.setCell ⟨wr.heap.size, 0, none⟩ (Value.slice (some ⟨q5, 0, none⟩) (r.length + 1) c5)).heap.size = w5.heap.size := by simp
                      generalize w5.setCell ⟨wr.heap.size, 0, none⟩ (Value.slice (some ⟨q5, 0, none⟩) (r.length + 1) c5) = w6 at *
                      have HA6 : Hid (A7 w6 (gx xs) (w.heap.size + 1) gn gw (zs7 (gx xs) n k) sv ct ut) := HA.out.keep (fun b _ h => B6.block b (by omega)) (B6.block _ hgl) (Nat.le_refl _) (Nat.le_refl _)
                      have hN6 : A7 w6 (gx xs) (gn + 1) w6.heap.size gn (nz (gx xs) n k s j) nsv nct nut := HN.out.keep (fun b _ h => B6.block b h) (B6.block _ (by omega)) (Nat.le_refl _) (by omega)
                      have HG6 : Hid (∃ t, w6.heap[w.heap.size]? = some (.cells #[.slice none 0 0, .int .i64 0, .bool false] t (0, 0))) := by
                        obtain ⟨t, h⟩ := HG.out
                        exact ⟨t, by rw [B6.block _ (by have := HGN.out; omega)]; exact h⟩
                      have HB6 := hid (hb.trans (B6.mono hsw))
                      have HO6 := hid (ho6.fit (D := gn + 1) (E := w6.heap.size) (by omega) (by omega))
                      obtain ⟨gt, hgt⟩ : ∃ gt, wr.heap.size = gt := ⟨_, rfl⟩
                      rw [hgt] at r6 ⊢
                      have HR6 := hid r6
                      have e0 : w6.cell? ⟨gt, 0, none⟩ = some (Value.slice (some ⟨q5, 0, none⟩) (r.length + 1) c5) := by rw [cell_of_row w6 gt 0 _ _ _ r6]; rfl
                      have e1' : w6.cell? ⟨gt, 1, none⟩ = some (.int .i64 NC) := by rw [cell_of_row w6 gt 1 _ _ _ r6]; rfl
                      have e2' : w6.cell? ⟨gt, 2, none⟩ = some (.bool true) := by rw [cell_of_row w6 gt 2 _ _ _ r6]; rfl
                      have k0 := hN6.c0 hto
                      have k1 := hN6.c1 hto
                      have k2 := hN6.c2 hto
                      have hpt6 := hN6.2 to hto
                      have HN6 := hid hN6
                      have hgt6 : gt < w6.heap.size := by omega
                      have hgn6 : gn + 1 ≤ w6.heap.size := by omega
                      clear B6 r6 r5 ho6 ho5 ec ef HA HN HG hb hg1 hz3 GN3 b3 b5 z6 hN6 hsw hgl
                      rcases HNX.out with ⟨e1, e2⟩ | ⟨p, e1, e2⟩
                      · as_aux_lemma =>
                          have HE2 := hid e2
                          rw [e1] at hpt6
                          obtain ⟨p1, p2, p3⟩ := hpt6
                          rw [p1] at k0
                          rw [p2] at k1
                          rw [p3] at k2
                          have B7 := hid (better7_none (Value.slice (some ⟨q5, 0, none⟩) (r.length + 1) c5) NC rfl w6.drew)
                          clear e1 e2 p1 p2 p3
                          go_region_law (go_simp; go_at_call 46; (with_reducible refine B7.out.mono ?_); rintro e w7 ⟨rfl, b7⟩)
                          all_goals
                            clear e0 e1' e2' k0 k1 k2
                            have b7 : Below w6.heap.size w6 w7 := ⟨b7.os, b7.tape, b7.output, b7.size, b7.block⟩
                            have s7 := b7.size
                            have s7 : w6.heap.size ≤ w7.heap.size := s7
                            have HA7 : Hid (A7 w7 (gx xs) (w.heap.size + 1) gn gw (zs7 (gx xs) n k) sv ct ut) := HA6.out.keep (fun b _ h => b7.block b (by show b < w6.heap.size; omega)) (b7.block _ (by have := HGW.out; show gw < w6.heap.size; omega)) (Nat.le_refl _) (Nat.le_refl _)
                            have hN7 : A7 w7 (gx xs) (gn + 1) w7.heap.size gn (nz (gx xs) n k s j) nsv nct nut := HN6.out.keep (fun b _ h => b7.block b h) (b7.block _ (by show gn < w6.heap.size; omega)) (Nat.le_refl _) s7
                            have HG7 : Hid (∃ t, w7.heap[w.heap.size]? = some (.cells #[.slice none 0 0, .int .i64 0, .bool false] t (0, 0))) := by
                              obtain ⟨t, h⟩ := HG6.out
                              exact ⟨t, by rw [b7.block _ (by have := HGN.out; show w.heap.size < w6.heap.size; omega)]; exact h⟩
                            have HB7 := hid (HB6.out.trans ((b7.mono (B' := w.heap.size) (by have := HB6.out.size; show w.heap.size ≤ w6.heap.size; omega))))
                            have HO7 := hid ((HO6.out.below b7 (Nat.le_refl _)).fit (D := gn + 1) (E := w7.heap.size) (Nat.le_refl _) s7)
                            have HS7 := hid (show gn + 1 ≤ w7.heap.size by omega)
                            have r7 := (b7.block _ (show gt < w6.heap.size by omega)).trans HR6.out
                            have e0 : w7.cell? ⟨gt, 0, none⟩ = some (Value.slice (some ⟨q5, 0, none⟩) (r.length + 1) c5) := by rw [cell_of_row w7 gt 0 _ _ _ r7]; rfl
                            have e1' : w7.cell? ⟨gt, 1, none⟩ = some (.int .i64 NC) := by rw [cell_of_row w7 gt 1 _ _ _ r7]; rfl
                            have e2' : w7.cell? ⟨gt, 2, none⟩ = some (.bool true) := by rw [cell_of_row w7 gt 2 _ _ _ r7]; rfl
                            have k0 := hN7.c0 hto
                            have k1 := hN7.c1 hto
                            have k2 := hN7.c2 hto
                            have f0 := hN7.free (to * 3)
                            have f1 := hN7.free (to * 3 + 1)
                            have f2 := hN7.free (to * 3 + 2)
                            have HN7 := hid hN7
                            clear b7 r7 hN7
                            go_wp2_with fail
                            go_roundw
                            case rel =>
                              refine ⟨j + 1, fun t => if t = to then (Value.slice (some ⟨q5, 0, none⟩) (r.length + 1) c5) else nsv t, fun t => if t = to then NC else nct t, fun t => if t = to then true else nut t, by omega, by go_num, ?_, ?_, ?_, ?_, ?_, fun e => by cases e⟩
                              · exact hid (HA7.out.keep (fun b _ h => by rw [Below.heap_setCell _ ⟨gn, to * 3 + 2, none⟩ _ b (by show b ≠ gn; omega), Below.heap_setCell _ ⟨gn, to * 3 + 1, none⟩ _ b (by show b ≠ gn; omega), Below.heap_setCell _ ⟨gn, to * 3, none⟩ _ b (by show b ≠ gn; omega)]) (by rw [Below.heap_setCell _ ⟨gn, to * 3 + 2, none⟩ _ gw (by have := HGW.out; show gw ≠ gn; omega), Below.heap_setCell _ ⟨gn, to * 3 + 1, none⟩ _ gw (by have := HGW.out; show gw ≠ gn; omega), Below.heap_setCell _ ⟨gn, to * 3, none⟩ _ gw (by have := HGW.out; show gw ≠ gn; omega)]) (Nat.le_refl _) (Nat.le_refl _))
                              · refine hid ((((HN7.out.store (.inl (by omega)) hto (o := some ((j : Int) :: r)) ⟨HCS.out.symm, rfl, HO7.out⟩).keep (fun _ _ _ => rfl) rfl (Nat.le_refl _) (by simp))).eqv fun t ht => ?_)
                                by_cases h : t = to
                                · subst h; rw [if_pos rfl, HE2.out]
                                · rw [if_neg h, HNE.out t ht h]
                              · obtain ⟨t, h⟩ := HG7.out
                                exact hid ⟨t, by rw [Below.heap_setCell _ ⟨gn, to * 3 + 2, none⟩ _ _ (by have := HGN.out; show w.heap.size ≠ gn; omega), Below.heap_setCell _ ⟨gn, to * 3 + 1, none⟩ _ _ (by have := HGN.out; show w.heap.size ≠ gn; omega), Below.heap_setCell _ ⟨gn, to * 3, none⟩ _ _ (by have := HGN.out; show w.heap.size ≠ gn; omega)]; exact h⟩
                              · exact ((HB7.out.setCell (p := ⟨gn, to * 3, none⟩) (by have := HGN.out; simp; omega) _).setCell (p := ⟨gn, to * 3 + 1, none⟩) (by have := HGN.out; simp; omega) _).setCell (p := ⟨gn, to * 3 + 2, none⟩) (by have := HGN.out; simp; omega) _
                              · have := HS7.out; simp; omega
                            case measure => simp [intOf]; omega
                      · have HE2 := hid e2
                        have hpl := hid (nz_len hto e1)
                        have HE1 := hid e1
                        rw [e1] at hpt6
                        obtain ⟨p1, p2, p3⟩ := hpt6
                        rw [p1] at k1
                        rw [p2] at k2
                        have B7 := better7_some (y := gx xs) (p := (j : Int) :: r) (q := p) w6.drew (HO6.out.rd.drewN 1) (p3.rd.drewN 1) (Nat.le_refl _) (Nat.le_refl _) (by rw [hpl.out]; simp [HRL.out])
                        rw [HCS.out] at B7
                        cases hless : lessB (gx xs) ((j : Int) :: r) p with
                        | true => as_aux_lemma =>
                          rw [hless] at B7
                          have B7 := hid B7
                          have HE2 := hid (HE2.out.trans (by rw [if_pos hless]))
                          clear hless e1 e2 p1 p2 p3
                          go_region_law (go_simp; go_at_call 46; (with_reducible refine B7.out.mono ?_); rintro e w7 ⟨rfl, b7⟩)
                          all_goals
                            clear e0 e1' e2' k0 k1 k2
                            have b7 : Below w6.heap.size w6 w7 := ⟨b7.os, b7.tape, b7.output, b7.size, b7.block⟩
                            have s7 := b7.size
                            have s7 : w6.heap.size ≤ w7.heap.size := s7
                            have HA7 : Hid (A7 w7 (gx xs) (w.heap.size + 1) gn gw (zs7 (gx xs) n k) sv ct ut) := HA6.out.keep (fun b _ h => b7.block b (by show b < w6.heap.size; omega)) (b7.block _ (by have := HGW.out; show gw < w6.heap.size; omega)) (Nat.le_refl _) (Nat.le_refl _)
                            have hN7 : A7 w7 (gx xs) (gn + 1) w7.heap.size gn (nz (gx xs) n k s j) nsv nct nut := HN6.out.keep (fun b _ h => b7.block b h) (b7.block _ (by show gn < w6.heap.size; omega)) (Nat.le_refl _) s7
                            have HG7 : Hid (∃ t, w7.heap[w.heap.size]? = some (.cells #[.slice none 0 0, .int .i64 0, .bool false] t (0, 0))) := by
                              obtain ⟨t, h⟩ := HG6.out
                              exact ⟨t, by rw [b7.block _ (by have := HGN.out; show w.heap.size < w6.heap.size; omega)]; exact h⟩
                            have HB7 := hid (HB6.out.trans ((b7.mono (B' := w.heap.size) (by have := HB6.out.size; show w.heap.size ≤ w6.heap.size; omega))))
                            have HO7 := hid ((HO6.out.below b7 (Nat.le_refl _)).fit (D := gn + 1) (E := w7.heap.size) (Nat.le_refl _) s7)
                            have HS7 := hid (show gn + 1 ≤ w7.heap.size by omega)
                            have r7 := (b7.block _ (show gt < w6.heap.size by omega)).trans HR6.out
                            have e0 : w7.cell? ⟨gt, 0, none⟩ = some (Value.slice (some ⟨q5, 0, none⟩) (r.length + 1) c5) := by rw [cell_of_row w7 gt 0 _ _ _ r7]; rfl
                            have e1' : w7.cell? ⟨gt, 1, none⟩ = some (.int .i64 NC) := by rw [cell_of_row w7 gt 1 _ _ _ r7]; rfl
                            have e2' : w7.cell? ⟨gt, 2, none⟩ = some (.bool true) := by rw [cell_of_row w7 gt 2 _ _ _ r7]; rfl
                            have k0 := hN7.c0 hto
                            have k1 := hN7.c1 hto
                            have k2 := hN7.c2 hto
                            have f0 := hN7.free (to * 3)
                            have f1 := hN7.free (to * 3 + 1)
                            have f2 := hN7.free (to * 3 + 2)
                            have HN7 := hid hN7
                            clear b7 r7 hN7
                            go_wp2_with fail
                            go_roundw
                            case rel =>
                              refine ⟨j + 1, fun t => if t = to then (Value.slice (some ⟨q5, 0, none⟩) (r.length + 1) c5) else nsv t, fun t => if t = to then NC else nct t, fun t => if t = to then true else nut t, by omega, by go_num, ?_, ?_, ?_, ?_, ?_, fun e => by cases e⟩
                              · exact hid (HA7.out.keep (fun b _ h => by rw [Below.heap_setCell _ ⟨gn, to * 3 + 2, none⟩ _ b (by show b ≠ gn; omega), Below.heap_setCell _ ⟨gn, to * 3 + 1, none⟩ _ b (by show b ≠ gn; omega), Below.heap_setCell _ ⟨gn, to * 3, none⟩ _ b (by show b ≠ gn; omega)]) (by rw [Below.heap_setCell _ ⟨gn, to * 3 + 2, none⟩ _ gw (by have := HGW.out; show gw ≠ gn; omega), Below.heap_setCell _ ⟨gn, to * 3 + 1, none⟩ _ gw (by have := HGW.out; show gw ≠ gn; omega), Below.heap_setCell _ ⟨gn, to * 3, none⟩ _ gw (by have := HGW.out; show gw ≠ gn; omega)]) (Nat.le_refl _) (Nat.le_refl _))
                              · refine hid ((((HN7.out.store (.inl (by omega)) hto (o := some ((j : Int) :: r)) ⟨HCS.out.symm, rfl, HO7.out⟩).keep (fun _ _ _ => rfl) rfl (Nat.le_refl _) (by simp))).eqv fun t ht => ?_)
                                by_cases h : t = to
                                · subst h; rw [if_pos rfl, HE2.out]
                                · rw [if_neg h, HNE.out t ht h]
                              · obtain ⟨t, h⟩ := HG7.out
                                exact hid ⟨t, by rw [Below.heap_setCell _ ⟨gn, to * 3 + 2, none⟩ _ _ (by have := HGN.out; show w.heap.size ≠ gn; omega), Below.heap_setCell _ ⟨gn, to * 3 + 1, none⟩ _ _ (by have := HGN.out; show w.heap.size ≠ gn; omega), Below.heap_setCell _ ⟨gn, to * 3, none⟩ _ _ (by have := HGN.out; show w.heap.size ≠ gn; omega)]; exact h⟩
                              · exact ((HB7.out.setCell (p := ⟨gn, to * 3, none⟩) (by have := HGN.out; simp; omega) _).setCell (p := ⟨gn, to * 3 + 1, none⟩) (by have := HGN.out; simp; omega) _).setCell (p := ⟨gn, to * 3 + 2, none⟩) (by have := HGN.out; simp; omega) _
                              · have := HS7.out; simp; omega
                            case measure => simp [intOf]; omega
                        | false => as_aux_lemma =>
                          rw [hless] at B7
                          have B7 := hid B7
                          have HE2 := hid (HE2.out.trans (by rw [if_neg (by rw [hless]; decide)]))
                          clear hless e1 e2 p1 p2 p3
                          go_region_law (go_simp; go_at_call 46; (with_reducible refine B7.out.mono ?_); rintro e w7 ⟨rfl, b7⟩)
                          all_goals
                            clear e0 e1' e2' k0 k1 k2
                            have b7 : Below w6.heap.size w6 w7 := ⟨b7.os, b7.tape, b7.output, b7.size, b7.block⟩
                            have s7 := b7.size
                            have s7 : w6.heap.size ≤ w7.heap.size := s7
                            have HA7 : Hid (A7 w7 (gx xs) (w.heap.size + 1) gn gw (zs7 (gx xs) n k) sv ct ut) := HA6.out.keep (fun b _ h => b7.block b (by show b < w6.heap.size; omega)) (b7.block _ (by have := HGW.out; show gw < w6.heap.size; omega)) (Nat.le_refl _) (Nat.le_refl _)
                            have hN7 : A7 w7 (gx xs) (gn + 1) w7.heap.size gn (nz (gx xs) n k s j) nsv nct nut := HN6.out.keep (fun b _ h => b7.block b h) (b7.block _ (by show gn < w6.heap.size; omega)) (Nat.le_refl _) s7
                            have HG7 : Hid (∃ t, w7.heap[w.heap.size]? = some (.cells #[.slice none 0 0, .int .i64 0, .bool false] t (0, 0))) := by
                              obtain ⟨t, h⟩ := HG6.out
                              exact ⟨t, by rw [b7.block _ (by have := HGN.out; show w.heap.size < w6.heap.size; omega)]; exact h⟩
                            have HB7 := hid (HB6.out.trans ((b7.mono (B' := w.heap.size) (by have := HB6.out.size; show w.heap.size ≤ w6.heap.size; omega))))
                            have HO7 := hid ((HO6.out.below b7 (Nat.le_refl _)).fit (D := gn + 1) (E := w7.heap.size) (Nat.le_refl _) s7)
                            have HS7 := hid (show gn + 1 ≤ w7.heap.size by omega)
                            have r7 := (b7.block _ (show gt < w6.heap.size by omega)).trans HR6.out
                            have e0 : w7.cell? ⟨gt, 0, none⟩ = some (Value.slice (some ⟨q5, 0, none⟩) (r.length + 1) c5) := by rw [cell_of_row w7 gt 0 _ _ _ r7]; rfl
                            have e1' : w7.cell? ⟨gt, 1, none⟩ = some (.int .i64 NC) := by rw [cell_of_row w7 gt 1 _ _ _ r7]; rfl
                            have e2' : w7.cell? ⟨gt, 2, none⟩ = some (.bool true) := by rw [cell_of_row w7 gt 2 _ _ _ r7]; rfl
                            have k0 := hN7.c0 hto
                            have k1 := hN7.c1 hto
                            have k2 := hN7.c2 hto
                            have f0 := hN7.free (to * 3)
                            have f1 := hN7.free (to * 3 + 1)
                            have f2 := hN7.free (to * 3 + 2)
                            have HN7 := hid hN7
                            clear b7 r7 hN7
                            go_wp2_with fail
                            go_roundw
                            case rel =>
                              refine ⟨j + 1, nsv, nct, nut, by omega, by go_num, HA7, hid (HN7.out.eqv fun t ht => ?_), HG7, HB7.out, HS7.out, fun e => by cases e⟩
                              by_cases h : t = to
                              · subst h; rw [HE2.out, HE1.out]
                              · exact (HNE.out t ht h).symm
                            case measure => simp [intOf]; omega
              · as_aux_lemma =>
                  obtain rfl : j = 2 := by omega
                  clear hos hcs hus cu
                  go_wp2_with fail
                  go_roundw
                  case rel => exact ⟨s + 1, nsv, nct, nut, by omega, by go_num, HA, hid (HN.out.eqv fun t _ => nz_state _ _ _ _ t), HG, hb, hg1⟩
                  case measure => simp [intOf]; omega
        · as_aux_lemma =>
            obtain rfl : s = 4 := by omega
            go_wp2_with fail
            go_roundw
            case rel => exact ⟨k + 1, gn, nsv, nct, nut, by omega, by go_num, rfl, by omega, hid ((HN.out.eqv fun t ht => nz_end _ _ _ ht).keep (fun _ _ _ => rfl) rfl (by omega) (Nat.le_refl _)), HG, hb, by omega⟩
            case measure => simp [intOf]; omega
    · as_aux_lemma =>
        obtain rfl : k = n + 2 := by omega
        have hv : zs7 (gx xs) n (n + 2) 0 = some (way (bst (gx xs) n)) := (bst_some (gx xs) n).1
        have hp := HA.out.2 0 (by omega)
        rw [hv] at hp
        obtain ⟨h1, h2, h3⟩ := hp
        have c0 := HA.out.c0 (t := 0) (by omega)
        have c1 := HA.out.c1 (t := 0) (by omega)
        have c2 := HA.out.c2 (t := 0) (by omega)
        simp only [Nat.zero_mul, Nat.zero_add] at c0 c1 c2
        obtain ⟨tg, hrow⟩ := HG.out
        have g0 : wr.cell? ⟨w.heap.size, 0, none⟩ = some (.slice none 0 0) := by rw [cell_of_row wr w.heap.size 0 _ _ _ hrow]; rfl
        have g1 : wr.cell? ⟨w.heap.size, 1, none⟩ = some (.int .i64 0) := by rw [cell_of_row wr w.heap.size 1 _ _ _ hrow]; rfl
        have g2 : wr.cell? ⟨w.heap.size, 2, none⟩ = some (.bool false) := by rw [cell_of_row wr w.heap.size 2 _ _ _ hrow]; rfl
        have f0 := frozen_of_row wr w.heap.size 0 _ _ hrow
        have f1 := frozen_of_row wr w.heap.size 1 _ _ hrow
        have f2 := frozen_of_row wr w.heap.size 2 _ _ hrow
        have hne : (way (bst (gx xs) n)).reverse ≠ [] := by simp [way]
        rcases h3.form with ⟨hnil, _⟩ | ⟨gq, cq, hsv, qB, qC, ql, qm⟩
        · exact absurd hnil hne
        rw [List.length_reverse] at hsv
        rw [hsv] at c0 h3
        have e1 := heap_setCell_same wr w.heap.size 0 _ _ (.slice (some ⟨gq, 0, none⟩) (way (bst (gx xs) n)).length cq) hrow
        have e2 := heap_setCell_same _ w.heap.size 1 _ _ (.int .i64 (cost (gx xs) (way (bst (gx xs) n)))) e1
        have e3 := heap_setCell_same _ w.heap.size 2 _ _ (.bool true) e2
        have HR := hid (show _ = some (Obj.cells #[.slice (some ⟨gq, 0, none⟩) (way (bst (gx xs) n)).length cq, .int .i64 (cost (gx xs) (way (bst (gx xs) n))), .bool true] tg (0, 0)) from e3)
        have bb := ((hb.setCell (p := ⟨w.heap.size, 0, none⟩) (Nat.le_refl _) (.slice (some ⟨gq, 0, none⟩) (way (bst (gx xs) n)).length cq)).setCell (p := ⟨w.heap.size, 1, none⟩) (Nat.le_refl _) (.int .i64 (cost (gx xs) (way (bst (gx xs) n))))).setCell (p := ⟨w.heap.size, 2, none⟩) (Nat.le_refl _) (.bool true)
        rw [h1] at c1
        rw [h2] at c2
        have h4 := h3.apart (grown_set (grown_set (grown_set (World.grownBy.refl wr (some w.heap.size)) (i := 0) (.slice (some ⟨gq, 0, none⟩) (way (bst (gx xs) n)).length cq)) (i := 1) (.int .i64 (cost (gx xs) (way (bst (gx xs) n))))) (i := 2) (.bool true)) (fun q hq => by injection hq; omega)
        have HO := hid h4
        generalize hWB : way (bst (gx xs) n) = WB at *
        have HWB := hid hWB
        clear hWB
        clear e1 e2 e3 h1 h2 h3 h4 hv HA HG hne hrow
        go_wp2_with fail
        (try simp only [Exit.inBlock, Exit.then])
        refine bodyPost_ret (results_cell_row (P := Tryd.prog) rfl _ _ w.heap.size _ _ _ _ rfl HR.out Tryd.underlying46 rfl (by kernel_rfl)) rfl ?_
        refine ⟨_, by rw [HWB.out], ?_, bb⟩
        rw [HWB.out]
        have hlast := HO.out.less (D := w.heap.size) (Nat.le_succ _)
        exact hlast.more (by simp)

end Go.Proofs.YtnlacmbmmlmpjaaDoor
