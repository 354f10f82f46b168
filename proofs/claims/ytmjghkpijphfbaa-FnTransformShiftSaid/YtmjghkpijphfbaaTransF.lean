/-
  ForwardTransform, BackwardTransform and CyclicProduct, of the program and of the reference.
-/
import Derived.Test.YtmjghkpijphfbaaTrans
namespace Go.Proofs.Ytmjghkpijphfbaa
open Go.RowKit

def gx (xs : List Int) : Nat → Int := fun i => xs.getD i 0
def fwdN (xs : List Int) : List Int := rg 16 (ft (gx xs) 2 16)
def fwd (xs : List Int) : List Int := if ptsOk xs = true then fwdN xs else []
def bwdN (xs : List Int) : List Int := rg 16 fun k => ft (gx xs) 129 16 k * 241 % 257
def bwd (xs : List Int) : List Int := if ptsOk xs = true then bwdN xs else []
def cpr (xs ys : List Int) : List Int := if (ptsOk xs && ptsOk ys) = true then rg 16 (fun k => cyc (gx xs) (gx ys) k 16 % 257) else []
theorem fwd_yes {xs : List Int} (h : ptsOk xs = true) : fwd xs = fwdN xs := by simp [fwd, h]
theorem fwd_no {xs : List Int} (h : ptsOk xs = false) : fwd xs = [] := by simp [fwd, h]
theorem bwd_yes {xs : List Int} (h : ptsOk xs = true) : bwd xs = bwdN xs := by simp [bwd, h]
theorem bwd_no {xs : List Int} (h : ptsOk xs = false) : bwd xs = [] := by simp [bwd, h]
theorem pts_rg {f : Nat → Int} (h : ∀ k, 0 ≤ f k ∧ f k ≤ 256) : ptsOk (rg 16 f) = true := by
  refine ptsOk_iff.2 ⟨fun x hx => ?_, rg_length _ _⟩
  obtain ⟨j, hj, rfl⟩ := List.getElem_of_mem hx
  have := rg_in (n := 16) h j
  rwa [List.getD_eq_getElem?_getD, List.getElem?_eq_getElem hj] at this
theorem gx_in {xs : List Int} (h : ptsOk xs = true) (i : Nat) : 0 ≤ gx xs i ∧ gx xs i ≤ 256 := ptsOk_at h i
theorem upd_step {k : Nat} {f g : Nat → Int} : (rg 16 fun i => if i < k then g i else f i).set k (g k) = rg 16 fun i => if i < k + 1 then g i else f i := by
  rw [rg_set]
  apply rg_congr
  intro i _
  by_cases e : i = k
  · subst e; rw [if_pos rfl, if_pos (by omega)]
  · rw [if_neg e]
    by_cases e2 : i < k
    · rw [if_pos e2, if_pos (by omega)]
    · rw [if_neg e2, if_neg (by omega)]
theorem upd_none (f g : Nat → Int) : (rg 16 fun i => if i < 0 then g i else f i) = rg 16 f := rg_congr fun i _ => by rw [if_neg (by omega)]
theorem upd_all (f g : Nat → Int) : (rg 16 fun i => if i < 16 then g i else f i) = rg 16 g := rg_congr fun i hi => by rw [if_pos hi]

/-- a row of 16 numbers is no nil slice -/
theorem own16 {B C : Nat} {w : World} {v : Value} {f : Nat → Int} (h : Own B C w v (rg 16 f)) : ∃ g cap, v = .slice (some ⟨g, 0, none⟩) 16 cap ∧ B ≤ g ∧ g < C ∧ 16 ≤ cap ∧ cap ≤ 9223372036854775807 := by
  rcases h.form with ⟨hnil, _⟩ | ⟨g, cap, rfl, hB, hCg, hle, hcap⟩
  · have := congrArg List.length hnil; rw [rg_length] at this; simp at this
  · rw [rg_length] at hle
    exact ⟨g, cap, by rw [rg_length], hB, hCg, hle, hcap⟩
/-- the same as a contract -/
theorem calls16 {P : Program} {f : FuncId} {args : Array Value} {w : World} {F : Nat → Int} (h : Calls P f args w fun e w' => ∃ v', e = .returned v' ∧ Own w.heap.size w'.heap.size w' v' (rg 16 F) ∧ Below w.heap.size w w') :
    Calls P f args w fun e w' => ∃ g cap, e = .returned (.slice (some ⟨g, 0, none⟩) 16 cap) ∧ (w.heap.size ≤ g ∧ g < w'.heap.size ∧ 16 ≤ cap ∧ cap ≤ 9223372036854775807) ∧ Own w.heap.size w'.heap.size w' (.slice (some ⟨g, 0, none⟩) 16 cap) (rg 16 F) ∧ Below w.heap.size w w' :=
  h.mono fun _ _ ⟨_, he, ho, hb⟩ => by
    obtain ⟨g, cap, rfl, h1⟩ := own16 ho
    exact ⟨g, cap, he, h1, ho, hb⟩

theorem fly : FlyC 4 := fly_succ 3 (by omega) (fly_succ 2 (by omega) (fly_succ 1 (by omega) (fly_succ 0 (by omega) fly_zero)))
theorem fly_c {C : Nat} {v : Value} {xs : List Int} (r : Int) (w : World) (h1 : Rd C w v xs) (hC : C ≤ w.heap.size) (hp : ptsOk xs = true) (r0 : 0 ≤ r) (r1 : r ≤ 256) (hr : Cg (r ^ 8) (-1)) :
    Calls Try.prog 39 #[v, .int .i64 r] w fun e w' => ∃ v', e = .returned v' ∧ Own w.heap.size w'.heap.size w' v' (rg 16 (ft (gx xs) r 16)) ∧ Below w.heap.size w w' := by
  have := fly C v xs r w h1 hC (by rw [ptsOk_len hp]) (ptsOk_at hp) r0 r1
  have e : rg (2 ^ 4) (bf 4 (fun i => xs.getD i 0) r) = rg 16 (ft (gx xs) r 16) :=
    rg_congr fun k hk => bf_ft 4 (gx xs) r (fun i _ => gx_in hp i) (fun _ => hr) k hk
  rw [e] at this
  exact this
theorem root2 : Cg ((2 : Int) ^ 8) (-1) := by show (2 : Int) ^ 8 % 257 = -1 % 257; decide
theorem root129 : Cg ((129 : Int) ^ 8) (-1) := by show (129 : Int) ^ 8 % 257 = -1 % 257; decide
theorem pw_2_15 : pw 2 15 = 129 := by decide
theorem pw_16_255 : pw 16 255 = 241 := by decide +kernel

set_option maxHeartbeats 400000 in
theorem implFwd_no {C : Nat} {v : Value} {xs : List Int} (w : World) (h1 : Rd C w v xs) (hp : ptsOk xs = false) :
    Calls Try.prog 23 #[v] w fun e w' => e = .returned (.slice none 0 0) ∧ w = w' := by
  have HC := implPts_c w h1
  rw [hp] at HC
  have HC' := hid HC
  clear HC h1 hp
  go_enter Try.func23, Try.ntmps23
  go_wp2_with (go_at_call 34; (with_reducible refine HC'.out.mono ?_); rintro e w' ⟨rfl, rfl⟩)
  go_ret
  exact ⟨rfl, rfl⟩
set_option maxHeartbeats 400000 in
theorem implFwd_yes {C : Nat} {v : Value} {xs : List Int} (w : World) (h1 : Rd C w v xs) (hC : C ≤ w.heap.size) (hp : ptsOk xs = true) :
    Calls Try.prog 23 #[v] w fun e w' => ∃ v', e = .returned v' ∧ Own w.heap.size w'.heap.size w' v' (fwdN xs) ∧ Below w.heap.size w w' := by
  have HC := implPts_c w h1
  rw [hp] at HC
  have HC' := hid HC
  have HF := hid (fly_c 2 w h1 hC hp (by omega) (by omega) root2)
  clear HC h1 hp
  go_enter Try.func23, Try.ntmps23
  go_wp2_with (first | (go_at_call 34; (with_reducible refine HC'.out.mono ?_); rintro e w' ⟨rfl, rfl⟩) | (go_at_call 12; (with_reducible refine (implRoot_c _).mono ?_); rintro e w' ⟨rfl, rfl⟩) | (go_at_call 39; (with_reducible refine HF.out.mono ?_); rintro e w' ⟨v', rfl, o1, b1⟩))
  go_ret
  exact ⟨_, rfl, o1, b1⟩
theorem implFwd_c {C : Nat} {v : Value} {xs : List Int} (w : World) (h1 : Rd C w v xs) (hC : C ≤ w.heap.size) :
    Calls Try.prog 23 #[v] w fun e w' => ∃ v', e = .returned v' ∧ Own w.heap.size w'.heap.size w' v' (fwd xs) ∧ Below w.heap.size w w' := by
  by_cases hp : ptsOk xs = true
  · rw [fwd_yes hp]; exact implFwd_yes w h1 hC hp
  · have hp' : ptsOk xs = false := by simpa using hp
    rw [fwd_no hp']
    exact (implFwd_no w h1 hp').mono fun e w' ⟨h1, h2⟩ => ⟨_, h1, by rw [← h2]; exact Own.nil _ _ _, by rw [← h2]; exact Below.refl _ _⟩

set_option maxHeartbeats 400000 in
theorem specFwd_c {C : Nat} {v : Value} {xs : List Int} (w : World) (h1 : Rd C w v xs) (hC : C ≤ w.heap.size) :
    Calls Try.prog 22 #[v] w fun e w' => ∃ v', e = .returned v' ∧ Own w.heap.size w'.heap.size w' v' (fwd xs) ∧ Below w.heap.size w w' := by
  have HC := specPts_c w h1
  by_cases hp : ptsOk xs = true
  · have H := hid (fwd_yes hp)
    rw [hp] at HC
    have HC' := hid HC
    have HF := hid (specSum_c 2 w h1 hC hp (by omega) (by omega))
    clear HC h1 hp
    go_enter Try.func22, Try.ntmps22
    go_wp2_with (first | (go_at_call 32; (with_reducible refine HC'.out.mono ?_); rintro e w' ⟨rfl, rfl⟩) | (go_at_call 11; (with_reducible refine (specRoot_c _).mono ?_); rintro e w' ⟨rfl, rfl⟩) | (go_at_call 38; (with_reducible refine HF.out.mono ?_); rintro e w' ⟨v', rfl, o1, b1⟩))
    go_ret
    exact ⟨_, rfl, by rw [H.out]; exact o1, b1⟩
  · have hp' : ptsOk xs = false := by simpa using hp
    have H := hid (fwd_no hp')
    rw [hp'] at HC
    have HC' := hid HC
    clear HC h1 hp hp'
    go_enter Try.func22, Try.ntmps22
    go_wp2_with (go_at_call 32; (with_reducible refine HC'.out.mono ?_); rintro e w' ⟨rfl, rfl⟩)
    go_ret
    exact ⟨_, rfl, by rw [H.out]; exact (Own.empty w).more (by simp), (Below.refl _ _).alloc (Nat.le_refl _) _⟩

/-! ### the inverse -/
theorem scale_in {x : Int} (hx : 0 ≤ x ∧ x ≤ 256) : 0 ≤ x * 241 ∧ x * 241 ≤ 65536 := ⟨by omega, by omega⟩

set_option maxHeartbeats 1000000 in
theorem implBwd_c {C : Nat} {v : Value} {xs : List Int} (w : World) (h1 : Rd C w v xs) (hC : C ≤ w.heap.size) :
    Calls Try.prog 25 #[v] w fun e w' => ∃ v', e = .returned v' ∧ Own w.heap.size w'.heap.size w' v' (bwd xs) ∧ Below w.heap.size w w' := by
  have HC := implPts_c w h1
  by_cases hp : ptsOk xs = true
  · have H := hid (bwd_yes hp)
    rw [hp] at HC
    have HC' := hid HC
    have HF := hid (calls16 (fly_c 129 w h1 hC hp (by omega) (by omega) root129))
    have hin := hid (fun i => ft_in (gx xs) 129 16 i)
    obtain ⟨F, hF⟩ : ∃ F : Nat → Int, F = ft (gx xs) 129 16 := ⟨_, rfl⟩
    have HFF := hid (show bwdN xs = rg 16 fun k => F k * 241 % 257 by rw [hF]; rfl)
    rw [← hF] at HF hin
    clear HC h1 hp hF
    go_enter Try.func25, Try.ntmps25
    go_wp2_with (first | (go_at_call 34; (with_reducible refine HC'.out.mono ?_); rintro e w' ⟨rfl, rfl⟩) | (go_at_call 12; (with_reducible refine (implRoot_c _).mono ?_); rintro e w' ⟨rfl, rfl⟩) | (go_at_call 30; (with_reducible refine (pow_2_15 _).mono ?_); rintro e w' ⟨rfl, rfl⟩) | (go_at_call 30; (with_reducible refine (pow_16_255 _).mono ?_); rintro e w' ⟨rfl, rfl⟩) | (go_at_call 39; (with_reducible refine HF.out.mono ?_); rintro e w1 ⟨g, cap, rfl, ⟨hB, hCg, hle, hcap⟩, o1, b1⟩))
    clear HF HC'
    go_loopw [18] (fun i wr => ∃ q : Nat, q ≤ 16 ∧ i = .int .i64 q ∧ Own w.heap.size w1.heap.size wr (.slice (some ⟨g, 0, none⟩) 16 cap) (rg 16 fun i => if i < q then F i * 241 % 257 else F i) ∧ Below w.heap.size w wr ∧ Hid (wr.heap.size = w1.heap.size)) (fun i _ => 16 - (intOf i).toNat)
    case atStart => exact ⟨0, Nat.zero_le _, rfl, by rw [upd_none F fun i => F i * 241 % 257]; exact o1, b1, rfl⟩
    case round =>
      obtain ⟨q, hq, rfl, ho, hb, hz⟩ := hrel
      clear o1 b1
      by_cases hlt : q < 16
      case pos =>
        have c1 := ho.cell (k := q) (by rw [rg_length]; exact hlt)
        rw [rg_getD hlt, if_neg (by omega)] at c1
        have f1 := ho.free q
        have bx := hin.out q
        have ho2 := ho.store q (F q * 241 % 257)
        have st := upd_step (k := q) (f := F) (g := fun i => F i * 241 % 257)
        rw [st] at ho2
        have hb2 := hb.setCell (p := ⟨g, q, none⟩) hB (.int .i64 (F q * 241 % 257))
        have m1 := scale_in bx
        have i9 : (q : Int) < 16 := by omega
        clear ho hb st
        go_wp2
        go_roundw
        case rel => exact ⟨q + 1, by omega, by go_num, ho2, hb2, hid (by simpa using hz.out)⟩
        case measure => simp [intOf]; omega
      case neg =>
        obtain rfl : q = 16 := by omega
        rw [upd_all F fun i => F i * 241 % 257] at ho
        go_wp2
        go_ret
        exact ⟨_, rfl, by rw [H.out, HFF.out]; exact ho.fit (Nat.le_refl _) (by rw [hz.out]; exact Nat.le_refl _), hb⟩
  · have hp' : ptsOk xs = false := by simpa using hp
    have H := hid (bwd_no hp')
    rw [hp'] at HC
    have HC' := hid HC
    clear HC h1 hp hp'
    go_enter Try.func25, Try.ntmps25
    go_wp2_with (go_at_call 34; (with_reducible refine HC'.out.mono ?_); rintro e w' ⟨rfl, rfl⟩)
    go_ret
    exact ⟨_, rfl, by rw [H.out]; exact Own.nil _ _ _, Below.refl _ _⟩

set_option maxHeartbeats 1000000 in
theorem specBwd_c {C : Nat} {v : Value} {xs : List Int} (w : World) (h1 : Rd C w v xs) (hC : C ≤ w.heap.size) :
    Calls Try.prog 24 #[v] w fun e w' => ∃ v', e = .returned v' ∧ Own w.heap.size w'.heap.size w' v' (bwd xs) ∧ Below w.heap.size w w' := by
  have HC := specPts_c w h1
  by_cases hp : ptsOk xs = true
  · have H := hid (bwd_yes hp)
    rw [hp] at HC
    have HC' := hid HC
    have HF := hid (calls16 (specSum_c 129 w h1 hC hp (by omega) (by omega)))
    have hin := hid (fun i => ft_in (gx xs) 129 16 i)
    obtain ⟨F, hF⟩ : ∃ F : Nat → Int, F = ft (gx xs) 129 16 := ⟨_, rfl⟩
    have HFF := hid (show bwdN xs = rg 16 fun k => F k * 241 % 257 by rw [hF]; rfl)
    have eF : (fun i => xs.getD i 0) = gx xs := rfl
    rw [eF, ← hF] at HF
    rw [← hF] at hin
    have P1 : ∀ W : World, Hid (Calls Try.prog 29 #[.int .i64 2, .int .i64 15] W fun e w' => e = .returned (.int .i64 129) ∧ W = w') := fun W => by
      have := specPower_c 2 15 W (by omega) (by omega) (by omega)
      rw [pw_2_15] at this
      exact this
    have P2 : ∀ W : World, Hid (Calls Try.prog 29 #[.int .i64 16, .int .i64 255] W fun e w' => e = .returned (.int .i64 241) ∧ W = w') := fun W => by
      have := specPower_c 16 255 W (by omega) (by omega) (by omega)
      rw [pw_16_255] at this
      exact this
    have Q1 := hid P1
    have Q2 := hid P2
    clear HC h1 hp hF eF P1 P2
    go_enter Try.func24, Try.ntmps24
    go_wp2_with (first | (go_at_call 32; (with_reducible refine HC'.out.mono ?_); rintro e w' ⟨rfl, rfl⟩) | (go_at_call 11; (with_reducible refine (specRoot_c _).mono ?_); rintro e w' ⟨rfl, rfl⟩) | (go_at_call 29; (with_reducible refine (Q1.out _).out.mono ?_); rintro e w' ⟨rfl, rfl⟩) | (go_at_call 29; (with_reducible refine (Q2.out _).out.mono ?_); rintro e w' ⟨rfl, rfl⟩) | (go_at_call 38; (with_reducible refine HF.out.mono ?_); rintro e w1 ⟨g, cap, rfl, ⟨hB, hCg, hle, hcap⟩, o1, b1⟩))
    clear HF HC' Q1 Q2
    go_loopw [6] (fun i wr => ∃ q : Nat, q ≤ 16 ∧ i = .int .i64 q ∧ Own w.heap.size w1.heap.size wr (.slice (some ⟨g, 0, none⟩) 16 cap) (rg 16 fun i => if i < q then F i * 241 % 257 else F i) ∧ Below w.heap.size w wr ∧ Hid (wr.heap.size = w1.heap.size)) (fun i _ => 16 - (intOf i).toNat)
    case atStart => exact ⟨0, Nat.zero_le _, rfl, by rw [upd_none F fun i => F i * 241 % 257]; exact o1, b1, rfl⟩
    case round =>
      obtain ⟨q, hq, rfl, ho, hb, hz⟩ := hrel
      clear o1 b1
      by_cases hlt : q < 16
      case pos =>
        have c1 := ho.cell (k := q) (by rw [rg_length]; exact hlt)
        rw [rg_getD hlt, if_neg (by omega)] at c1
        have f1 := ho.free q
        have bx := hin.out q
        have ho2 := ho.store q (F q * 241 % 257)
        have st := upd_step (k := q) (f := F) (g := fun i => F i * 241 % 257)
        rw [st] at ho2
        have hb2 := hb.setCell (p := ⟨g, q, none⟩) hB (.int .i64 (F q * 241 % 257))
        have m1 := scale_in bx
        have i9 : (q : Int) < 16 := by omega
        clear ho hb st
        go_wp2
        go_roundw
        case rel => exact ⟨q + 1, by omega, by go_num, ho2, hb2, hid (by simpa using hz.out)⟩
        case measure => simp [intOf]; omega
      case neg =>
        obtain rfl : q = 16 := by omega
        rw [upd_all F fun i => F i * 241 % 257] at ho
        go_wp2
        go_ret
        exact ⟨_, rfl, by rw [H.out, HFF.out]; exact ho.fit (Nat.le_refl _) (by rw [hz.out]; exact Nat.le_refl _), hb⟩
  · have hp' : ptsOk xs = false := by simpa using hp
    have H := hid (bwd_no hp')
    rw [hp'] at HC
    have HC' := hid HC
    clear HC h1 hp hp'
    go_enter Try.func24, Try.ntmps24
    go_wp2_with (go_at_call 32; (with_reducible refine HC'.out.mono ?_); rintro e w' ⟨rfl, rfl⟩)
    go_ret
    exact ⟨_, rfl, by rw [H.out]; exact (Own.empty w).more (by simp), (Below.refl _ _).alloc (Nat.le_refl _) _⟩

/-! ### the cyclic product -/
theorem cpr_yes {xs ys : List Int} (h1 : ptsOk xs = true) (h2 : ptsOk ys = true) : cpr xs ys = rg 16 fun k => cyc (gx xs) (gx ys) k 16 % 257 := by simp [cpr, h1, h2]
theorem cpr_no {xs ys : List Int} (h : ¬ (ptsOk xs = true ∧ ptsOk ys = true)) : cpr xs ys = [] := by
  unfold cpr; rw [if_neg (by simpa using h)]
theorem bwd_prod {xs ys : List Int} (h1 : ptsOk xs = true) (h2 : ptsOk ys = true) :
    bwd (rg 16 fun k => ft (gx xs) 2 16 k * ft (gx ys) 2 16 k % 257) = cpr xs ys := by
  rw [bwd_yes (pts_rg fun k => by omega), cpr_yes h1 h2]
  refine rg_congr fun k hk => ?_
  exact conv (fun j hj => rg_getD hj) hk

set_option maxHeartbeats 1000000 in
theorem implCyc_c {C D : Nat} {v1 v2 : Value} {xs ys : List Int} (w : World) (h1 : Rd C w v1 xs) (h2 : Rd D w v2 ys) (hC : C ≤ w.heap.size) (hD : D ≤ w.heap.size) :
    Calls Try.prog 27 #[v1, v2] w fun e w' => ∃ v', e = .returned v' ∧ Own w.heap.size w'.heap.size w' v' (cpr xs ys) ∧ Below w.heap.size w w' := by
  have qn := hid (fun W => Lib.run_eql_slice_nil (P := Try.prog) W 26 3 none 0 0 0 0 Try.underlying26)
  have qs := hid (fun W a n c => Lib.run_eql_slice_nil (P := Try.prog) W 26 3 (some a) n c 0 0 Try.underlying26)
  by_cases p1 : ptsOk xs = true
  case neg =>
    have p1' : ptsOk xs = false := by simpa using p1
    have H := hid (cpr_no (xs := xs) (ys := ys) fun h => p1 h.1)
    have HF := hid (implFwd_no w h1 p1')
    have HG := hid (implFwd_c w h2 hD)
    have q1 := qn.out
    clear p1 p1' h1 h2
    go_enter Try.func27, Try.ntmps27
    go_wp2_with fail
    refine HF.out.mono ?_
    rintro e w' ⟨rfl, rfl⟩
    go_wp2_with fail
    refine HG.out.mono ?_
    rintro e w2 ⟨v2, rfl, o2, b2⟩
    go_wp2
    go_ret
    exact ⟨_, rfl, by rw [H.out]; exact Own.nil _ _ _, b2⟩
  by_cases p2 : ptsOk ys = true
  case neg =>
    have p2' : ptsOk ys = false := by simpa using p2
    have H := hid (cpr_no (xs := xs) (ys := ys) fun h => p2 h.2)
    have HF := hid (calls16 (implFwd_yes w h1 hC p1))
    have q1 := qn.out
    have q2 := qs.out
    have P2 := hid p2'
    clear p1 p2 p2' h1
    go_enter Try.func27, Try.ntmps27
    go_wp2_with fail
    refine HF.out.mono ?_
    rintro e w1 ⟨g, cap, rfl, ⟨hB, hCg, hle, hcap⟩, o1, b1⟩
    go_wp2_with fail
    refine (implFwd_no w1 (h2.below b1 hD) P2.out).mono ?_
    rintro e w' ⟨rfl, rfl⟩
    go_wp2
    go_ret
    exact ⟨_, rfl, by rw [H.out]; exact Own.nil _ _ _, b1⟩
  have H := hid (bwd_prod p1 p2)
  have HF := hid (calls16 (implFwd_yes w h1 hC p1))
  have q2 := qs.out
  have P2 := hid p2
  obtain ⟨F, hF⟩ : ∃ F : Nat → Int, F = ft (gx xs) 2 16 := ⟨_, rfl⟩
  obtain ⟨G, hG⟩ : ∃ G : Nat → Int, G = ft (gx ys) 2 16 := ⟨_, rfl⟩
  have bF := hid (fun i => ft_in (gx xs) 2 16 i)
  have bG := hid (fun i => ft_in (gx ys) 2 16 i)
  rw [← hF] at bF HF H
  rw [← hG] at bG H
  have HG := hid hG
  clear p1 p2 h1 hF hG
  go_enter Try.func27, Try.ntmps27
  go_wp2_with fail
  refine HF.out.mono ?_
  rintro e w1 ⟨g, cap, rfl, ⟨hB, hCg, hle, hcap⟩, o1, b1⟩
  clear HF
  have t1 := b1.size
  have h3 := calls16 (implFwd_yes w1 (h2.below b1 hD) (by omega) P2.out)
  rw [← HG.out] at h3
  have H3 := hid h3
  clear h3
  go_wp2_with fail
  refine H3.out.mono ?_
  rintro e w2 ⟨g2, cap2, rfl, ⟨hB2, hCg2, hle2, hcap2⟩, o2, b2⟩
  clear H3
  have t2 := b2.size
  have o1 := o1.below b2 (Nat.le_refl _)
  have b2 := b1.trans (b2.mono t1)
  clear b1
  go_wp2
  go_loopw [20] (fun i wr => ∃ q : Nat, q ≤ 16 ∧ i = .int .i64 q ∧ Own w.heap.size w1.heap.size wr (.slice (some ⟨g, 0, none⟩) 16 cap) (rg 16 fun i => if i < q then F i * G i % 257 else F i) ∧ Own w1.heap.size w2.heap.size wr (.slice (some ⟨g2, 0, none⟩) 16 cap2) (rg 16 G) ∧ Below w.heap.size w wr ∧ Hid (wr.heap.size = w2.heap.size)) (fun i _ => 16 - (intOf i).toNat)
  case atStart => exact ⟨0, Nat.zero_le _, rfl, by rw [upd_none F fun i => F i * G i % 257]; exact o1, o2, b2, rfl⟩
  case round =>
    obtain ⟨q, hq, rfl, ho, hO, hb, hz⟩ := hrel
    clear o1 o2 b2
    by_cases hlt : q < 16
    case pos =>
      have c1 := ho.cell (k := q) (by rw [rg_length]; exact hlt)
      rw [rg_getD hlt, if_neg (by omega)] at c1
      have c2 := hO.cell (k := q) (by rw [rg_length]; exact hlt)
      rw [rg_getD hlt] at c2
      have f1 := ho.free q
      have bx := bF.out q
      have bY := bG.out q
      have st := upd_step (k := q) (f := F) (g := fun i => F i * G i % 257)
      have ST := hid st
      clear st
      generalize hx : F q = x at *
      generalize hy : G q = y at *
      have ho2 := (ho.drewN 1).store q (x * y % 257)
      have hb2 := (below_drewN hb 1).setCell (p := ⟨g, q, none⟩) hB (.int .i64 (x * y % 257))
      have hO2 := (hO.drewN 1).apart (w' := (wr.drewN 1).setCell ⟨g, q, none⟩ (.int .i64 (x * y % 257))) (grown_set (World.grownBy.refl (wr.drewN 1) (some g)) _) (fun k hk => by injection hk; omega)
      have m1 := mul_in bx bY
      have i9 : (q : Int) < 16 := by omega
      have u1 : IntKind.i64.wrap (x * y) = x * y := IntWalk.i64_in _ (by omega)
      have u2 : (x * y).tmod 257 = x * y % 257 := Int.tmod_eq_emod_of_nonneg (by omega)
      have u3 : IntKind.i64.wrap (x * y % 257) = x * y % 257 := IntWalk.i64_in _ (by omega)
      clear ho hb hO
      have HXY := hid hx
      clear hx hy
      go_wp2
      go_region
      all_goals
        clear u1 u2 u3
        go_wp2
        go_roundw
        case rel => exact ⟨q + 1, by omega, by go_num, by rw [← ST.out]; exact ho2, hO2, hb2, hid (by simpa [World.drew] using hz.out)⟩
        case measure => simp [intOf]; omega
    case neg =>
      obtain rfl : q = 16 := by omega
      rw [upd_all F fun i => F i * G i % 257] at ho
      have hsz := hb.size
      go_wp2_with fail
      refine (implBwd_c wr ho.rd (by rw [hz.out]; omega)).mono ?_
      rintro e w3 ⟨v3, rfl, o3, b3⟩
      go_wp2
      go_ret
      exact ⟨_, rfl, by rw [← H.out]; exact o3.less hsz, hb.trans (b3.mono hsz)⟩

set_option maxHeartbeats 1000000 in
theorem specCyc_c {C D : Nat} {v1 v2 : Value} {xs ys : List Int} (w : World) (h1 : Rd C w v1 xs) (h2 : Rd D w v2 ys) (hC : C ≤ w.heap.size) (hD : D ≤ w.heap.size) :
    Calls Try.prog 26 #[v1, v2] w fun e w' => ∃ v', e = .returned v' ∧ Own w.heap.size w'.heap.size w' v' (cpr xs ys) ∧ Below w.heap.size w w' := by
  have hown := Own.empty w
  have hbel := (Below.refl w.heap.size w).alloc (Nat.le_refl _) (.cells #[] 3)
  have HC1 := specPts_c _ (h1.below hbel hC)
  have HC2 := specPts_c _ (h2.below hbel hD)
  by_cases p1 : ptsOk xs = true
  case neg =>
    have p1' : ptsOk xs = false := by simpa using p1
    have H := hid (cpr_no (xs := xs) (ys := ys) fun h => p1 h.1)
    rw [p1'] at HC1
    have HC1 := hid HC1
    have HC2 := hid HC2
    clear p1 p1' h1 h2
    go_enter Try.func26, Try.ntmps26
    go_wp2_with (first | (go_at_call 32; (with_reducible refine HC1.out.mono ?_); rintro e w' ⟨rfl, rfl⟩) | (go_at_call 32; (with_reducible refine HC2.out.mono ?_); rintro e w' ⟨rfl, rfl⟩))
    go_ret
    exact ⟨_, rfl, by rw [H.out]; exact (Own.empty w).more (by simp), (Below.refl _ _).alloc (Nat.le_refl _) _⟩
  rw [p1] at HC1
  have HC1 := hid HC1
  by_cases p2 : ptsOk ys = true
  case neg =>
    have p2' : ptsOk ys = false := by simpa using p2
    have H := hid (cpr_no (xs := xs) (ys := ys) fun h => p2 h.2)
    rw [p2'] at HC2
    have HC2 := hid HC2
    clear p1 p2 p2' h1 h2
    go_enter Try.func26, Try.ntmps26
    go_wp2_with (first | (go_at_call 32; (with_reducible refine HC1.out.mono ?_); rintro e w' ⟨rfl, rfl⟩) | (go_at_call 32; (with_reducible refine HC2.out.mono ?_); rintro e w' ⟨rfl, rfl⟩))
    go_ret
    exact ⟨_, rfl, by rw [H.out]; exact (Own.empty w).more (by simp), (Below.refl _ _).alloc (Nat.le_refl _) _⟩
  rw [p2] at HC2
  have HC2 := hid HC2
  have H := hid (cpr_yes p1 p2)
  have bX := hid (gx_in p1)
  have bY := hid (gx_in p2)
  have l1 := ptsOk_len p1
  have l2 := ptsOk_len p2
  obtain ⟨A1, n1, c1, rfl, h1⟩ := h1
  obtain ⟨A2, n2, c2, rfl, h2⟩ := h2
  obtain rfl : n1 = 16 := by rw [← h1.len]; exact l1
  obtain rfl : n2 = 16 := by rw [← h2.len]; exact l2
  have EX := hid (fun i => show xs.getD i 0 = gx xs i from rfl)
  have EY := hid (fun i => show ys.getD i 0 = gx ys i from rfl)
  generalize gx xs = X at *
  generalize gx ys = Y at *
  clear p1 p2 l1 l2
  go_enter Try.func26, Try.ntmps26
  go_wp2_with (first | (go_at_call 32; (with_reducible refine HC1.out.mono ?_); rintro e w' ⟨rfl, rfl⟩) | (go_at_call 32; (with_reducible refine HC2.out.mono ?_); rintro e w' ⟨rfl, rfl⟩))
  clear HC1 HC2
  go_loopw [5, 6] (fun out i wr => ∃ k : Nat, k ≤ 16 ∧ i = .int .i64 k ∧ Own w.heap.size wr.heap.size wr out (rg k fun k => cyc X Y k 16 % 257) ∧ Below w.heap.size w wr) (fun _ i _ => 16 - (intOf i).toNat)
  case atStart => exact ⟨0, Nat.zero_le _, rfl, by simpa [rg] using hown, hbel⟩
  case round =>
    obtain ⟨k, hk, rfl, ho, hb⟩ := hrel
    clear hown hbel
    have hsz := hb.size
    by_cases hlt : k < 16
    · go_wp2
      obtain ⟨wo, rfl⟩ : ∃ wo, wo = wr := ⟨_, rfl⟩
      go_loopw [7, 8] (fun s i wr => ∃ j : Nat, j ≤ 16 ∧ i = .int .i64 j ∧ s = .int .i64 (cyc X Y k j % 257) ∧ ∃ q, wr = wo.drewN q) (fun _ i _ => 16 - (intOf i).toNat)
      case atStart => exact ⟨0, Nat.zero_le _, rfl, rfl, 0, rfl⟩
      case round =>
        obtain ⟨j, hj, rfl, rfl, q, rfl⟩ := hrel
        have n1 : cyc X Y k (j + 1) = cyc X Y k j + X j * Y ((k + 16 - j) % 16) := rfl
        have hfin := hid (fun h : j = 16 => show cyc X Y k j % 257 = cyc X Y k 16 % 257 by rw [h])
        by_cases hj16 : j < 16
        · obtain ⟨b, off, x, rfl, hbC, hcell, hx⟩ := h1.at_ hj16
          obtain ⟨m, hm⟩ : ∃ m, m = (k + 16 - j) % 16 := ⟨_, rfl⟩
          rw [← hm] at n1
          have hm16 : m < 16 := by omega
          obtain ⟨b2, off2, y, rfl, hbD, hcell2, hy⟩ := h2.at_ hm16
          have bx := bX.out j
          have by' := bY.out m
          have ex := (EX.out j).symm.trans hx.out
          have ey := (EY.out m).symm.trans hy.out
          rw [ex] at bx n1
          rw [ey] at by' n1
          have hstep : (cyc X Y k j % 257 + x * y) % 257 = cyc X Y k (j + 1) % 257 := by rw [n1]; generalize x * y = z; omega
          have hb0 : 0 ≤ cyc X Y k j % 257 ∧ cyc X Y k j % 257 ≤ 256 := by omega
          generalize cyc X Y k j % 257 = s at hstep hb0
          have HS := hid hstep
          have m1 := mul_in bx by'
          have cc1 := ((hb.cell (p := ⟨b, off + j, none⟩) (by simp; omega)).trans hcell)
          have cc2 := ((hb.cell (p := ⟨b2, off2 + m, none⟩) (by simp; omega)).trans hcell2)
          have u1 : ((k : Int) - (j : Int) + 16).tmod 16 = (m : Int) := by rw [Int.tmod_eq_emod_of_nonneg (by omega)]; omega
          have u2 : ((k : Int) - (j : Int) + 16) % 16 = (m : Int) := by omega
          have u3 : IntKind.i64.wrap ((k : Int) - (j : Int)) = (k : Int) - (j : Int) := IntWalk.i64_in _ (by omega)
          have u4 : IntKind.i64.wrap ((k : Int) - (j : Int) + 16) = (k : Int) - (j : Int) + 16 := IntWalk.i64_in _ (by omega)
          have u5 : IntKind.i64.wrap (x * y) = x * y := IntWalk.i64_in _ (by omega)
          have u6 : IntKind.i64.wrap (s + x * y) = s + x * y := IntWalk.i64_in _ (by omega)
          have u7 : (s + x * y).tmod 257 = (s + x * y) % 257 := Int.tmod_eq_emod_of_nonneg (by omega)
          have u8 : IntKind.i64.wrap ((s + x * y) % 257) = (s + x * y) % 257 := IntWalk.i64_in _ (by omega)
          have u9 : IntKind.i64.wrap (m : Int) = (m : Int) := IntWalk.i64_in _ (by omega)
          have i1 : (j : Int) < 16 := by omega
          have i2 : (m : Int) < 16 := by omega
          clear hcell hcell2 hx hy ex ey n1 hm hstep hfin
          go_wp2
          go_quiet (fail)
          clear u1 u2 u3 u4 u5 u6 u7 u8 u9
          go_wp2
          go_roundw
          case rel => exact ⟨j + 1, by omega, by go_num, by rw [HS.out], _, rfl⟩
          case measure => simp [intOf]; omega
        · obtain rfl : j = 16 := by omega
          have hn := rg_snoc k fun k => cyc X Y k 16 % 257
          generalize hs : cyc X Y k 16 % 257 = s at hn
          have Hn := hid hn
          have HSS := hid hs
          have hb' := below_drewN hb q
          have ho' := ho.drewN q
          clear hn hs n1 hfin ho hb
          go_wp2_with (at_builtin; refine wpl_appl intSl _ rfl (.tmp 43) (.tmp 45) rfl w.heap.size wo.heap.size _ _ _ [s] 1 rfl rfl rfl rfl ho' (Nat.le_refl _) (by rw [rg_length]; omega) hsz ?_; intro v' w1 ho1 hg1)
          rw [Hn.out] at ho1
          have hb1 := hb'.grown hg1 hsz (fun q hq => (ho'.lt q hq).1)
          clear ho' hb' hg1
          go_wp2
          go_roundw
          case rel => exact ⟨k + 1, by omega, by go_num, ho1, hb1⟩
          case measure => simp [intOf]; omega
    · obtain rfl : k = 16 := by omega
      go_wp2
      go_ret
      exact ⟨_, rfl, by rw [H.out]; exact ho, hb⟩

/-! ### the laws' form -/
section
variable {C D : Nat} {v u : Value} {xs ys : List Int} (w : World)
theorem specFwd_t (h1 : Rd C w v xs) (hC : C ≤ w.heap.size) : Calls Try.prog 22 #[v] w fun e w' => ∃ v', e = .returned v' ∧ Own w.heap.size w'.heap.size w' v' (fwd xs) ∧ Below w.heap.size w w' := specFwd_c w h1 hC
theorem implFwd_t (h1 : Rd C w v xs) (hC : C ≤ w.heap.size) : Calls Try.prog 23 #[v] w fun e w' => ∃ v', e = .returned v' ∧ Own w.heap.size w'.heap.size w' v' (fwd xs) ∧ Below w.heap.size w w' := implFwd_c w h1 hC
theorem specBwd_t (h1 : Rd C w v xs) (hC : C ≤ w.heap.size) : Calls Try.prog 24 #[v] w fun e w' => ∃ v', e = .returned v' ∧ Own w.heap.size w'.heap.size w' v' (bwd xs) ∧ Below w.heap.size w w' := specBwd_c w h1 hC
theorem implBwd_t (h1 : Rd C w v xs) (hC : C ≤ w.heap.size) : Calls Try.prog 25 #[v] w fun e w' => ∃ v', e = .returned v' ∧ Own w.heap.size w'.heap.size w' v' (bwd xs) ∧ Below w.heap.size w w' := implBwd_c w h1 hC
theorem specCyc_t (h1 : Rd C w v xs) (h2 : Rd D w u ys) (hC : C ≤ w.heap.size) (hD : D ≤ w.heap.size) : Calls Try.prog 26 #[v, u] w fun e w' => ∃ v', e = .returned v' ∧ Own w.heap.size w'.heap.size w' v' (cpr xs ys) ∧ Below w.heap.size w w' := specCyc_c w h1 h2 hC hD
theorem implCyc_t (h1 : Rd C w v xs) (h2 : Rd D w u ys) (hC : C ≤ w.heap.size) (hD : D ≤ w.heap.size) : Calls Try.prog 27 #[v, u] w fun e w' => ∃ v', e = .returned v' ∧ Own w.heap.size w'.heap.size w' v' (cpr xs ys) ∧ Below w.heap.size w w' := implCyc_c w h1 h2 hC hD
end

end Go.Proofs.Ytmjghkpijphfbaa
