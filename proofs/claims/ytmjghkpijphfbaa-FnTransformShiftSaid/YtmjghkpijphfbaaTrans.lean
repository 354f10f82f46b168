/-
  The transform, of the program (butterflies) and of the reference (sums).
-/
import Derived.Test.YtmjghkpijphfbaaRoot
import Derived.Test.YtmjghkpijphfbaaStep
namespace Go.Proofs.Ytmjghkpijphfbaa
open Go.RowKit

theorem rg_in {n : Nat} {f : Nat → Int} (h : ∀ i, 0 ≤ f i ∧ f i ≤ 256) (i : Nat) : 0 ≤ (rg n f).getD i 0 ∧ (rg n f).getD i 0 ≤ 256 := by
  by_cases hi : i < n
  · rw [rg_getD hi]; exact h i
  · rw [List.getD_eq_getElem?_getD, List.getElem?_eq_none (by rw [rg_length]; omega)]
    simp
theorem mul_in {x p : Int} (hx : 0 ≤ x ∧ x ≤ 256) (hp : 0 ≤ p ∧ p ≤ 256) : 0 ≤ x * p ∧ x * p ≤ 65536 :=
  ⟨Int.mul_nonneg hx.1 hp.1, Int.mul_le_mul hx.2 hp.2 hp.1 (by omega)⟩

set_option maxHeartbeats 1000000 in
theorem specSum_c {C : Nat} {v : Value} {xs : List Int} (r : Int) (w : World) (h1 : Rd C w v xs) (hC : C ≤ w.heap.size) (hp : ptsOk xs = true) (r0 : 0 ≤ r) (r1 : r ≤ 256) :
    Calls Try.prog 38 #[v, .int .i64 r] w fun e w' => ∃ v', e = .returned v' ∧ Own w.heap.size w'.heap.size w' v' (rg 16 (ft (fun i => xs.getD i 0) r 16)) ∧ Below w.heap.size w w' := by
  have hat := hid (ptsOk_at hp)
  have hl := ptsOk_len hp
  obtain ⟨A, n, c, rfl, h1⟩ := h1
  obtain rfl : n = 16 := by rw [← h1.len]; exact hl
  clear hl hp
  have hown := Own.empty w
  have hbel := (Below.refl w.heap.size w).alloc (Nat.le_refl _) (.cells #[] 3)
  obtain ⟨X, hX⟩ : ∃ X : Nat → Int, X = fun i => xs.getD i 0 := ⟨_, rfl⟩
  have HX := hid hX
  rw [← hX]
  clear hX
  go_enter Try.func38, Try.ntmps38
  go_wp2
  go_loopw [5, 6] (fun out i wr => ∃ k : Nat, k ≤ 16 ∧ i = .int .i64 k ∧ Own w.heap.size wr.heap.size wr out (rg k (ft X r 16)) ∧ Below w.heap.size w wr) (fun _ i _ => 16 - (intOf i).toNat)
  case atStart => exact ⟨0, Nat.zero_le _, rfl, by simpa [rg] using hown, hbel⟩
  case round =>
    obtain ⟨k, hk, rfl, ho, hb⟩ := hrel
    clear hown hbel
    have hsz := hb.size
    by_cases hlt : k < 16
    · have HP := hid (specPower_c r k wr r0 r1 (by omega))
      have hW := pw_in r k
      have hft := hid (ss_ft X r 16 k)
      generalize pw r k = W at HP hW hft
      go_wp2_with (go_at_call 29; (with_reducible refine HP.out.mono ?_); rintro e w' ⟨rfl, rfl⟩)
      clear HP
      obtain ⟨wo, rfl⟩ : ∃ wo, wo = wr := ⟨_, rfl⟩
      go_loop [7, 9, 10] (fun s p i => ∃ j : Nat, j ≤ 16 ∧ i = .int .i64 j ∧ s = .int .i64 (ss X W j) ∧ p = .int .i64 (pw W j)) (fun _ _ i => 16 - (intOf i).toNat)
      case atStart => exact ⟨0, Nat.zero_le _, rfl, rfl, rfl⟩
      case round =>
        obtain ⟨j, hj, rfl, rfl, rfl⟩ := hrel
        have b1 := ss_in X W j
        have b2 := pw_in W j
        have n1 := hid (show ss X W (j + 1) = (ss X W j + X j * pw W j) % 257 from rfl)
        have n2 := hid (show pw W (j + 1) = pw W j * W % 257 from rfl)
        have hfin := hid (fun h : j = 16 => show ss X W j = ft X r 16 k by rw [h]; exact hft.out)
        generalize ss X W j = s at b1 n1 hfin
        generalize pw W j = p at b2 n1 n2
        by_cases hj16 : j < 16
        · obtain ⟨b, off, x, rfl, hbC, hcell, hx⟩ := h1.at_ hj16
          have bx := hat.out j
          have hXj : X j = x := by rw [HX.out]; exact hx.out
          rw [hx.out] at bx
          rw [hXj] at n1
          have m1 := mul_in bx b2
          have m2 := mul_in b2 hW
          have c1 := (hb.cell (p := ⟨b, off + j, none⟩) (by simp; omega)).trans hcell
          clear hcell hx hXj
          go_wp2
          go_round
          case rel => exact ⟨j + 1, by omega, by go_num, by rw [n1.out], by rw [n2.out]⟩
          case measure => simp [intOf]; omega
        · obtain rfl : j = 16 := by omega
          have hs := hfin.out rfl
          have hn := rg_snoc k (ft X r 16)
          rw [← hs] at hn
          have Hn := hid hn
          clear hn hs hfin n1 n2
          go_wp2_with (at_builtin; refine wpl_appl intSl _ rfl (.tmp 36) (.tmp 38) rfl w.heap.size wo.heap.size _ _ _ [s] 1 rfl rfl rfl rfl ho (Nat.le_refl _) (by rw [rg_length]; omega) hsz ?_; intro v' w1 ho1 hg1)
          rw [Hn.out] at ho1
          have hb1 := hb.grown hg1 hsz (fun q hq => (ho.lt q hq).1)
          clear ho hb hg1
          go_wp2
          go_roundw
          case rel => exact ⟨k + 1, by omega, by go_num, ho1, hb1⟩
          case measure => simp [intOf]; omega
    · obtain rfl : k = 16 := by omega
      go_wp2
      go_ret
      exact ⟨_, rfl, ho, hb⟩

/-! ### butterflies -/
theorem fly_step {n h k : Nat} {T : Nat → Int} (hk : k < h) :
    ((rg n fun i => if i < k ∨ (h ≤ i ∧ i < h + k) then T i else 0).set k (T k)).set (k + h) (T (k + h)) = rg n fun i => if i < k + 1 ∨ (h ≤ i ∧ i < h + (k + 1)) then T i else 0 := by
  rw [rg_set, rg_set]
  apply rg_congr
  intro i hi
  by_cases e1 : i = k + h
  · subst e1; rw [if_pos rfl, if_pos (by omega)]
  · rw [if_neg e1]
    by_cases e2 : i = k
    · subst e2; rw [if_pos rfl, if_pos (by omega)]
    · rw [if_neg e2]
      by_cases e3 : i < k ∨ (h ≤ i ∧ i < h + k)
      · rw [if_pos e3, if_pos (by omega)]
      · rw [if_neg e3, if_neg (by omega)]
theorem fly_all {n h : Nat} {T : Nat → Int} (hn : n = 2 * h) : (rg n fun i => if i < h ∨ (h ≤ i ∧ i < h + h) then T i else 0) = rg n T :=
  rg_congr fun i hi => by rw [if_pos (by omega)]

def FlyC (d : Nat) : Prop := ∀ (C : Nat) (v : Value) (xs : List Int) (r : Int) (w : World), Rd C w v xs → C ≤ w.heap.size → xs.length = 2 ^ d → (∀ i, 0 ≤ xs.getD i 0 ∧ xs.getD i 0 ≤ 256) → 0 ≤ r → r ≤ 256 →
    Calls Try.prog 39 #[v, .int .i64 r] w fun e w' => ∃ v', e = .returned v' ∧ Own w.heap.size w'.heap.size w' v' (rg (2 ^ d) (bf d (fun i => xs.getD i 0) r)) ∧ Below w.heap.size w w'
set_option maxHeartbeats 1000000 in
theorem fly_zero : FlyC 0 := by
  intro C v xs r w h1 hC hl hx r0 r1
  obtain ⟨A, n, c, rfl, h1⟩ := h1
  obtain rfl : n = 1 := by rw [← h1.len]; exact hl
  obtain ⟨b, off, x, rfl, hbC, c1, hX⟩ := h1.at_ (k := 0) (by omega)
  have o1 := Own.made w #[.int .i64 x] [x] rfl rfl (by omega : 1 ≤ 4194304)
  have b1 := (Below.refl w.heap.size w).alloc (Nat.le_refl _) (.cells #[.int .i64 x] 3)
  have H := hid (show rg (2 ^ 0) (bf 0 (fun i => xs.getD i 0) r) = [x] by rw [← hX.out]; rfl)
  have i0 : (0 : Int) < 1 := by omega
  simp only [Nat.add_zero] at c1
  clear hl
  go_enter Try.func39, Try.ntmps39
  go_wp2
  go_ret
  exact ⟨_, rfl, by rw [H.out]; exact o1.more (by simp), b1⟩

set_option maxHeartbeats 2000000 in
theorem fly_succ (d : Nat) (hd : d ≤ 4) (ih : FlyC d) : FlyC (d + 1) := by
  intro C v xs r w h1 hC hl hx r0 r1
  obtain ⟨A, n, c, rfl, h1⟩ := h1
  have hX := hid hx
  clear hx
  obtain ⟨h, hh⟩ : ∃ h, h = 2 ^ d := ⟨_, rfl⟩
  have hn : n = 2 * h := by rw [← h1.len, hl, hh, Nat.pow_succ]; omega
  have h1' : 1 ≤ h := by rw [hh]; exact Nat.one_le_two_pow
  have h16 : h ≤ 16 := by rw [hh]; exact Nat.pow_le_pow_right (by omega) hd
  unfold FlyC at ih
  rw [← hh] at ih
  have IH := hid ih
  have HN := hid hn
  have HP := hid (show 2 ^ (d + 1) = n by rw [hn, hh, Nat.pow_succ]; omega)
  have HH := hid hh
  clear ih hl hh
  rw [HP.out]
  have nle : n ≤ 32 := by omega
  have nge : 2 ≤ n := by omega
  have n1 : ((n : Int) == 1) = false := by simp; omega
  have d2 : (n : Int) / 2 = (h : Int) := by omega
  have R1 : Rd C w (.slice A n c) xs := ⟨_, _, _, rfl, h1⟩
  clear hn
  obtain ⟨MC, hMC⟩ : ∃ MC, MC = madeCells #[Value.int .i64 0] h := ⟨_, rfl⟩
  have hmk : ∀ W : World, (Instr.makeSlice 26 (.int .i64 0) (.int .i64 (h : Int))).run Try.prog W = .ok (.slice (some ⟨W.heap.size, 0, none⟩) 0 h) (W.alloc (.cells MC 3)) := by
    intro W
    rw [hMC]
    exact run_mk intSl 0 (h : Int) 0 h rfl rfl (by omega) (by omega) W
  have HS := hid (show MC.size = h by rw [hMC]; exact size_madeCells _ _)
  clear hMC
  have u1 : IntKind.i64.wrap ((n : Int) / 2) = (h : Int) := by rw [d2]; exact IntWalk.i64_in _ (by omega)
  have u2 : (n : Int).tdiv 2 = (h : Int) := by rw [Int.tdiv_eq_ediv_of_nonneg (by omega)]; exact d2
  have u3 : IntKind.i64.wrap (h : Int) = (h : Int) := IntWalk.i64_in _ (by omega)
  have rr := mul_in ⟨r0, r1⟩ ⟨r0, r1⟩
  have OA : Own w.heap.size (w.heap.size + 2) ((w.alloc (.cells MC 3)).alloc (.cells MC 3)).drew (.slice (some ⟨w.heap.size, 0, none⟩) 0 h) [] :=
    (((Own.made0 w MC h HS.out (by omega)).alloc (by simp) (.cells MC 3)).drewN 1).more (by omega)
  have OB : Own w.heap.size (w.heap.size + 2) ((w.alloc (.cells MC 3)).alloc (.cells MC 3)).drew (.slice (some ⟨w.heap.size + 1, 0, none⟩) 0 h) [] := by
    have := ((Own.made0 (w.alloc (.cells MC 3)) MC h HS.out (by omega)).drewN 1)
    simp only [World.size_alloc] at this
    exact this.fit (by omega) (by omega)
  have bW : Below w.heap.size w ((w.alloc (.cells MC 3)).alloc (.cells MC 3)).drew := below_drewN (((Below.refl _ _).alloc (Nat.le_refl _) (.cells MC 3)).alloc (by simp) (.cells MC 3)) 1
  have sW := hid (show ((w.alloc (.cells MC 3)).alloc (.cells MC 3)).drew.heap.size = w.heap.size + 2 by show ((w.alloc (.cells MC 3)).alloc (.cells MC 3)).heap.size = _; simp)
  go_enter Try.func39, Try.ntmps39
  go_wp2
  go_region
  all_goals
    clear hmk u1 u2 u3
    go_wp2
    go_loopw [6, 7, 8] (fun ve vo i wr => ∃ k m : Nat, Hid (m = 2 * k) ∧ m ≤ n ∧ i = .int .i64 m ∧ Own w.heap.size wr.heap.size wr ve (rg k fun i => xs.getD (2 * i) 0) ∧ Own w.heap.size wr.heap.size wr vo (rg k fun i => xs.getD (2 * i + 1) 0) ∧
      Hid (∀ q, ve.ownBlock = some q → vo.ownBlock ≠ some q) ∧ Below w.heap.size w wr) (fun _ _ i _ => n - (intOf i).toNat)
    case atStart =>
      refine ⟨0, 0, rfl, Nat.zero_le _, rfl, ?_, ?_, ?_, bW⟩
      · rw [sW.out]; first | exact OA | exact OB
      · rw [sW.out]; first | exact OA | exact OB
      · intro q h1 h2; simp [Value.ownBlock] at h1 h2; omega
    case round =>
      obtain ⟨k, m, hm, hmn, rfl, oe, oo, hap, hb⟩ := hrel
      clear OA OB bW sW
      have hsz := hb.size
      by_cases hlt : m < n
      · have hk : k < h := by have := hm.out; have := HN.out; omega
        have hlt2 : m + 1 < n := by have := hm.out; have := HN.out; omega
        obtain ⟨b, off, rfl, hbC, hc⟩ := h1.cells (by omega)
        have c1 := (hb.cell (p := ⟨b, off + m, none⟩) (by simp; omega)).trans (hc m hlt)
        have c2 := hc (m + 1) hlt2
        have s1 := rg_snoc k fun i => xs.getD (2 * i) 0
        have s2 := rg_snoc k fun i => xs.getD (2 * i + 1) 0
        rw [← hm.out] at s1 s2
        generalize xs.getD m 0 = x at c1 s1
        generalize xs.getD (m + 1) 0 = y at c2 s2
        have S1 := hid s1
        have S2 := hid s2
        clear s1 s2 hc
        have C2 := hid c2
        clear c2
        have i8 : (m : Int) + 1 < (n : Int) := by omega
        have i9 : (m : Int) < (n : Int) := by omega
        go_wp2_with (first | (at_builtin; refine wpl_appl2 intSl _ rfl (.tmp 32) (.tmp 37) rfl w.heap.size wr.heap.size _ _ _ [x] 1 rfl rfl rfl rfl oe (Nat.le_refl _) (by rw [rg_length]; omega) hsz ?_; intro ve1 w1 oe1 g1 p1; have hb1 := hb.grown g1 hsz (fun q hq => (oe.lt q hq).1); have c2 := (hb1.cell (p := ⟨b, off + (m + 1), none⟩) (by simp; omega)).trans C2.out; have oo1 := (oo.kept g1 (by cases hv : Value.ownBlock _ with | none => exact .inl rfl | some q => exact .inr fun e => hap.out q e.symm hv)).more g1.size; have hsz1 := hb1.size) | (at_builtin; refine wpl_appl2 intSl _ rfl (.tmp 39) (.tmp 45) rfl w.heap.size w1.heap.size _ _ _ [y] 1 rfl rfl rfl rfl oo1 (Nat.le_refl _) (by rw [rg_length]; omega) hsz1 ?_; intro vo1 w2 oo2 g2 p2))
        rw [S1.out] at oe1
        rw [S2.out] at oo2
        have hb2 := hb1.grown g2 hsz1 (fun q hq => (oo1.lt q hq).1)
        have oe2 := (oe1.kept g2 (by
          cases hv : Value.ownBlock ve1 with
          | none => exact .inl rfl
          | some q =>
            refine .inr fun e => ?_
            rcases p1 with p1 | p1
            · exact hap.out q (p1.symm.trans hv) e.symm
            · have l1 := oo.lt q e.symm
              rw [hv] at p1
              injection p1 with p1
              omega)).more g2.size
        have hap2 : Hid (∀ q, ve1.ownBlock = some q → vo1.ownBlock ≠ some q) := by
          intro q e1 e2
          rcases p2 with p2 | p2
          · rw [e2] at p2
            rcases p1 with p1 | p1
            · exact hap.out q (p1.symm.trans e1) p2.symm
            · have l1 := oo.lt q p2.symm
              rw [e1] at p1
              injection p1 with p1
              omega
          · have l1 := oe1.lt q e1
            rw [e2] at p2
            injection p2 with p2
            omega
        clear oe oo oe1 oo1 hap hb g1 g2 p1 p2 hb1 c1 c2 C2
        go_wp2
        go_roundw
        case rel => exact ⟨k + 1, m + 2, by show _ = _; have := hm.out; omega, by omega, by go_num, oe2, oo2, hap2, hb2⟩
        case measure => simp [intOf]; omega
      · obtain rfl : m = n := by omega
        obtain rfl : k = h := by have := hm.out; have := HN.out; omega
        have bE := rg_in (n := k) (f := fun i => xs.getD (2 * i) 0) (fun i => hX.out _)
        have bO := rg_in (n := k) (f := fun i => xs.getD (2 * i + 1) 0) (fun i => hX.out _)
        have eE := bf_congr d (fun i => (rg k fun i => xs.getD (2 * i) 0).getD i 0) (fun i => xs.getD (2 * i) 0) (r * r % 257) (fun i hi => rg_getD (by rw [HH.out]; exact hi))
        have eO := bf_congr d (fun i => (rg k fun i => xs.getD (2 * i + 1) 0).getD i 0) (fun i => xs.getD (2 * i + 1) 0) (r * r % 257) (fun i hi => rg_getD (by rw [HH.out]; exact hi))
        have pE := hid (fun i => bf_in d (fun i => xs.getD (2 * i) 0) (r * r % 257) i (hX.out _))
        have pO := hid (fun i => bf_in d (fun i => xs.getD (2 * i + 1) 0) (r * r % 257) i (hX.out _))
        have lE := rg_length k fun i => xs.getD (2 * i) 0
        have lO := rg_length k fun i => xs.getD (2 * i + 1) 0
        obtain ⟨TE, hTE⟩ : ∃ TE : Nat → Int, TE = bf d (fun i => xs.getD (2 * i) 0) (r * r % 257) := ⟨_, rfl⟩
        obtain ⟨TO, hTO⟩ : ∃ TO : Nat → Int, TO = bf d (fun i => xs.getD (2 * i + 1) 0) (r * r % 257) := ⟨_, rfl⟩
        have IE := IH.out _ _ _ (r * r % 257) wr oe.rd (Nat.le_refl _) lE bE (by omega) (by omega)
        rw [funext eE, ← hTE] at IE
        have HT := hid (show ∀ q, bf (d + 1) (fun i => xs.getD i 0) r q = if q < k then (TE q + TO q * pw r q % 257) % 257 else (TE (q - k) - TO (q - k) * pw r (q - k) % 257 + 257) % 257 by
          intro q; rw [hTE, hTO, HH.out]; rfl)
        rw [← hTE] at pE
        rw [← hTO] at pO
        obtain ⟨T, hT⟩ : ∃ T : Nat → Int, T = bf (d + 1) (fun i => xs.getD i 0) r := ⟨_, rfl⟩
        rw [← hT] at HT
        have HTT := hid hT
        have IE' := hid IE
        have EO := hid (funext eO)
        have hTO' := hid hTO
        have BO := hid bO
        have LO := hid lO
        clear IE eE eO bE bO lE lO hTE hTO hT hmn
        go_wp2_with fail
        refine IE'.out.mono ?_
        rintro e w3 ⟨v3, rfl, o3, b3⟩
        have oo := oo.below b3 (Nat.le_refl _)
        have hb3 := hb.trans (b3.mono hsz)
        have hsz3 := hb3.size
        clear IE' oe hap hb
        have IO := IH.out _ _ _ (r * r % 257) w3 oo.rd b3.size LO.out BO.out (by omega) (by omega)
        rw [EO.out, ← hTO'.out] at IO
        have IO' := hid IO
        clear IO oo EO hTO' BO LO
        go_wp2_with fail
        refine IO'.out.mono ?_
        rintro e w4 ⟨v4, rfl, o4, b4⟩
        have o3 := o3.below b4 (Nat.le_refl _)
        have hb4 := hb3.trans (b4.mono hsz3)
        have hsz4 := hb4.size
        have t4 := b4.size
        clear IO' hb3 b4 b3
        go_wp2_with (refine wpl_make intSl _ rfl (.tmp 59) (.tmp 59) rfl _ _ m rfl rfl rfl rfl (by omega) ?_; intro w5 ho hb5 hlt5)
        have R3 := o3.rd
        have R4 := o4.rd
        obtain ⟨A3, n3, c3, rfl, R3⟩ := R3
        obtain ⟨A4, n4, c4, rfl, R4⟩ := R4
        obtain rfl : k = n3 := by rw [← R3.len, rg_length]
        obtain rfl : k = n4 := by rw [← R4.len, rg_length]
        clear o3 o4
        go_loopw [10, 63] (fun tu i wr => ∃ q : Nat, q ≤ k ∧ i = .int .i64 q ∧ tu = .int .i64 (pw r q) ∧ Own w4.heap.size w5.heap.size wr (.slice (some ⟨w4.heap.size, 0, none⟩) m m) (rg m fun i => if i < q ∨ (k ≤ i ∧ i < k + q) then T i else 0) ∧ Below w4.heap.size w4 wr ∧ Hid (wr.heap.size = w5.heap.size)) (fun _ i _ => k - (intOf i).toNat)
        case atStart => exact ⟨0, Nat.zero_le _, rfl, rfl, by rw [rg_zero] at ho; rwa [rg_congr (g := fun _ => 0) fun i _ => by rw [if_neg (by omega)]], hb5, rfl⟩
        case round =>
          obtain ⟨q, hq, rfl, rfl, hoq, hbq, hzq⟩ := hrel
          clear ho hb5
          by_cases hlq : q < k
          · obtain ⟨be, ofe, x, rfl, hbe, hce, hxe⟩ := R3.at_ hlq
            obtain ⟨bo, ofo, y, rfl, hbo, hco, hyo⟩ := R4.at_ hlq
            have ce := (hbq.cell (p := ⟨be, ofe + q, none⟩) (by simp; omega)).trans hce
            have co := (hbq.cell (p := ⟨bo, ofo + q, none⟩) (by simp; omega)).trans hco
            have px := pE.out q
            have py := pO.out q
            have ex := hxe.out
            have ey := hyo.out
            rw [rg_getD hlq] at ex ey
            have T1 := HT.out q
            have T2 := HT.out (q + k)
            rw [if_pos hlq] at T1
            rw [if_neg (by omega), Nat.add_sub_cancel] at T2
            rw [ex] at px T1 T2
            rw [ey] at py T1 T2
            have pq := pw_in r q
            have nx := hid (show pw r (q + 1) = pw r q * r % 257 from rfl)
            generalize pw r q = P at pq nx T1 T2
            have m1 := mul_in py pq
            have m2 := mul_in pq ⟨r0, r1⟩
            have e1 : (x + y * P % 257) % 257 = (x + y * P) % 257 := by generalize y * P = Z; omega
            have e2 : (x - y * P % 257 + 257) % 257 = (x - y * P) % 257 := by generalize y * P = Z; omega
            rw [e1] at T1
            rw [e2] at T2
            have st := fly_step (n := m) (T := T) hlq
            rw [T1, T2] at st
            have ST := hid st
            clear T1 T2 hce hco hxe hyo ex ey st e1 e2
            have cA := hoq.cell (k := q) (by rw [rg_length]; omega)
            have fA := hoq.free q
            have cB := hoq.cell (k := q + k) (by rw [rg_length]; have := HN.out; omega)
            have fB := hoq.free (q + k)
            have ho2 := hoq.store q ((x + y * P) % 257)
            have ho3 := ho2.store (q + k) ((x - y * P) % 257)
            rw [ST.out] at ho3
            have ce2 : (wr.setCell ⟨w4.heap.size, q, none⟩ (.int .i64 ((x + y * P) % 257))).cell? ⟨be, ofe + q, none⟩ = some (.int .i64 x) := (World.cell?_setCell_other wr ⟨w4.heap.size, q, none⟩ ⟨be, ofe + q, none⟩ _ (by intro e; injection e; omega)).trans ce
            have hb6 := (hbq.setCell (p := ⟨w4.heap.size, q, none⟩) (Nat.le_refl _) (.int .i64 ((x + y * P) % 257))).setCell (p := ⟨w4.heap.size, q + k, none⟩) (Nat.le_refl _) (.int .i64 ((x - y * P) % 257))
            have i8 : (q : Int) + k < (m : Int) := by have := HN.out; omega
            have i9 : (q : Int) < (m : Int) := by omega
            clear hoq hbq ho2
            go_wp2
            go_roundw
            case rel => exact ⟨q + 1, by omega, by go_num, by rw [nx.out], ho3, hb6, hid (by simpa using hzq.out)⟩
            case measure => simp [intOf]; omega
          · obtain rfl : q = k := by omega
            rw [fly_all HN.out] at hoq
            go_wp2
            go_ret
            exact ⟨_, rfl, by rw [← HTT.out]; exact hoq.fit (by omega) (by rw [hzq.out]; exact Nat.le_refl _), hb4.trans (hbq.mono hsz4)⟩

end Go.Proofs.Ytmjghkpijphfbaa
