/-
  The drawn numbers of the law on BurstSpread.
-/
import Derived.Test.YtfefkpjikjjjjaaDrawSeq
import Derived.Test.YtfefkpjikjjjjaaBurst
namespace Go.Proofs.Ytfefkpjikjjjjaa
open Go.RowKit

theorem results_tmp4 {fn : Func} {t u v x : Tmp} (h : fn.results = #[.tmp t, .tmp u, .tmp v, .tmp x]) (tmps : Array Value) (P : Program) (w : World) :
    (results fn tmps).run P w = .ok (.tuple #[tmps.getD t undef, tmps.getD u undef, tmps.getD v undef, tmps.getD x undef]) w := by simp [results, h]

def DrawBurstSpreadd (w : World) (e : Ending) (w' : World) : Prop :=
  ∃ r c a n : Int, e = .returned (.tuple #[.int .i64 r, .int .i64 c, .int .i64 a, .int .i64 n]) ∧ ((0 ≤ r ∧ r ≤ 33) ∧ (0 ≤ c ∧ c ≤ 8) ∧ (0 ≤ a ∧ a ≤ 64) ∧ (0 ≤ n ∧ n ≤ 100)) ∧ Below w.heap.size w w'

theorem prod8 {r c : Int} (h1 : 1 ≤ r) (h2 : r ≤ 8) (h3 : 1 ≤ c) (h4 : c ≤ 8) : 1 ≤ r * c ∧ r * c ≤ 64 := by
  have a1 := Int.mul_le_mul h1 h3 (by omega) (by omega)
  have a2 := Int.mul_le_mul h2 h4 (by omega) (by omega)
  omega

set_option maxHeartbeats 1000000 in
theorem DrawBurstSpread_c {C : Nat} {A : Option Addr} {n c : Nat} (w : World) (h : RdB C w A n c) (hC : C ≤ w.heap.size) :
    Calls Try.prog 11 #[.slice A n c] w (DrawBurstSpreadd w) := by
  have H := hid (l20Open_c w h hC)
  clear h
  go_enter Try.func11, Try.ntmps11
  go_wp2_with fail
  refine H.out.mono ?_
  rintro e w1 ⟨rfl, r, b1, l1⟩
  clear H
  have gr := World.grownBy.refl w1 (some w.heap.size)
  go_wp2_with fail
  refine (pick_c 8 _ r (by omega) (by omega) (by omega)).mono ?_
  rintro e w2 ⟨rr, rfl, ⟨rra, rrb⟩, r2, g2, s2⟩
  have t2 := g2.size
  clear s2
  have gr := grown_trans gr g2
  clear g2 r
  have r := r2
  clear r2
  go_wp2_with fail
  refine (pick_c 8 _ r (by omega) (by omega) (by omega)).mono ?_
  rintro e w3 ⟨kk, rfl, ⟨kka, kkb⟩, r3, g3, s3⟩
  have t3 := g3.size
  clear s3
  have gr := grown_trans gr g3
  clear g3 r
  have r := r3
  clear r3
  have hp := prod8 (r := 1 + rr) (c := 1 + kk) (by omega) (by omega) (by omega) (by omega)
  obtain ⟨R, rfl⟩ : ∃ R, rr = R - 1 := ⟨rr + 1, by omega⟩
  obtain ⟨K, rfl⟩ : ∃ K, kk = K - 1 := ⟨kk + 1, by omega⟩
  rw [show 1 + (R - 1) = R by omega, show 1 + (K - 1) = K by omega] at hp
  have eR : 1 + (R - 1) = R := by omega
  have eK : 1 + (K - 1) = K := by omega
  obtain ⟨hp1, hp2⟩ := hp
  generalize hP : R * K = P at *
  go_wp2_with fail
  refine (pick_c _ _ r (by omega) (by omega) (by omega)).mono ?_
  rintro e w4 ⟨aa, rfl, ⟨aaa, aab⟩, r4, g4, s4⟩
  have t4 := g4.size
  clear s4
  have gr := grown_trans gr g4
  clear g4 r
  have r := r4
  clear r4
  go_wp2_with fail
  refine (pick_c _ _ r (by omega) (by omega) (by omega)).mono ?_
  rintro e w5 ⟨nn, rfl, ⟨nna, nnb⟩, r5, g5, s5⟩
  have t5 := g5.size
  clear s5
  have gr := grown_trans gr g5
  clear g5 r
  have r := r5
  clear r5
  go_wp2_with fail
  refine (pick_c 12 _ r (by omega) (by omega) (by omega)).mono ?_
  rintro e w6 ⟨z, rfl, ⟨za, zb⟩, r6, g6, s6⟩
  have t6 := g6.size
  clear s6
  have gr := grown_trans gr g6
  clear g6 r
  have r := r6
  clear r6
  have hz : z / 11 = 0 ∨ z / 11 = 1 := by omega
  go_wp2_with fail
  refine (odd_c 12 _ r (by omega) (by omega) (by omega)).mono ?_
  rintro e w7 ⟨bo, rfl, r7, g7, s7⟩
  have t7 := g7.size
  clear s7
  have gr := grown_trans gr g7
  clear g7 r
  have r := r7
  clear r7
  rcases hz with hz | hz
  all_goals
    cases bo
    case false =>
      have bb := b1.trans (below_of_grown gr (Nat.le_refl _) l1)
      go_wp2_with fail
      refine bodyPost_ret (results_tmp4 rfl _ _ _) rfl ?_
      exact ⟨_, _, _, _, rfl, ⟨⟨by omega, by omega⟩, ⟨by omega, by omega⟩, ⟨by omega, by omega⟩, ⟨by omega, by omega⟩⟩, bb⟩
    case true =>
      have OT := Own.made w7 #[.int .i64 0, .int .i64 33] [0, 33] rfl rfl (by omega : 2 ≤ 4194304)
      have r := r.alloc (.cells #[.int .i64 0, .int .i64 33] 3)
      have gr := grown_alloc gr (.cells #[.int .i64 0, .int .i64 33] 3)
      go_wp2_with fail
      refine (pick_c 2 _ r (by omega) (by omega) (by omega)).mono ?_
      rintro e w8 ⟨q, rfl, ⟨qa, qb⟩, r8, g8, s8⟩
      have t8 := g8.size
      clear s8
      have OT := OT.apart g8 (fun k hk => by injection hk; omega)
      have gr := grown_trans gr g8
      clear g8 r
      have r := r8
      clear r8
      have hq : q = 0 ∨ q = 1 := by omega
      rcases hq with rfl | rfl
      all_goals
        have ce := OT.cell (k := 0) (by simp)
        have cd := OT.cell (k := 1) (by simp)
        simp only [List.getD_cons_zero, List.getD_cons_succ] at ce cd
        have bb := b1.trans (below_of_grown gr (Nat.le_refl _) l1)
        go_wp2_with fail
        refine bodyPost_ret (results_tmp4 rfl _ _ _) rfl ?_
        exact ⟨_, _, _, _, rfl, ⟨⟨by omega, by omega⟩, ⟨by omega, by omega⟩, ⟨by omega, by omega⟩, ⟨by omega, by omega⟩⟩, bb⟩

end Go.Proofs.Ytfefkpjikjjjjaa
