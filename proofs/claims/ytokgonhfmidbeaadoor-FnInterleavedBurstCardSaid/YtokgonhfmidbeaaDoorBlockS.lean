/-
  The block code: the syndrome of seven bits, by its loop.
-/
import Derived.Test.YtokgonhfmidbeaaDoorBlockP
namespace Go.Proofs.YtokgonhfmidbeaaDoor
open Go.RowKit

theorem xorN : ∀ s, s < 8 → ∀ t, t < 8 → bits BinOp.xor IntKind.i64 ((s : Nat) : Int) ((t : Nat) : Int) = ((s ^^^ t : Nat) : Int) := by decide
theorem xor8 {s t : Nat} (hs : s < 8) (ht : t < 8) : s ^^^ t < 8 := Nat.xor_lt_two_pow (n := 3) hs ht
theorem synTo_lt {ws : List Int} : ∀ k, k ≤ 7 → synTo ws k < 8
  | 0, _ => by simp [synTo]
  | k + 1, h => by
    have ih := synTo_lt (ws := ws) k (by omega)
    unfold synTo
    split
    · exact xor8 ih (by omega)
    · exact ih
set_option maxHeartbeats 1000000 in
theorem syndrome_c {C : Nat} {v : Value} {ws : List Int} (w : World) (h : Rd C w v ws) (hl : ws.length = 7) (hb : ∀ k, ws.getD k 0 = 0 ∨ ws.getD k 0 = 1) :
    Calls Tryd.prog 26 #[v] w fun e w' => e = .returned (.int .i64 (synTo ws 7 : Nat)) ∧ w = w' := by
  obtain ⟨A, n, c, rfl, h1⟩ := h
  obtain rfl : n = 7 := by rw [← h1.len]; exact hl
  clear hl
  go_enter Tryd.func26, Tryd.ntmps26
  go_wp2_with fail
  go_loopw [3, 4, 5, 8] (fun s _ _ i wr => ∃ k : Nat, k ≤ 7 ∧ i = .int .i64 k ∧ s = .int .i64 (synTo ws k : Nat) ∧ w = wr) (fun _ _ _ i _ => 7 - (intOf i).toNat)
  case atStart => exact ⟨0, by omega, rfl, rfl, rfl⟩
  case round =>
    obtain ⟨k, hk, rfl, rfl, rfl⟩ := hrel
    by_cases hlt : k < 7
    · obtain ⟨b, off, x, rfl, _, c1, hx⟩ := h1.at_ hlt
      have hx01 := hb k
      rw [hx.out] at hx01
      have i1 : (k : Int) < 7 := by omega
      have hs := synTo_lt (ws := ws) k (by omega)
      have hn : Hid (synTo ws (k + 1) = if x = 1 then synTo ws k ^^^ (k + 1) else synTo ws k) := by show _ = _; rw [synTo, hx.out]
      generalize synTo ws k = S at hs hn
      clear h1 hx hb
      rcases hx01 with rfl | rfl
      · have x0 : bits BinOp.xor IntKind.i64 (S : Int) 0 = (S : Int) := by have := xorN S hs 0 (by omega); simpa using this
        go_wp2
        go_roundw
        case rel => exact ⟨k + 1, by omega, by go_num, by rw [hn.out]; rfl, trivial⟩
        case measure => simp [intOf]; omega
      · have x1 : bits BinOp.xor IntKind.i64 (S : Int) ((k : Int) + 1) = ((S ^^^ (k + 1) : Nat) : Int) := by have := xorN S hs (k + 1) (by omega); simpa using this
        go_wp2
        go_roundw
        case rel => exact ⟨k + 1, by omega, by go_num, by rw [hn.out]; rfl, trivial⟩
        case measure => simp [intOf]; omega
    · obtain rfl : k = 7 := by omega
      go_wp2
      go_ret
      exact ⟨rfl, rfl⟩

end Go.Proofs.YtokgonhfmidbeaaDoor
