/-
  The decoder of words finds two errors: reckoned through, by the greater of the two places. Plain facts.
-/
import Derived.Test.YtemokfjnbmncbaaDoorGf
namespace Go.Proofs.YtemokfjnbmncbaaDoor.T
theorem comp1 : all 16 (fun y => decide (y ≤ 1) || all 15 fun e => all 15 fun f => okTwo 1 y (e + 1) (f + 1)) = true := by decide +kernel
theorem comp2 : all 16 (fun y => decide (y ≤ 2) || all 15 fun e => all 15 fun f => okTwo 2 y (e + 1) (f + 1)) = true := by decide +kernel
theorem comp3 : all 16 (fun y => decide (y ≤ 3) || all 15 fun e => all 15 fun f => okTwo 3 y (e + 1) (f + 1)) = true := by decide +kernel
theorem comp4 : all 16 (fun y => decide (y ≤ 4) || all 15 fun e => all 15 fun f => okTwo 4 y (e + 1) (f + 1)) = true := by decide +kernel
theorem comp5 : all 16 (fun y => decide (y ≤ 5) || all 15 fun e => all 15 fun f => okTwo 5 y (e + 1) (f + 1)) = true := by decide +kernel
theorem comp6 : all 16 (fun y => decide (y ≤ 6) || all 15 fun e => all 15 fun f => okTwo 6 y (e + 1) (f + 1)) = true := by decide +kernel
theorem comp7 : all 16 (fun y => decide (y ≤ 7) || all 15 fun e => all 15 fun f => okTwo 7 y (e + 1) (f + 1)) = true := by decide +kernel
theorem comp8 : all 16 (fun y => decide (y ≤ 8) || all 15 fun e => all 15 fun f => okTwo 8 y (e + 1) (f + 1)) = true := by decide +kernel
theorem comp9 : all 16 (fun y => decide (y ≤ 9) || all 15 fun e => all 15 fun f => okTwo 9 y (e + 1) (f + 1)) = true := by decide +kernel
theorem comp10 : all 16 (fun y => decide (y ≤ 10) || all 15 fun e => all 15 fun f => okTwo 10 y (e + 1) (f + 1)) = true := by decide +kernel
theorem comp11 : all 16 (fun y => decide (y ≤ 11) || all 15 fun e => all 15 fun f => okTwo 11 y (e + 1) (f + 1)) = true := by decide +kernel
theorem comp12 : all 16 (fun y => decide (y ≤ 12) || all 15 fun e => all 15 fun f => okTwo 12 y (e + 1) (f + 1)) = true := by decide +kernel
theorem comp13 : all 16 (fun y => decide (y ≤ 13) || all 15 fun e => all 15 fun f => okTwo 13 y (e + 1) (f + 1)) = true := by decide +kernel
theorem comp14 : all 16 (fun y => decide (y ≤ 14) || all 15 fun e => all 15 fun f => okTwo 14 y (e + 1) (f + 1)) = true := by decide +kernel

end Go.Proofs.YtemokfjnbmncbaaDoor.T
