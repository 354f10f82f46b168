/-
  Where the decoder of words answers, its answer has the four values: reckoned through, first half. Plain facts.
-/
import Derived.Test.YtemokfjnbmncbaaDoorGf
namespace Go.Proofs.YtemokfjnbmncbaaDoor.T
theorem sound0 : all 16 (fun s1 => all 16 fun s2 => all 16 fun s3 => okS 0 s1 s2 s3) = true := by decide +kernel
theorem sound1 : all 16 (fun s1 => all 16 fun s2 => all 16 fun s3 => okS 1 s1 s2 s3) = true := by decide +kernel
theorem sound2 : all 16 (fun s1 => all 16 fun s2 => all 16 fun s3 => okS 2 s1 s2 s3) = true := by decide +kernel
theorem sound3 : all 16 (fun s1 => all 16 fun s2 => all 16 fun s3 => okS 3 s1 s2 s3) = true := by decide +kernel
theorem sound4 : all 16 (fun s1 => all 16 fun s2 => all 16 fun s3 => okS 4 s1 s2 s3) = true := by decide +kernel
theorem sound5 : all 16 (fun s1 => all 16 fun s2 => all 16 fun s3 => okS 5 s1 s2 s3) = true := by decide +kernel
theorem sound6 : all 16 (fun s1 => all 16 fun s2 => all 16 fun s3 => okS 6 s1 s2 s3) = true := by decide +kernel
theorem sound7 : all 16 (fun s1 => all 16 fun s2 => all 16 fun s3 => okS 7 s1 s2 s3) = true := by decide +kernel

end Go.Proofs.YtemokfjnbmncbaaDoor.T
