/-
  Where the decoder of words answers, its answer has the four values: reckoned through, second half. Plain facts.
-/
import Derived.Test.YtemokfjnbmncbaaDoorGf
namespace Go.Proofs.YtemokfjnbmncbaaDoor.T
theorem sound8 : all 16 (fun s1 => all 16 fun s2 => all 16 fun s3 => okS 8 s1 s2 s3) = true := by decide +kernel
theorem sound9 : all 16 (fun s1 => all 16 fun s2 => all 16 fun s3 => okS 9 s1 s2 s3) = true := by decide +kernel
theorem sound10 : all 16 (fun s1 => all 16 fun s2 => all 16 fun s3 => okS 10 s1 s2 s3) = true := by decide +kernel
theorem sound11 : all 16 (fun s1 => all 16 fun s2 => all 16 fun s3 => okS 11 s1 s2 s3) = true := by decide +kernel
theorem sound12 : all 16 (fun s1 => all 16 fun s2 => all 16 fun s3 => okS 12 s1 s2 s3) = true := by decide +kernel
theorem sound13 : all 16 (fun s1 => all 16 fun s2 => all 16 fun s3 => okS 13 s1 s2 s3) = true := by decide +kernel
theorem sound14 : all 16 (fun s1 => all 16 fun s2 => all 16 fun s3 => okS 14 s1 s2 s3) = true := by decide +kernel
theorem sound15 : all 16 (fun s1 => all 16 fun s2 => all 16 fun s3 => okS 15 s1 s2 s3) = true := by decide +kernel

end Go.Proofs.YtemokfjnbmncbaaDoor.T
