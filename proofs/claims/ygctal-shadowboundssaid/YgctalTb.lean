import Derived.Test.YgctalTa
namespace Fl
set_option exponentiation.threshold 5000

/-! The roots of orders up to 2^10, tried by the kernel. -/
theorem good_1 : goodZ 1 0 0 0 (4607182418800017408, 0) = true := by decide +kernel
theorem good_2 : goodZ 2 1 0 0 (4607182418800017408, 0) = true := by decide +kernel
theorem good_3 : goodZ 3 2 0 0 (4607182418800017408, 0) = true := by decide +kernel
theorem good_4 : goodZ 4 3 0 0 (4607182418800017408, 0) = true := by decide +kernel
theorem good_5 : goodZ 5 4 0 0 (4607182418800017408, 0) = true := by decide +kernel
theorem good_6 : goodZ 6 5 0 0 (4607182418800017408, 0) = true := by decide +kernel
theorem good_7 : goodZ 7 6 0 0 (4607182418800017408, 0) = true := by decide +kernel
theorem good_8 : goodZ 8 7 0 0 (4607182418800017408, 0) = true := by decide +kernel
theorem good_9 : goodZ 9 8 0 0 (4607182418800017408, 0) = true := by decide +kernel
theorem good_10 : goodZ 10 9 0 0 (4607182418800017408, 0) = true := by decide +kernel
end Fl
