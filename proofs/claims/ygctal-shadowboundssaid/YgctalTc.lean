import Derived.Test.YgctalTa
namespace Fl
set_option exponentiation.threshold 5000

/-! The roots of order 2^11, tried by the kernel. -/
theorem good_11 : goodZ 11 10 0 0 (4607182418800017408, 0) = true := by decide +kernel
end Fl
