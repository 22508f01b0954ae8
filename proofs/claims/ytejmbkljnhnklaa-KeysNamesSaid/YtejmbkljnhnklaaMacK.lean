/-
  A tag that is known, reckoned by the kernel.
-/
import Derived.Test.YtejmbkljnhnklaaMacSpec
namespace Go.PK.Mac
def jefe : List UInt8 := [74, 101, 102, 101]
def want : List UInt8 := [119, 104, 97, 116, 32, 100, 111, 32, 121, 97, 32, 119, 97, 110, 116, 32, 102, 111, 114, 32, 110, 111, 116, 104, 105, 110, 103, 63]
def known : List UInt8 := [91, 220, 193, 70, 191, 96, 117, 78, 106, 4, 36, 38, 8, 149, 117, 199, 90, 0, 63, 8, 157, 39, 57, 131, 157, 236, 88, 185, 100, 236, 56, 67]
theorem tag_known : tag jefe want = known := by decide +kernel
theorem known_len : known.length = 32 := rfl
theorem known_0 : gb known 0 = 91 := rfl
theorem known_1 : gb known 1 = 220 := rfl
theorem known_31 : gb known 31 = 67 := rfl
end Go.PK.Mac
