/- A block that is taken away, and a draw. No condition. -/
import Derived.Test.YtpjabkjacldgcaaEng22
namespace Sx
open Go
theorem hget_hdrop1 {i j : Nat} {hp : Hp} (h : i ≠ j) : hget i (hdrop' [j] hp) = hget i hp := by
  rw [hdrop_get, if_neg]
  simp; exact h
end Sx
