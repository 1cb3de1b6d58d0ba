/- Plain laws of layer 1: the examples. -/
import Derived.Test.YtplahfhggnkahaaB01
set_option linter.all false
namespace Go.P1

theorem v300 : varint 300 = [172, 2] := by rw [varint_ge (by omega), varint_lt (by omega)]; decide
theorem v2 : varint 2 = [2] := by rw [varint_lt (by omega)]; decide
theorem v10 : varint 10 = [10] := by rw [varint_lt (by omega)]; decide
theorem v11 : varint 11 = [11] := by rw [varint_lt (by omega)]; decide
theorem c1 : comesL [172, 2] 0 = [172, 2, 32, 2] := by
  have h : getUint [172, 2] 0 = (300, 2, 0) := by decide
  unfold comesL
  rw [h]
  simp [v300, v2]
theorem c2 : comesL [128, 0] 0 = [101, 114, 114, 111, 114, 32, 10] := by
  have h : getUint [128, 0] 0 = (0, 0, 10) := by decide
  unfold comesL
  rw [h]
  simp [v10]
theorem c3 : comesL [128] 0 = [101, 114, 114, 111, 114, 32, 11] := by
  have h : getUint [128] 0 = (0, 0, 11) := by decide
  unfold comesL
  rw [h]
  simp [v11]
theorem nine : sum crcT [49, 50, 51, 52, 53, 54, 55, 56, 57] = 3808858755 := by decide +kernel
theorem none4 : sealed (sum crcT) [] = [0, 0, 0, 0] := by decide +kernel
theorem t0 : crcT.getD 0 0 = 0 := by decide +kernel
theorem t128 : crcT.getD 128 0 = 2197175160 := by decide +kernel

end Go.P1
