/-
  Small words for the walks: a wrap of bytes and of 32 bits, as the printed functions spell it.
-/
import Derived.WalkKit
namespace Go.Proofs.YtlflocejgffjdaaWrap
open Go.RowKit

theorem u8_w (n : Int) : IntKind.u8.wrap n = n % 256 := by simp [IntKind.wrap, IntKind.signed, IntKind.bits]
theorem u32_w (n : Int) : IntKind.u32.wrap n = n % 4294967296 := by simp [IntKind.wrap, IntKind.signed, IntKind.bits]

end Go.Proofs.YtlflocejgffjdaaWrap
