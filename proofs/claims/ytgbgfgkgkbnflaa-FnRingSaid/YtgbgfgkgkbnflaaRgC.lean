/- Sums of short texts differ. Plain Lean. -/
import Derived.Test.YtgbgfgkgkbnflaaBase
namespace Go.Proofs.Ytgbgfgkgkbnflaa
open Go Go.RowKit

/-- The sums differ. -/
def crcs (l : List UInt8) : List UInt8 := be4 (crcB (str l)).toNat
theorem sums1 : ((List.range 19).all fun i => crcs [114, 192, 132, 61] != crcs [114, UInt8.ofNat i, 192, 132, 61]) = true := by decide +kernel
theorem sums2 : ((List.range 19).all fun i => crcs [114, 192, 132, 61] != crcs [114, UInt8.ofNat i, 132, 61]) = true := by decide +kernel
theorem sums3 : ((List.range 19).all fun i => (List.range 256).all fun x => crcs [114, 192, 132, 61, UInt8.ofNat x] != crcs [114, UInt8.ofNat i, 132, 61, UInt8.ofNat x]) = true := by decide +kernel

end Go.Proofs.Ytgbgfgkgkbnflaa
