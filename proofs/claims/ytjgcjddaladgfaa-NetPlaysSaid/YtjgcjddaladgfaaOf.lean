/- The byte of a number. -/
namespace Go.Bz
/-- The byte of a number. -/
def ofI (n : Int) : UInt8 := UInt8.ofNat (n % 256).toNat
end Go.Bz
