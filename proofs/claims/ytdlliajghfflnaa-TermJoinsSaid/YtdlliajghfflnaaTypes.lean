/- Facts of this program's types: how many cells each has. -/
import Derived.Test.YtdlliajghfflnaaProg
import Derived.KernelRfl
namespace Go.Proofs.Ytdlliajghfflnaa
theorem Try.sz43 : (Try.prog.info? 43).map (·.size) = some 1 := by kernel_rfl
theorem Try.sz27 : (Try.prog.info? 27).map (·.size) = some 1 := by kernel_rfl
theorem Try.sz64 : (Try.prog.info? 64).map (·.size) = some 1 := by kernel_rfl
theorem Try.sz48 : (Try.prog.info? 48).map (·.size) = some 1 := by kernel_rfl
theorem Try.sz31 : (Try.prog.info? 31).map (·.size) = some 1 := by kernel_rfl
theorem Try.sz23 : (Try.prog.info? 23).map (·.size) = some 1 := by kernel_rfl
theorem Try.sz22 : (Try.prog.info? 22).map (·.size) = some 1 := by kernel_rfl
theorem Try.sz34 : (Try.prog.info? 34).map (·.size) = some 1 := by kernel_rfl
theorem Try.sz4 : (Try.prog.info? 4).map (·.size) = some 1 := by kernel_rfl
theorem Try.sz3 : (Try.prog.info? 3).map (·.size) = some 1 := by kernel_rfl
theorem Try.sz21 : (Try.prog.info? 21).map (·.size) = some 1 := by kernel_rfl
theorem Try.sz2 : (Try.prog.info? 2).map (·.size) = some 1 := by kernel_rfl
theorem Try.sz28 : (Try.prog.info? 28).map (·.size) = some 1 := by kernel_rfl
theorem Try.sz9 : (Try.prog.info? 9).map (·.size) = some 1 := by kernel_rfl
theorem Try.sz39 : (Try.prog.info? 39).map (·.size) = some 3 := by kernel_rfl
theorem Try.sz29 : (Try.prog.info? 29).map (·.size) = some 2 := by kernel_rfl
theorem Try.sz32 : (Try.prog.info? 32).map (·.size) = some 3 := by kernel_rfl
theorem Try.sz30 : (Try.prog.info? 30).map (·.size) = some 2 := by kernel_rfl
theorem Try.sz33 : (Try.prog.info? 33).map (·.size) = some 3 := by kernel_rfl
theorem Try.sz40 : (Try.prog.info? 40).map (·.size) = some 3 := by kernel_rfl
theorem Try.sz24 : (Try.prog.info? 24).map (·.size) = some 1 := by kernel_rfl
theorem Try.sz60 : (Try.prog.info? 60).map (·.size) = some 1 := by kernel_rfl
theorem Try.sz5 : (Try.prog.info? 5).map (·.size) = some 1 := by kernel_rfl
theorem Try.sz69 : (Try.prog.info? 69).map (·.size) = some 1 := by kernel_rfl
end Go.Proofs.Ytdlliajghfflnaa
