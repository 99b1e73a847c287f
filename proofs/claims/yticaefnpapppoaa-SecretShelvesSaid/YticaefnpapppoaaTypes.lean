/- Facts of this program's types: how many cells each has. -/
import Derived.Test.YticaefnpapppoaaProg
import Derived.KernelRfl
namespace Go.Proofs.Yticaefnpapppoaa
theorem Try.sz72 : (Try.prog.info? 72).map (·.size) = some 1 := by kernel_rfl
theorem Try.sz40 : (Try.prog.info? 40).map (·.size) = some 1 := by kernel_rfl
theorem Try.sz79 : (Try.prog.info? 79).map (·.size) = some 1 := by kernel_rfl
theorem Try.sz91 : (Try.prog.info? 91).map (·.size) = some 1 := by kernel_rfl
theorem Try.sz25 : (Try.prog.info? 25).map (·.size) = some 32 := by kernel_rfl
theorem Try.sz69 : (Try.prog.info? 69).map (·.size) = some 64 := by kernel_rfl
theorem Try.sz66 : (Try.prog.info? 66).map (·.size) = some 8 := by kernel_rfl
theorem Try.sz32 : (Try.prog.info? 32).map (·.size) = some 1 := by kernel_rfl
theorem Try.sz41 : (Try.prog.info? 41).map (·.size) = some 1 := by kernel_rfl
theorem Try.sz39 : (Try.prog.info? 39).map (·.size) = some 1 := by kernel_rfl
theorem Try.sz74 : (Try.prog.info? 74).map (·.size) = some 1 := by kernel_rfl
theorem Try.sz22 : (Try.prog.info? 22).map (·.size) = some 1 := by kernel_rfl
theorem Try.sz47 : (Try.prog.info? 47).map (·.size) = some 1 := by kernel_rfl
theorem Try.sz26 : (Try.prog.info? 26).map (·.size) = some 32 := by kernel_rfl
theorem Try.sz46 : (Try.prog.info? 46).map (·.size) = some 65 := by kernel_rfl
theorem Try.sz4 : (Try.prog.info? 4).map (·.size) = some 1 := by kernel_rfl
theorem Try.sz3 : (Try.prog.info? 3).map (·.size) = some 1 := by kernel_rfl
theorem Try.sz21 : (Try.prog.info? 21).map (·.size) = some 1 := by kernel_rfl
theorem Try.sz2 : (Try.prog.info? 2).map (·.size) = some 1 := by kernel_rfl
theorem Try.sz43 : (Try.prog.info? 43).map (·.size) = some 1 := by kernel_rfl
theorem Try.sz67 : (Try.prog.info? 67).map (·.size) = some 8 := by kernel_rfl
theorem Try.sz9 : (Try.prog.info? 9).map (·.size) = some 1 := by kernel_rfl
theorem Try.sz45 : (Try.prog.info? 45).map (·.size) = some 65 := by kernel_rfl
theorem Try.sz42 : (Try.prog.info? 42).map (·.size) = some 1 := by kernel_rfl
theorem Try.sz73 : (Try.prog.info? 73).map (·.size) = some 1 := by kernel_rfl
theorem Try.sz65 : (Try.prog.info? 65).map (·.size) = some 1 := by kernel_rfl
theorem Try.sz76 : (Try.prog.info? 76).map (·.size) = some 1 := by kernel_rfl
theorem Try.sz5 : (Try.prog.info? 5).map (·.size) = some 1 := by kernel_rfl
theorem Try.sz96 : (Try.prog.info? 96).map (·.size) = some 1 := by kernel_rfl
end Go.Proofs.Yticaefnpapppoaa
