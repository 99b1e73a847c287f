/- Contracts: RotateLeft32 and the reference's turn, at the constants that occur: a word turned right. -/
import Derived.Test.YtokddhidcjkadaaProg
import Derived.Test.YtokddhidcjkadaaBase
import Derived.Test.YtokddhidcjkadaaShaSpec
namespace Go.Proofs.Ytokddhidcjkadaa
open Go.RowKit Go.Bz Go.Bz.Sha
set_option maxRecDepth 100000 in
theorem rot_7 (x : Nat) (hx : x < 4294967296) (w : World) : Calls Try.prog 90 #[.int .u32 x, .int .i64 (-7)] w fun e w' => e = .returned (.int .u32 (rr 7 x : Nat)) ∧ w = w' := by
  have hb : bits .and .u64 (IntKind.u64.wrap (-7)) 31 = 25 := by decide
  go_enter Try.func90, Try.ntmps90
  go_wp2
  go_ret
  have e1 : bits BinOp.or IntKind.u32 (↑x * 33554432 % 4294967296) (↑x / 128) = ((rr 7 x : Nat) : Int) := by
    rw [show (x : Int) / 128 = ((x / 128 : Nat) : Int) by omega, show (x : Int) * 33554432 % 4294967296 = ((x * 33554432 % 4294967296 : Nat) : Int) by omega, u32_or_nat _ _ (by omega) (by omega), Nat.or_comm]; rfl
  exact ⟨by rw [← e1]; rfl, rfl⟩
set_option maxRecDepth 100000 in
theorem rot_18 (x : Nat) (hx : x < 4294967296) (w : World) : Calls Try.prog 90 #[.int .u32 x, .int .i64 (-18)] w fun e w' => e = .returned (.int .u32 (rr 18 x : Nat)) ∧ w = w' := by
  have hb : bits .and .u64 (IntKind.u64.wrap (-18)) 31 = 14 := by decide
  go_enter Try.func90, Try.ntmps90
  go_wp2
  go_ret
  have e1 : bits BinOp.or IntKind.u32 (↑x * 16384 % 4294967296) (↑x / 262144) = ((rr 18 x : Nat) : Int) := by
    rw [show (x : Int) / 262144 = ((x / 262144 : Nat) : Int) by omega, show (x : Int) * 16384 % 4294967296 = ((x * 16384 % 4294967296 : Nat) : Int) by omega, u32_or_nat _ _ (by omega) (by omega), Nat.or_comm]; rfl
  exact ⟨by rw [← e1]; rfl, rfl⟩
set_option maxRecDepth 100000 in
theorem rot_17 (x : Nat) (hx : x < 4294967296) (w : World) : Calls Try.prog 90 #[.int .u32 x, .int .i64 (-17)] w fun e w' => e = .returned (.int .u32 (rr 17 x : Nat)) ∧ w = w' := by
  have hb : bits .and .u64 (IntKind.u64.wrap (-17)) 31 = 15 := by decide
  go_enter Try.func90, Try.ntmps90
  go_wp2
  go_ret
  have e1 : bits BinOp.or IntKind.u32 (↑x * 32768 % 4294967296) (↑x / 131072) = ((rr 17 x : Nat) : Int) := by
    rw [show (x : Int) / 131072 = ((x / 131072 : Nat) : Int) by omega, show (x : Int) * 32768 % 4294967296 = ((x * 32768 % 4294967296 : Nat) : Int) by omega, u32_or_nat _ _ (by omega) (by omega), Nat.or_comm]; rfl
  exact ⟨by rw [← e1]; rfl, rfl⟩
set_option maxRecDepth 100000 in
theorem rot_19 (x : Nat) (hx : x < 4294967296) (w : World) : Calls Try.prog 90 #[.int .u32 x, .int .i64 (-19)] w fun e w' => e = .returned (.int .u32 (rr 19 x : Nat)) ∧ w = w' := by
  have hb : bits .and .u64 (IntKind.u64.wrap (-19)) 31 = 13 := by decide
  go_enter Try.func90, Try.ntmps90
  go_wp2
  go_ret
  have e1 : bits BinOp.or IntKind.u32 (↑x * 8192 % 4294967296) (↑x / 524288) = ((rr 19 x : Nat) : Int) := by
    rw [show (x : Int) / 524288 = ((x / 524288 : Nat) : Int) by omega, show (x : Int) * 8192 % 4294967296 = ((x * 8192 % 4294967296 : Nat) : Int) by omega, u32_or_nat _ _ (by omega) (by omega), Nat.or_comm]; rfl
  exact ⟨by rw [← e1]; rfl, rfl⟩
set_option maxRecDepth 100000 in
theorem rot_6 (x : Nat) (hx : x < 4294967296) (w : World) : Calls Try.prog 90 #[.int .u32 x, .int .i64 (-6)] w fun e w' => e = .returned (.int .u32 (rr 6 x : Nat)) ∧ w = w' := by
  have hb : bits .and .u64 (IntKind.u64.wrap (-6)) 31 = 26 := by decide
  go_enter Try.func90, Try.ntmps90
  go_wp2
  go_ret
  have e1 : bits BinOp.or IntKind.u32 (↑x * 67108864 % 4294967296) (↑x / 64) = ((rr 6 x : Nat) : Int) := by
    rw [show (x : Int) / 64 = ((x / 64 : Nat) : Int) by omega, show (x : Int) * 67108864 % 4294967296 = ((x * 67108864 % 4294967296 : Nat) : Int) by omega, u32_or_nat _ _ (by omega) (by omega), Nat.or_comm]; rfl
  exact ⟨by rw [← e1]; rfl, rfl⟩
set_option maxRecDepth 100000 in
theorem rot_11 (x : Nat) (hx : x < 4294967296) (w : World) : Calls Try.prog 90 #[.int .u32 x, .int .i64 (-11)] w fun e w' => e = .returned (.int .u32 (rr 11 x : Nat)) ∧ w = w' := by
  have hb : bits .and .u64 (IntKind.u64.wrap (-11)) 31 = 21 := by decide
  go_enter Try.func90, Try.ntmps90
  go_wp2
  go_ret
  have e1 : bits BinOp.or IntKind.u32 (↑x * 2097152 % 4294967296) (↑x / 2048) = ((rr 11 x : Nat) : Int) := by
    rw [show (x : Int) / 2048 = ((x / 2048 : Nat) : Int) by omega, show (x : Int) * 2097152 % 4294967296 = ((x * 2097152 % 4294967296 : Nat) : Int) by omega, u32_or_nat _ _ (by omega) (by omega), Nat.or_comm]; rfl
  exact ⟨by rw [← e1]; rfl, rfl⟩
set_option maxRecDepth 100000 in
theorem rot_25 (x : Nat) (hx : x < 4294967296) (w : World) : Calls Try.prog 90 #[.int .u32 x, .int .i64 (-25)] w fun e w' => e = .returned (.int .u32 (rr 25 x : Nat)) ∧ w = w' := by
  have hb : bits .and .u64 (IntKind.u64.wrap (-25)) 31 = 7 := by decide
  go_enter Try.func90, Try.ntmps90
  go_wp2
  go_ret
  have e1 : bits BinOp.or IntKind.u32 (↑x * 128 % 4294967296) (↑x / 33554432) = ((rr 25 x : Nat) : Int) := by
    rw [show (x : Int) / 33554432 = ((x / 33554432 : Nat) : Int) by omega, show (x : Int) * 128 % 4294967296 = ((x * 128 % 4294967296 : Nat) : Int) by omega, u32_or_nat _ _ (by omega) (by omega), Nat.or_comm]; rfl
  exact ⟨by rw [← e1]; rfl, rfl⟩
set_option maxRecDepth 100000 in
theorem rot_2 (x : Nat) (hx : x < 4294967296) (w : World) : Calls Try.prog 90 #[.int .u32 x, .int .i64 (-2)] w fun e w' => e = .returned (.int .u32 (rr 2 x : Nat)) ∧ w = w' := by
  have hb : bits .and .u64 (IntKind.u64.wrap (-2)) 31 = 30 := by decide
  go_enter Try.func90, Try.ntmps90
  go_wp2
  go_ret
  have e1 : bits BinOp.or IntKind.u32 (↑x * 1073741824 % 4294967296) (↑x / 4) = ((rr 2 x : Nat) : Int) := by
    rw [show (x : Int) / 4 = ((x / 4 : Nat) : Int) by omega, show (x : Int) * 1073741824 % 4294967296 = ((x * 1073741824 % 4294967296 : Nat) : Int) by omega, u32_or_nat _ _ (by omega) (by omega), Nat.or_comm]; rfl
  exact ⟨by rw [← e1]; rfl, rfl⟩
set_option maxRecDepth 100000 in
theorem rot_13 (x : Nat) (hx : x < 4294967296) (w : World) : Calls Try.prog 90 #[.int .u32 x, .int .i64 (-13)] w fun e w' => e = .returned (.int .u32 (rr 13 x : Nat)) ∧ w = w' := by
  have hb : bits .and .u64 (IntKind.u64.wrap (-13)) 31 = 19 := by decide
  go_enter Try.func90, Try.ntmps90
  go_wp2
  go_ret
  have e1 : bits BinOp.or IntKind.u32 (↑x * 524288 % 4294967296) (↑x / 8192) = ((rr 13 x : Nat) : Int) := by
    rw [show (x : Int) / 8192 = ((x / 8192 : Nat) : Int) by omega, show (x : Int) * 524288 % 4294967296 = ((x * 524288 % 4294967296 : Nat) : Int) by omega, u32_or_nat _ _ (by omega) (by omega), Nat.or_comm]; rfl
  exact ⟨by rw [← e1]; rfl, rfl⟩
set_option maxRecDepth 100000 in
theorem rot_22 (x : Nat) (hx : x < 4294967296) (w : World) : Calls Try.prog 90 #[.int .u32 x, .int .i64 (-22)] w fun e w' => e = .returned (.int .u32 (rr 22 x : Nat)) ∧ w = w' := by
  have hb : bits .and .u64 (IntKind.u64.wrap (-22)) 31 = 10 := by decide
  go_enter Try.func90, Try.ntmps90
  go_wp2
  go_ret
  have e1 : bits BinOp.or IntKind.u32 (↑x * 1024 % 4294967296) (↑x / 4194304) = ((rr 22 x : Nat) : Int) := by
    rw [show (x : Int) / 4194304 = ((x / 4194304 : Nat) : Int) by omega, show (x : Int) * 1024 % 4294967296 = ((x * 1024 % 4294967296 : Nat) : Int) by omega, u32_or_nat _ _ (by omega) (by omega), Nat.or_comm]; rfl
  exact ⟨by rw [← e1]; rfl, rfl⟩
end Go.Proofs.Ytokddhidcjkadaa
