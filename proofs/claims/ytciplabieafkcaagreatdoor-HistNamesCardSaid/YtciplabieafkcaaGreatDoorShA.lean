/-
  SHA's block: the words turned.
-/
import Derived.Test.YtciplabieafkcaaGreatDoorProg
import Derived.Test.YtciplabieafkcaaGreatDoorEv
import Derived.WalkKit
import Derived.Lib.Hide
set_option linter.unusedSimpArgs false
set_option linter.unusedVariables false
namespace Go.Proofs.YtciplabieafkcaaGreatDoor
open Go.RowKit

def TurnedTo (x n : Nat) (w : World) (e : Ending) (w' : World) : Prop := e = .returned (.int .u32 ((Go.Ev.rotr x n : Nat) : Int)) ∧ w = w'

theorem or_u32 (a b : Nat) (ha : a < 4294967296) (hb : b < 4294967296) : bits .or .u32 (a : Int) (b : Int) = ((Nat.lor a b : Nat) : Int) :=
  (bits_nat .u32 32 (by decide) (fun n h0 h1 => by rw [IntKind.wrap_u32]; omega) a b ha hb).2

theorem rot_val (x n : Nat) (hx : x < 4294967296) : bits .or .u32 ((x : Int) * ((2 ^ (32 - n) : Nat) : Int) % 4294967296) ((x : Int) / ((2 ^ n : Nat) : Int)) = ((Go.Ev.rotr x n : Nat) : Int) := by
  have e1 : (x : Int) * ((2 ^ (32 - n) : Nat) : Int) % 4294967296 = ((x * 2 ^ (32 - n) % 4294967296 : Nat) : Int) := by simp
  have e2 : (x : Int) / ((2 ^ n : Nat) : Int) = ((x / 2 ^ n : Nat) : Int) := by simp
  rw [e1, e2, or_u32 _ _ (Nat.mod_lt _ (by decide)) (Nat.lt_of_le_of_lt (Nat.div_le_self _ _) hx)]
  congr 1
  show Nat.lor (x * 2 ^ (32 - n) % 4294967296) (x / 2 ^ n) = Nat.lor (Nat.shiftRight x n) (Nat.mod (Nat.shiftLeft x (Nat.sub 32 n)) 4294967296)
  rw [show Nat.shiftRight x n = x / 2 ^ n from Nat.shiftRight_eq_div_pow x n, show Nat.shiftLeft x (Nat.sub 32 n) = x * 2 ^ (32 - n) from Nat.shiftLeft_eq x (32 - n)]
  exact Nat.or_comm _ _

theorem rot_2 (x : Nat) (hx : x < 4294967296) (w : World) : Calls Tryz.prog 375 #[.int .u32 (x : Int), .int .i64 (-2)] w (TurnedTo x 2 w) := by
  have h1 : bits BinOp.and IntKind.u64 (IntKind.u64.wrap (-2)) 31 = 30 := by decide +kernel
  have h2 := Lib.hid (rot_val x 2 hx)
  go_enter Tryz.func375, Tryz.ntmps375
  go_wp2
  go_ret
  exact ⟨congrArg (fun z => Ending.returned (.int .u32 z)) h2.out, rfl⟩

theorem rot_6 (x : Nat) (hx : x < 4294967296) (w : World) : Calls Tryz.prog 375 #[.int .u32 (x : Int), .int .i64 (-6)] w (TurnedTo x 6 w) := by
  have h1 : bits BinOp.and IntKind.u64 (IntKind.u64.wrap (-6)) 31 = 26 := by decide +kernel
  have h2 := Lib.hid (rot_val x 6 hx)
  go_enter Tryz.func375, Tryz.ntmps375
  go_wp2
  go_ret
  exact ⟨congrArg (fun z => Ending.returned (.int .u32 z)) h2.out, rfl⟩

theorem rot_7 (x : Nat) (hx : x < 4294967296) (w : World) : Calls Tryz.prog 375 #[.int .u32 (x : Int), .int .i64 (-7)] w (TurnedTo x 7 w) := by
  have h1 : bits BinOp.and IntKind.u64 (IntKind.u64.wrap (-7)) 31 = 25 := by decide +kernel
  have h2 := Lib.hid (rot_val x 7 hx)
  go_enter Tryz.func375, Tryz.ntmps375
  go_wp2
  go_ret
  exact ⟨congrArg (fun z => Ending.returned (.int .u32 z)) h2.out, rfl⟩

theorem rot_11 (x : Nat) (hx : x < 4294967296) (w : World) : Calls Tryz.prog 375 #[.int .u32 (x : Int), .int .i64 (-11)] w (TurnedTo x 11 w) := by
  have h1 : bits BinOp.and IntKind.u64 (IntKind.u64.wrap (-11)) 31 = 21 := by decide +kernel
  have h2 := Lib.hid (rot_val x 11 hx)
  go_enter Tryz.func375, Tryz.ntmps375
  go_wp2
  go_ret
  exact ⟨congrArg (fun z => Ending.returned (.int .u32 z)) h2.out, rfl⟩

theorem rot_13 (x : Nat) (hx : x < 4294967296) (w : World) : Calls Tryz.prog 375 #[.int .u32 (x : Int), .int .i64 (-13)] w (TurnedTo x 13 w) := by
  have h1 : bits BinOp.and IntKind.u64 (IntKind.u64.wrap (-13)) 31 = 19 := by decide +kernel
  have h2 := Lib.hid (rot_val x 13 hx)
  go_enter Tryz.func375, Tryz.ntmps375
  go_wp2
  go_ret
  exact ⟨congrArg (fun z => Ending.returned (.int .u32 z)) h2.out, rfl⟩

theorem rot_17 (x : Nat) (hx : x < 4294967296) (w : World) : Calls Tryz.prog 375 #[.int .u32 (x : Int), .int .i64 (-17)] w (TurnedTo x 17 w) := by
  have h1 : bits BinOp.and IntKind.u64 (IntKind.u64.wrap (-17)) 31 = 15 := by decide +kernel
  have h2 := Lib.hid (rot_val x 17 hx)
  go_enter Tryz.func375, Tryz.ntmps375
  go_wp2
  go_ret
  exact ⟨congrArg (fun z => Ending.returned (.int .u32 z)) h2.out, rfl⟩

theorem rot_18 (x : Nat) (hx : x < 4294967296) (w : World) : Calls Tryz.prog 375 #[.int .u32 (x : Int), .int .i64 (-18)] w (TurnedTo x 18 w) := by
  have h1 : bits BinOp.and IntKind.u64 (IntKind.u64.wrap (-18)) 31 = 14 := by decide +kernel
  have h2 := Lib.hid (rot_val x 18 hx)
  go_enter Tryz.func375, Tryz.ntmps375
  go_wp2
  go_ret
  exact ⟨congrArg (fun z => Ending.returned (.int .u32 z)) h2.out, rfl⟩

theorem rot_19 (x : Nat) (hx : x < 4294967296) (w : World) : Calls Tryz.prog 375 #[.int .u32 (x : Int), .int .i64 (-19)] w (TurnedTo x 19 w) := by
  have h1 : bits BinOp.and IntKind.u64 (IntKind.u64.wrap (-19)) 31 = 13 := by decide +kernel
  have h2 := Lib.hid (rot_val x 19 hx)
  go_enter Tryz.func375, Tryz.ntmps375
  go_wp2
  go_ret
  exact ⟨congrArg (fun z => Ending.returned (.int .u32 z)) h2.out, rfl⟩

theorem rot_22 (x : Nat) (hx : x < 4294967296) (w : World) : Calls Tryz.prog 375 #[.int .u32 (x : Int), .int .i64 (-22)] w (TurnedTo x 22 w) := by
  have h1 : bits BinOp.and IntKind.u64 (IntKind.u64.wrap (-22)) 31 = 10 := by decide +kernel
  have h2 := Lib.hid (rot_val x 22 hx)
  go_enter Tryz.func375, Tryz.ntmps375
  go_wp2
  go_ret
  exact ⟨congrArg (fun z => Ending.returned (.int .u32 z)) h2.out, rfl⟩

theorem rot_25 (x : Nat) (hx : x < 4294967296) (w : World) : Calls Tryz.prog 375 #[.int .u32 (x : Int), .int .i64 (-25)] w (TurnedTo x 25 w) := by
  have h1 : bits BinOp.and IntKind.u64 (IntKind.u64.wrap (-25)) 31 = 7 := by decide +kernel
  have h2 := Lib.hid (rot_val x 25 hx)
  go_enter Tryz.func375, Tryz.ntmps375
  go_wp2
  go_ret
  exact ⟨congrArg (fun z => Ending.returned (.int .u32 z)) h2.out, rfl⟩

end Go.Proofs.YtciplabieafkcaaGreatDoor
