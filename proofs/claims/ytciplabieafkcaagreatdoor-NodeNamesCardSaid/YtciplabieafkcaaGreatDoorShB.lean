/-
  SHA's block: 'turned' at each of the numbers that the block asks for.
-/
import Derived.Test.YtciplabieafkcaaGreatDoorShA
set_option linter.unusedSimpArgs false
set_option linter.unusedVariables false
namespace Go.Proofs.YtciplabieafkcaaGreatDoor
open Go.RowKit

theorem turn_2 (x : Nat) (hx : x < 4294967296) (w : World) : Calls Tryz.prog 356 #[.int .u32 (x : Int), .int .i64 2] w fun e w' => e = .returned (.int .u32 ((Go.Ev.rotr x 2 : Nat) : Int)) ∧ w' = w := by
  go_enter Tryz.func356, Tryz.ntmps356
  go_wp2_with (go_at_call 375; refine (rot_2 x hx _).mono ?_; rintro e w' ⟨rfl, rfl⟩)
  go_ret
  exact ⟨rfl, rfl⟩

theorem turn_6 (x : Nat) (hx : x < 4294967296) (w : World) : Calls Tryz.prog 356 #[.int .u32 (x : Int), .int .i64 6] w fun e w' => e = .returned (.int .u32 ((Go.Ev.rotr x 6 : Nat) : Int)) ∧ w' = w := by
  go_enter Tryz.func356, Tryz.ntmps356
  go_wp2_with (go_at_call 375; refine (rot_6 x hx _).mono ?_; rintro e w' ⟨rfl, rfl⟩)
  go_ret
  exact ⟨rfl, rfl⟩

theorem turn_7 (x : Nat) (hx : x < 4294967296) (w : World) : Calls Tryz.prog 356 #[.int .u32 (x : Int), .int .i64 7] w fun e w' => e = .returned (.int .u32 ((Go.Ev.rotr x 7 : Nat) : Int)) ∧ w' = w := by
  go_enter Tryz.func356, Tryz.ntmps356
  go_wp2_with (go_at_call 375; refine (rot_7 x hx _).mono ?_; rintro e w' ⟨rfl, rfl⟩)
  go_ret
  exact ⟨rfl, rfl⟩

theorem turn_11 (x : Nat) (hx : x < 4294967296) (w : World) : Calls Tryz.prog 356 #[.int .u32 (x : Int), .int .i64 11] w fun e w' => e = .returned (.int .u32 ((Go.Ev.rotr x 11 : Nat) : Int)) ∧ w' = w := by
  go_enter Tryz.func356, Tryz.ntmps356
  go_wp2_with (go_at_call 375; refine (rot_11 x hx _).mono ?_; rintro e w' ⟨rfl, rfl⟩)
  go_ret
  exact ⟨rfl, rfl⟩

theorem turn_13 (x : Nat) (hx : x < 4294967296) (w : World) : Calls Tryz.prog 356 #[.int .u32 (x : Int), .int .i64 13] w fun e w' => e = .returned (.int .u32 ((Go.Ev.rotr x 13 : Nat) : Int)) ∧ w' = w := by
  go_enter Tryz.func356, Tryz.ntmps356
  go_wp2_with (go_at_call 375; refine (rot_13 x hx _).mono ?_; rintro e w' ⟨rfl, rfl⟩)
  go_ret
  exact ⟨rfl, rfl⟩

theorem turn_17 (x : Nat) (hx : x < 4294967296) (w : World) : Calls Tryz.prog 356 #[.int .u32 (x : Int), .int .i64 17] w fun e w' => e = .returned (.int .u32 ((Go.Ev.rotr x 17 : Nat) : Int)) ∧ w' = w := by
  go_enter Tryz.func356, Tryz.ntmps356
  go_wp2_with (go_at_call 375; refine (rot_17 x hx _).mono ?_; rintro e w' ⟨rfl, rfl⟩)
  go_ret
  exact ⟨rfl, rfl⟩

theorem turn_18 (x : Nat) (hx : x < 4294967296) (w : World) : Calls Tryz.prog 356 #[.int .u32 (x : Int), .int .i64 18] w fun e w' => e = .returned (.int .u32 ((Go.Ev.rotr x 18 : Nat) : Int)) ∧ w' = w := by
  go_enter Tryz.func356, Tryz.ntmps356
  go_wp2_with (go_at_call 375; refine (rot_18 x hx _).mono ?_; rintro e w' ⟨rfl, rfl⟩)
  go_ret
  exact ⟨rfl, rfl⟩

theorem turn_19 (x : Nat) (hx : x < 4294967296) (w : World) : Calls Tryz.prog 356 #[.int .u32 (x : Int), .int .i64 19] w fun e w' => e = .returned (.int .u32 ((Go.Ev.rotr x 19 : Nat) : Int)) ∧ w' = w := by
  go_enter Tryz.func356, Tryz.ntmps356
  go_wp2_with (go_at_call 375; refine (rot_19 x hx _).mono ?_; rintro e w' ⟨rfl, rfl⟩)
  go_ret
  exact ⟨rfl, rfl⟩

theorem turn_22 (x : Nat) (hx : x < 4294967296) (w : World) : Calls Tryz.prog 356 #[.int .u32 (x : Int), .int .i64 22] w fun e w' => e = .returned (.int .u32 ((Go.Ev.rotr x 22 : Nat) : Int)) ∧ w' = w := by
  go_enter Tryz.func356, Tryz.ntmps356
  go_wp2_with (go_at_call 375; refine (rot_22 x hx _).mono ?_; rintro e w' ⟨rfl, rfl⟩)
  go_ret
  exact ⟨rfl, rfl⟩

theorem turn_25 (x : Nat) (hx : x < 4294967296) (w : World) : Calls Tryz.prog 356 #[.int .u32 (x : Int), .int .i64 25] w fun e w' => e = .returned (.int .u32 ((Go.Ev.rotr x 25 : Nat) : Int)) ∧ w' = w := by
  go_enter Tryz.func356, Tryz.ntmps356
  go_wp2_with (go_at_call 375; refine (rot_25 x hx _).mono ?_; rintro e w' ⟨rfl, rfl⟩)
  go_ret
  exact ⟨rfl, rfl⟩
end Go.Proofs.YtciplabieafkcaaGreatDoor
