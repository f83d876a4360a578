/-
  The names' laws: what a row that lists the table (and 'tap.gap') gives a call without arguments; a world that meets the list.
-/
import Derived.Test.YtciplabieafkcaaGreatDoorRows
import Derived.Test.YtciplabieafkcaaGreatDoorEvOk
import Derived.Test.YtciplabieafkcaaGreatDoorEvLd
import Derived.WalkKit
import Derived.ProofKit
import Derived.OpenShut
import Derived.LaidLaws
import Derived.LaidHandle
set_option linter.unusedSimpArgs false
set_option linter.unusedVariables false
namespace Go.Proofs.YtciplabieafkcaaGreatDoor
open Go.ChangeShapes Go.WideShapes Go.ChangeAt Go.RowKit
open Go.Ev

theorem own : ownKnob Tryz.prog.godebug = none := by kernel_rfl

/-- what is listed -/
abbrev listed (two : Bool) : List (String × DataW Unit) := if two then [("beadroll/sha.k", Rows.laid_beadroll_sha_k), ("beadroll/tap.gap", Rows.laid_beadroll_tap_gap)] else [("beadroll/sha.k", Rows.laid_beadroll_sha_k)]

theorem flat_k : flatD Tryz.prog 4 556 Rows.laid_beadroll_sha_k = some shaK := by kernel_rfl
theorem flat_gap : flatD Tryz.prog 8 74 Rows.laid_beadroll_tap_gap = some gapV := by kernel_rfl
theorem glob_k : Tryz.prog.globalNamed "beadroll/sha.k" = some 1 := by kernel_rfl
theorem glob_gap : Tryz.prog.globalNamed "beadroll/tap.gap" = some 0 := by kernel_rfl
theorem type_k : (Tryz.prog.globals[1]?).map (·.type) = some 556 := by kernel_rfl
theorem type_gap : (Tryz.prog.globals[0]?).map (·.type) = some 74 := by kernel_rfl

theorem shaK_flat : allL flat1 shaK = true := by kernel_rfl
theorem gapV_flat : allL flat1 gapV = true := by kernel_rfl

/-- What the list gives. -/
theorem laid_at {two : Bool} {W : World} (h : laidMet Tryz.prog (listed two) W) : ∀ g c, laidG two g = some c → LaidAt W g c := by
  cases two with
  | false =>
    obtain ⟨ps, ⟨g, t, cs, fuel, p, q, hg, ht, hvar, hd, -⟩, -⟩ := h
    obtain rfl := Option.some.inj (glob_k.symm.trans hg)
    obtain rfl := Option.some.inj (type_k.symm.trans ht)
    intro g c hc
    match g with
    | 1 => cases hc; exact laidAt_of glob_k hvar hd flat_k (by simp [shaK]) shaK_flat
    | 0 => cases hc
    | g + 2 => cases hc
  | true =>
    obtain ⟨ps, ⟨g, t, cs, fuel, p, q, hg, ht, hvar, hd, ⟨g2, t2, cs2, fuel2, p2, q2, hg2, ht2, hvar2, hd2, -⟩, -⟩, -⟩ := h
    obtain rfl := Option.some.inj (glob_k.symm.trans hg)
    obtain rfl := Option.some.inj (type_k.symm.trans ht)
    obtain rfl := Option.some.inj (glob_gap.symm.trans hg2)
    obtain rfl := Option.some.inj (type_gap.symm.trans ht2)
    intro g c hc
    match g with
    | 1 => cases hc; exact laidAt_of glob_k hvar hd flat_k (by simp [shaK]) shaK_flat
    | 0 => cases hc; exact laidAt_of glob_gap hvar2 hd2 flat_gap (by simp [gapV]) gapV_flat
    | g + 2 => cases hc

/-- A world that meets the list. -/
noncomputable def laidWorld (os : Os) : World :=
  let w0 := World.holding Tryz.prog os ⟨#[], #[], []⟩
  { w0 with heap := (w0.heap.modify 1 fun
      | .cells _ t frozen => .cells shaK.toArray t frozen
      | o => o).modify 0 fun
      | .cells _ t frozen => .cells gapV.toArray t frozen
      | o => o }

theorem laidWorld_met (two : Bool) (os : Os) (args : Array Value) : laidMetH Tryz.prog (listed two) ((laidWorld os).forCall (fun _ _ => 0) ⟨#[], args, []⟩).memory := by
  cases two with
  | true => exact laidMetH_of_parts (laidMet_of_run' 20 (by kernel_rfl) (by kernel_rfl)) (by kernel_rfl)
  | false => exact laidMetH_of_parts (laidMet_of_run' 20 (by kernel_rfl) (by kernel_rfl)) (by kernel_rfl)
end Go.Proofs.YtciplabieafkcaaGreatDoor
