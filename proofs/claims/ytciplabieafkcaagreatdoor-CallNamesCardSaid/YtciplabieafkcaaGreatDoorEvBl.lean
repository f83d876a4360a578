/-
  What stands for three functions that the evaluator does not walk: SHA's block (its table read from the abstract memory), bytealg.MakeNoZero, bits.Add64.
-/
import Derived.Test.YtciplabieafkcaaGreatDoorEv
set_option linter.unusedSimpArgs false
set_option linter.unusedVariables false
namespace Go.Ev

noncomputable section
def below (m : Nat) (l : List Nat) : Bool := allL (fun n => Nat.blt n m) l

def blockS (W : AW) (K st bl : List Nat) (bs os : Nat) : Option AW :=
  match st with
  | [a, b, c, d, e, f, g, h] => match shaBlock K ⟨a, b, c, d, e, f, g, h⟩ bl with
    | some ⟨a, b, c, d, e, f, g, h⟩ => W.storeAt bs os [u32 a, u32 b, u32 c, u32 d, u32 e, u32 f, u32 g, u32 h]
    | none => none
  | _ => none

def blockB (args : List Value) (W : AW) : Option (Value × AW) :=
  match args with
  | [p, .slice (some ⟨b, o, _⟩) n _] => match addrOf p, Nat.ble 64 n && Nat.ble n 1000000000 with
    | some (bs, os), true => match W.cellsAt bs os 8, W.cellsAt b o 64, W.cellsAt 1 0 64 with
      | some st, some by', some kl => match natsOf .u32 st, natsOf .u8 by', natsOf .u32 kl with
        | some st, some bl, some K => match below 4294967296 st && (below 256 bl && below 4294967296 K) with
          | true => match blockS W K st bl bs os with
            | some W => some (.tuple #[], W)
            | none => none
          | false => none
        | _, _, _ => none
      | _, _, _ => none
    | _, _ => none
  | _ => none
end
end Go.Ev
