/-
  The evaluator at this program: what stands for the functions that it does not walk, the methods behind interfaces, the variables that are laid.
-/
import Derived.Test.YtciplabieafkcaaGreatDoorEvBl
import Derived.Test.YtciplabieafkcaaGreatDoorProg
import Derived.KernelRfl
set_option linter.unusedSimpArgs false
set_option linter.unusedVariables false
namespace Go.Ev
open Go.Proofs
noncomputable section

def pickM (a b : FuncId) (name : String) : Option FuncId := match decide (name = "beadroll/node.can") with
  | true => some a
  | false => match decide (name = "beadroll/node.step") with
    | true => some b
    | false => none

def methT (t : TypeId) (name : String) : Option FuncId := match Nat.beq t 439 with
  | true => pickM 422 423 name
  | false => match Nat.beq t 441 with
    | true => pickM 424 425 name
    | false => match Nat.beq t 442 with
      | true => pickM 426 427 name
      | false => none

/-- 'two': both variables are laid; else the table alone. -/
def orcT (two : Bool) : Orc where
  meth := methT
  gl := fun g => match two with | true => Nat.blt g 2 | false => Nat.beq g 1
  special := fun f => Nat.beq f 317 || (Nat.beq f 355 || Nat.beq f 383)
  run := fun f a w => match Nat.beq f 317 with
    | true => blockB a w
    | false => match Nat.beq f 355 with
      | true => noZeroA a w
      | false => add64A a w

def shaK : List Value := [.int .u32 1116352408, .int .u32 1899447441, .int .u32 3049323471, .int .u32 3921009573, .int .u32 961987163, .int .u32 1508970993, .int .u32 2453635748, .int .u32 2870763221,
  .int .u32 3624381080, .int .u32 310598401, .int .u32 607225278, .int .u32 1426881987, .int .u32 1925078388, .int .u32 2162078206, .int .u32 2614888103, .int .u32 3248222580,
  .int .u32 3835390401, .int .u32 4022224774, .int .u32 264347078, .int .u32 604807628, .int .u32 770255983, .int .u32 1249150122, .int .u32 1555081692, .int .u32 1996064986,
  .int .u32 2554220882, .int .u32 2821834349, .int .u32 2952996808, .int .u32 3210313671, .int .u32 3336571891, .int .u32 3584528711, .int .u32 113926993, .int .u32 338241895,
  .int .u32 666307205, .int .u32 773529912, .int .u32 1294757372, .int .u32 1396182291, .int .u32 1695183700, .int .u32 1986661051, .int .u32 2177026350, .int .u32 2456956037,
  .int .u32 2730485921, .int .u32 2820302411, .int .u32 3259730800, .int .u32 3345764771, .int .u32 3516065817, .int .u32 3600352804, .int .u32 4094571909, .int .u32 275423344,
  .int .u32 430227734, .int .u32 506948616, .int .u32 659060556, .int .u32 883997877, .int .u32 958139571, .int .u32 1322822218, .int .u32 1537002063, .int .u32 1747873779,
  .int .u32 1955562222, .int .u32 2024104815, .int .u32 2227730452, .int .u32 2361852424, .int .u32 2428436474, .int .u32 2756734187, .int .u32 3204031479, .int .u32 3329325298]

def u8s (n : Nat) (r : List Value) : List Value := Nat.rec r (fun _ ih => .int .u8 0 :: ih) n
/-- 'tap.gap': an item that says that some are left out -/
def gapV : List Value := .bool true :: .int .i64 0 :: .bool false :: .int .i64 0 :: u8s 96 [.int .i64 0]

/-- the begin: the table, and with it 'tap.gap' -/
def startW (two : Bool) : AW :=
  match two with
  | true => { heap := .node (some (.cells gapV 0 false false)) (.node (some (.cells shaK 0 false false)) .nil .nil) .nil, size := 8 }
  | false => { heap := .node none (.node (some (.cells shaK 0 false false)) .nil .nil) .nil, size := 8 }

def startF : AF := { tmps := .nil, nt := 0, defers := [], fn := 0, rnd := none }

def saysTrue : Option Ans → Bool
  | some ⟨_, _, .bool b, _⟩ => b
  | _ => false

/-- Are the variables as at the begin? -/
def laidB (two : Bool) (W : AW) : Bool := match W.cellsAt 1 0 64 with
  | some l => match eqVs l shaK with
    | true => (match two with
      | true => (match W.cellsAt 0 0 101 with
        | some l => eqVs l gapV
        | none => false)
      | false => true)
    | false => false
  | none => false

/-- .. with one function more that is known to answer true. -/
def orcC (two : Bool) (cl : FuncId) : Orc where
  meth := methT
  gl := (orcT two).gl
  special := fun f => Nat.beq f cl || (orcT two).special f
  run := fun f a w => match Nat.beq f cl with
    | true => (match a with
      | [] => (match laidB two w with
        | true => some (.bool true, w)
        | false => none)
      | _ => none)
    | false => (orcT two).run f a w
end
end Go.Ev
