/-
  Integer operations on small numbers, reckoned on natural numbers.
-/
import Derived.Test.YtciplabieafkcaaGreatDoorEvFast
set_option linter.unusedSimpArgs false
set_option linter.unusedVariables false
namespace Go.Ev
noncomputable section

def limK : IntKind → Nat
  | .i8 => 128 | .i16 => 32768 | .i32 => 2147483648 | .i64 => 9223372036854775808
  | .u8 => 256 | .u16 => 65536 | .u32 => 4294967296 | .u64 => 18446744073709551616

theorem wrap_lim (k : IntKind) (n : Nat) (h : n < limK k) : k.wrap (n : Int) = n := by
  cases k <;> simp only [limK] at h <;> simp [IntKind.wrap, IntKind.bits, IntKind.signed] <;> omega

def natOp (op : BinOp) (k : IntKind) (a b : Nat) : Option Value := match op with
  | .add => match Nat.blt (Nat.add a b) (limK k) with | true => some (.int k (.ofNat (Nat.add a b))) | false => none
  | .sub => match Nat.ble b a && Nat.blt a (limK k) with | true => some (.int k (.ofNat (Nat.sub a b))) | false => none
  | .mul => match Nat.blt (Nat.mul a b) (limK k) with | true => some (.int k (.ofNat (Nat.mul a b))) | false => none
  | .quo => match Nat.blt 0 b && Nat.blt a (limK k) with | true => some (.int k (.ofNat (Nat.div a b))) | false => none
  | .rem => match Nat.blt 0 b with | true => some (.int k (.ofNat (Nat.mod a b))) | false => none
  | .lss => some (.bool (Nat.blt a b))
  | .leq => some (.bool (Nat.ble a b))
  | .gtr => some (.bool (Nat.blt b a))
  | .geq => some (.bool (Nat.ble b a))
  | .eql => some (.bool (Nat.beq a b))
  | .neq => some (.bool (!(Nat.beq a b)))
  | _ => none

theorem natOp_some {P : Program} {op : BinOp} {k : IntKind} {a b : Nat} {t : TypeId} {v : Value} (h : natOp op k a b = some v) : flatO (purely P (binOp op t (.int k (.ofNat a)) (.int k (.ofNat b)))) = some v := by
  have arith : ∀ {op : BinOp} {s : Sem Value}, binOp op t (.int k (.ofNat a)) (.int k (.ofNat b)) = (if k ≠ k then stuck "BinOp: operands of different kinds" else s) → binOp op t (.int k (.ofNat a)) (.int k (.ofNat b)) = s := fun h => by rw [h, if_neg (by simp)]
  cases op <;> simp only [natOp] at h <;> try (cases h; done)
  case add =>
    split at h
    · rename_i hl
      cases h
      rw [arith (s := Op.intArith .add k (.ofNat a) (.ofNat b)) rfl]
      show some (Value.int k (k.wrap (((a + b : Nat) : Int)))) = _
      rw [wrap_lim k (a + b) (blt_lt hl)]
      rfl
    · cases h
  case sub =>
    split at h
    · rename_i hl
      cases h
      simp only [Bool.and_eq_true] at hl
      have h1 := Nat.le_of_ble_eq_true hl.1
      have h2 := blt_lt hl.2
      rw [arith (s := Op.intArith .sub k (.ofNat a) (.ofNat b)) rfl]
      show some (Value.int k (k.wrap ((a : Int) - (b : Int)))) = _
      rw [show (a : Int) - (b : Int) = ((a - b : Nat) : Int) by omega, wrap_lim k (a - b) (by omega)]
      rfl
    · cases h
  case mul =>
    split at h
    · rename_i hl
      cases h
      rw [arith (s := Op.intArith .mul k (.ofNat a) (.ofNat b)) rfl]
      show some (Value.int k (k.wrap (((a * b : Nat) : Int)))) = _
      rw [wrap_lim k (a * b) (blt_lt hl)]
      rfl
    · cases h
  case quo =>
    split at h
    · rename_i hl
      cases h
      simp only [Bool.and_eq_true] at hl
      have h1 := blt_lt hl.1
      have h2 := blt_lt hl.2
      rw [arith (s := Op.intDiv .quo k (.ofNat a) (.ofNat b)) rfl]
      unfold Op.intDiv
      rw [if_neg (by show ¬ ((b : Int) = 0); omega)]
      show some (Value.int k (k.wrap (((a / b : Nat) : Int)))) = _
      rw [wrap_lim k (a / b) (Nat.lt_of_le_of_lt (Nat.div_le_self a b) h2)]
      rfl
    · cases h
  case rem =>
    split at h
    · rename_i hl
      cases h
      have h1 := blt_lt hl
      rw [arith (s := Op.intDiv .rem k (.ofNat a) (.ofNat b)) rfl]
      unfold Op.intDiv
      rw [if_neg (by show ¬ ((b : Int) = 0); omega)]
      rfl
    · cases h
  case lss =>
    cases h
    rw [arith (s := Op.intCmp .lss (.ofNat a) (.ofNat b)) rfl]
    show some (Value.bool (decide ((a : Int) < (b : Int)))) = _
    rw [show decide ((a : Int) < (b : Int)) = Nat.blt a b from by rw [Bool.eq_iff_iff, decide_eq_true_iff, Nat.blt_eq]; omega]
  case leq =>
    cases h
    rw [arith (s := Op.intCmp .leq (.ofNat a) (.ofNat b)) rfl]
    show some (Value.bool (decide ((a : Int) ≤ (b : Int)))) = _
    rw [show decide ((a : Int) ≤ (b : Int)) = Nat.ble a b from by rw [Bool.eq_iff_iff, decide_eq_true_iff, Nat.ble_eq]; omega]
  case gtr =>
    cases h
    rw [arith (s := Op.intCmp .gtr (.ofNat a) (.ofNat b)) rfl]
    show some (Value.bool (decide ((a : Int) > (b : Int)))) = _
    rw [show decide ((a : Int) > (b : Int)) = Nat.blt b a from by rw [Bool.eq_iff_iff, decide_eq_true_iff, Nat.blt_eq]; omega]
  case geq =>
    cases h
    rw [arith (s := Op.intCmp .geq (.ofNat a) (.ofNat b)) rfl]
    show some (Value.bool (decide ((a : Int) ≥ (b : Int)))) = _
    rw [show decide ((a : Int) ≥ (b : Int)) = Nat.ble b a from by rw [Bool.eq_iff_iff, decide_eq_true_iff, Nat.ble_eq]; omega]
  case eql =>
    cases h
    rw [arith (s := Op.intCmp .eql (.ofNat a) (.ofNat b)) rfl]
    show some (Value.bool ((a : Int) == (b : Int))) = _
    rw [show ((a : Int) == (b : Int)) = Nat.beq a b from by rw [Bool.eq_iff_iff, beq_iff_eq, Nat.beq_eq]; omega]
  case neq =>
    cases h
    rw [arith (s := Op.intCmp .neq (.ofNat a) (.ofNat b)) rfl]
    show some (Value.bool ((a : Int) != (b : Int))) = _
    have : ((a : Int) == (b : Int)) = Nat.beq a b := by rw [Bool.eq_iff_iff, beq_iff_eq, Nat.beq_eq]; omega
    rw [bne, this]

/-- A binary operation: on natural numbers where that serves. -/
def binN (P : Program) (op : BinOp) (t : TypeId) (x y : Value) (const : Bool) (r : Option Value) : Option Value := match r with
  | some v => some v
  | none => binA P op t x y const
def binZ (P : Program) (op : BinOp) (t : TypeId) (x y : Value) (const : Bool) : Option Value := match x, y with
  | .int k (.ofNat a), .int l (.ofNat b) => match Nat.beq (kno k) (kno l) with
    | true => binN P op t (.int k (.ofNat a)) (.int l (.ofNat b)) const (natOp op k a b)
    | false => binA P op t (.int k (.ofNat a)) (.int l (.ofNat b)) const
  | x, y => binA P op t x y const

theorem binZ_eq (P : Program) (op : BinOp) (t : TypeId) (x y : Value) (const : Bool) : binZ P op t x y const = binA P op t x y const := by
  unfold binZ
  split
  · rename_i k a l b
    split
    · rename_i hk
      have hk := kno_inj hk
      subst hk
      cases h : natOp op k a b with
      | none => rfl
      | some v =>
        show some v = binA P op t (.int k (.ofNat a)) (.int k (.ofNat b)) const
        exact (natOp_some (P := P) (t := t) h).symm
    · rfl
  · rfl

def signedK : IntKind → Bool
  | .i8 | .i16 | .i32 | .i64 => true
  | _ => false
def wrapN (k : IntKind) (m : Nat) (b : Bool) : Int := match b with
  | true => .ofNat m
  | false => match signedK k with
    | false => .ofNat (Nat.mod m (limK k))
    | true => k.wrap (.ofNat m)
def wrapZ (k : IntKind) (n : Int) : Int := match n with
  | .ofNat m => wrapN k m (Nat.blt m (limK k))
  | .negSucc m => k.wrap (.negSucc m)

theorem wrapZ_eq (k : IntKind) (n : Int) : wrapZ k n = k.wrap n := by
  cases n with
  | negSucc m => rfl
  | ofNat m =>
    show wrapN k m (Nat.blt m (limK k)) = _
    cases hb : Nat.blt m (limK k) with
    | true => exact (wrap_lim k m (blt_lt hb)).symm
    | false =>
      unfold wrapN
      simp only
      cases hs : signedK k with
      | true => rfl
      | false =>
        show ((m % limK k : Nat) : Int) = k.wrap (m : Int)
        cases k <;> first | (cases hs; done) | simp [IntKind.wrap, IntKind.bits, IntKind.signed, limK]

def convZ (P : Program) (s d : TypeId) (v : Value) : Option Value := match P.underlying s, P.underlying d, v with
  | some (.int _), some (.int k), .int _ n => some (.int k (wrapZ k n))
  | _, _, _ => none
theorem convZ_eq (P : Program) (s d : TypeId) (v : Value) : convZ P s d v = s_conv P s d v := by
  have h : wrapZ = IntKind.wrap := by funext k n; exact wrapZ_eq k n
  unfold convZ
  rw [h]
  rfl

end
end Go.Ev
