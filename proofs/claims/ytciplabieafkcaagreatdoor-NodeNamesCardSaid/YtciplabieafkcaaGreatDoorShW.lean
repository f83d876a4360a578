/-
  SHA's block: its words as numbers.
-/
import Derived.Test.YtciplabieafkcaaGreatDoorShA
set_option linter.unusedSimpArgs false
set_option linter.unusedVariables false
namespace Go.Proofs.YtciplabieafkcaaGreatDoor
open Go.RowKit
open Go.Ev (rotr sig0 sig1 sum0 sum1 chF majF m32)

theorem wrap_u32n (n : Nat) : IntKind.u32.wrap (n : Int) = ((m32 n : Nat) : Int) := by rw [IntKind.wrap_u32]; show _ = ((n % 4294967296 : Nat) : Int); omega
theorem m32_of (n : Nat) (h : n < 4294967296) : m32 n = n := Nat.mod_eq_of_lt h
theorem xor_u32 (a b : Nat) (ha : a < 4294967296) (hb : b < 4294967296) : bits .xor .u32 (a : Int) (b : Int) = ((Nat.xor a b : Nat) : Int) := by
  have ha' : a % 2 ^ IntKind.u32.bits = a := Nat.mod_eq_of_lt ha
  have hb' : b % 2 ^ IntKind.u32.bits = b := Nat.mod_eq_of_lt hb
  have h : a ^^^ b < 4294967296 := Nat.xor_lt_two_pow (n := 32) ha hb
  simp only [bits, BitVec.ofInt_natCast, BitVec.toNat_xor, BitVec.toNat_ofNat, ha', hb']
  rw [IntKind.wrap_u32]
  show ((a ^^^ b : Nat) : Int) % 4294967296 = ((a ^^^ b : Nat) : Int)
  omega
theorem and_u32 (a b : Nat) (ha : a < 4294967296) (hb : b < 4294967296) : bits .and .u32 (a : Int) (b : Int) = ((Nat.land a b : Nat) : Int) :=
  (bits_nat .u32 32 (by decide) (fun n h0 h1 => by rw [IntKind.wrap_u32]; omega) a b ha hb).1
theorem m32_lt (n : Nat) : m32 n < 4294967296 := Nat.mod_lt _ (by decide)
theorem xor_lt {a b : Nat} (ha : a < 4294967296) (hb : b < 4294967296) : Nat.xor a b < 4294967296 := Nat.xor_lt_two_pow (n := 32) ha hb
theorem and_lt {a b : Nat} (hb : b < 4294967296) : Nat.land a b < 4294967296 := Nat.and_lt_two_pow (n := 32) _ hb
theorem shr_lt {a : Nat} (n : Nat) (ha : a < 4294967296) : Nat.shiftRight a n < 4294967296 := by
  rw [show Nat.shiftRight a n = a / 2 ^ n from Nat.shiftRight_eq_div_pow a n]; exact Nat.lt_of_le_of_lt (Nat.div_le_self _ _) ha
theorem rotr_lt {x : Nat} (n : Nat) (hx : x < 4294967296) : rotr x n < 4294967296 :=
  Nat.or_lt_two_pow (n := 32) (shr_lt n hx) (m32_lt _)
theorem shr_val (x n : Nat) : (x : Int) / ((2 ^ n : Nat) : Int) = ((Nat.shiftRight x n : Nat) : Int) := by
  rw [show Nat.shiftRight x n = x / 2 ^ n from Nat.shiftRight_eq_div_pow x n]; simp

theorem or_add (a b i : Nat) (hb : b < 2 ^ i) : Nat.lor (a * 2 ^ i) b = a * 2 ^ i + b := by
  show a * 2 ^ i ||| b = _
  rw [Nat.mul_comm, ← Nat.two_pow_add_eq_or_of_lt hb]
theorem word_val (a b c d : Nat) (ha : a < 256) (hb : b < 256) (hc : c < 256) (hd : d < 256) :
    bits .or .u32 (bits .or .u32 (bits .or .u32 ((a : Int) * 16777216) ((b : Int) * 65536)) ((c : Int) * 256)) (d : Int) = ((a * 16777216 + b * 65536 + c * 256 + d : Nat) : Int) := by
  rw [show (a : Int) * 16777216 = ((a * 2 ^ 24 : Nat) : Int) by simp, show (b : Int) * 65536 = ((b * 65536 : Nat) : Int) by simp, show (c : Int) * 256 = ((c * 256 : Nat) : Int) by simp]
  rw [or_u32 _ _ (by omega) (by omega), or_add a (b * 65536) 24 (by omega)]
  rw [show a * 2 ^ 24 + b * 65536 = (a * 256 + b) * 2 ^ 16 by omega, or_u32 _ _ (by omega) (by omega), or_add _ (c * 256) 16 (by omega)]
  rw [show (a * 256 + b) * 2 ^ 16 + c * 256 = (a * 65536 + b * 256 + c) * 2 ^ 8 by omega, or_u32 _ _ (by omega) (by omega), or_add _ d 8 (by omega)]
  first | done | (congr 1; omega)

theorem sig0_val (x : Nat) (hx : x < 4294967296) : bits .xor .u32 (bits .xor .u32 ((rotr x 7 : Nat) : Int) ((rotr x 18 : Nat) : Int)) ((x : Int) / 8) = ((sig0 x : Nat) : Int) := by
  rw [show (x : Int) / 8 = ((Nat.shiftRight x 3 : Nat) : Int) from shr_val x 3, xor_u32 _ _ (rotr_lt 7 hx) (rotr_lt 18 hx), xor_u32 _ _ (xor_lt (rotr_lt 7 hx) (rotr_lt 18 hx)) (shr_lt 3 hx)]; rfl
theorem sig1_val (x : Nat) (hx : x < 4294967296) : bits .xor .u32 (bits .xor .u32 ((rotr x 17 : Nat) : Int) ((rotr x 19 : Nat) : Int)) ((x : Int) / 1024) = ((sig1 x : Nat) : Int) := by
  rw [show (x : Int) / 1024 = ((Nat.shiftRight x 10 : Nat) : Int) from shr_val x 10, xor_u32 _ _ (rotr_lt 17 hx) (rotr_lt 19 hx), xor_u32 _ _ (xor_lt (rotr_lt 17 hx) (rotr_lt 19 hx)) (shr_lt 10 hx)]; rfl
theorem sum0_val (x : Nat) (hx : x < 4294967296) : bits .xor .u32 (bits .xor .u32 ((rotr x 2 : Nat) : Int) ((rotr x 13 : Nat) : Int)) ((rotr x 22 : Nat) : Int) = ((sum0 x : Nat) : Int) := by
  rw [xor_u32 _ _ (rotr_lt 2 hx) (rotr_lt 13 hx), xor_u32 _ _ (xor_lt (rotr_lt 2 hx) (rotr_lt 13 hx)) (rotr_lt 22 hx)]; rfl
theorem sum1_val (x : Nat) (hx : x < 4294967296) : bits .xor .u32 (bits .xor .u32 ((rotr x 6 : Nat) : Int) ((rotr x 11 : Nat) : Int)) ((rotr x 25 : Nat) : Int) = ((sum1 x : Nat) : Int) := by
  rw [xor_u32 _ _ (rotr_lt 6 hx) (rotr_lt 11 hx), xor_u32 _ _ (xor_lt (rotr_lt 6 hx) (rotr_lt 11 hx)) (rotr_lt 25 hx)]; rfl
theorem sched_val (a b c d : Nat) : IntKind.u32.wrap (IntKind.u32.wrap (IntKind.u32.wrap ((a : Int) + (b : Int)) + (c : Int)) + (d : Int)) = ((m32 (a + b + c + d) : Nat) : Int) := by
  simp only [IntKind.wrap_u32]
  show _ = ((((a + b + c + d) % 4294967296 : Nat)) : Int)
  omega
theorem one_val (h s c k w : Nat) : IntKind.u32.wrap (IntKind.u32.wrap (IntKind.u32.wrap (IntKind.u32.wrap ((h : Int) + (s : Int)) + (c : Int)) + (k : Int)) + (w : Int)) = ((m32 (h + s + c + k + w) : Nat) : Int) := by
  simp only [IntKind.wrap_u32]
  show _ = ((((h + s + c + k + w) % 4294967296 : Nat)) : Int)
  omega
theorem add_val (a b : Nat) : IntKind.u32.wrap ((a : Int) + (b : Int)) = ((m32 (a + b) : Nat) : Int) := by
  simp only [IntKind.wrap_u32]
  show _ = ((((a + b) % 4294967296 : Nat)) : Int)
  omega
theorem not_val (e : Nat) (he : e < 4294967296) : bits .xor .u32 (if IntKind.u32.signed = true then -1 else IntKind.u32.max) (e : Int) = ((Nat.sub 4294967295 e : Nat) : Int) := by
  rw [show (if IntKind.u32.signed = true then (-1 : Int) else IntKind.u32.max) = ((4294967295 : Nat) : Int) from by decide, xor_u32 _ _ (by omega) he]
  congr 1
  show 4294967295 ^^^ e = 4294967295 - e
  have h := @BitVec.toNat_not 32 (BitVec.ofNat 32 e)
  have h2 : (~~~(BitVec.ofNat 32 e)) = BitVec.allOnes 32 ^^^ BitVec.ofNat 32 e := BitVec.not_def
  rw [h2, BitVec.toNat_xor, BitVec.toNat_allOnes, BitVec.toNat_ofNat, Nat.mod_eq_of_lt he] at h
  exact h
theorem sub_lt (e : Nat) : Nat.sub 4294967295 e < 4294967296 := Nat.lt_of_le_of_lt (Nat.sub_le _ _) (by decide)
theorem ch_val (e f g : Nat) (he : e < 4294967296) (hf : f < 4294967296) (hg : g < 4294967296) :
    bits .xor .u32 (bits .and .u32 (e : Int) (f : Int)) (bits .and .u32 (bits .xor .u32 (if IntKind.u32.signed = true then -1 else IntKind.u32.max) (e : Int)) (g : Int)) = ((chF e f g : Nat) : Int) := by
  rw [not_val e he, and_u32 _ _ he hf, and_u32 _ _ (sub_lt e) hg, xor_u32 _ _ (and_lt hf) (and_lt hg)]; rfl
theorem maj_val (a b c : Nat) (ha : a < 4294967296) (hb : b < 4294967296) (hc : c < 4294967296) :
    bits .xor .u32 (bits .xor .u32 (bits .and .u32 (a : Int) (b : Int)) (bits .and .u32 (a : Int) (c : Int))) (bits .and .u32 (b : Int) (c : Int)) = ((majF a b c : Nat) : Int) := by
  rw [and_u32 _ _ ha hb, and_u32 _ _ ha hc, and_u32 _ _ hb hc, xor_u32 _ _ (and_lt hb) (and_lt hc), xor_u32 _ _ (xor_lt (and_lt hb) (and_lt hc)) (and_lt hc)]; rfl
theorem sched_mod (a b c d : Nat) : ((a : Int) + (b : Int) + (c : Int) + (d : Int)) % 4294967296 = ((m32 (a + b + c + d) : Nat) : Int) := by
  show _ = ((((a + b + c + d) % 4294967296 : Nat)) : Int)
  omega
theorem two_mod (a b c : Nat) : ((a : Int) + ((b : Int) + (c : Int))) % 4294967296 = ((m32 (a + m32 (b + c)) : Nat) : Int) := by
  show _ = ((((a + (b + c) % 4294967296) % 4294967296 : Nat)) : Int)
  omega
theorem add_mod (a b : Nat) : ((a : Int) + (b : Int)) % 4294967296 = ((m32 (a + b) : Nat) : Int) := by
  show _ = ((((a + b) % 4294967296 : Nat)) : Int)
  omega
end Go.Proofs.YtciplabieafkcaaGreatDoor
