/-
  The walks over the reference's functions 'has' and 'Fair': what each call answers, on a slice that reads as a list of numbers.
-/
import Derived.Test.YtmmmkinbfnakmaaRows
import Derived.WalkKit
import Derived.Lib.Hide
namespace Go.Proofs.Ytmmmkinbfnakmaa
open Go.RowKit

theorem ret_bool {a b : Bool} (h : a = b) : Ending.returned (.bool a) = .returned (.bool b) := by rw [h]

/-- Is n among the first k numbers? -/
def hasB (zs : List Int) (k : Nat) (n : Int) : Bool := (zs.take k).contains n

theorem hasB_zero (zs : List Int) (n : Int) : hasB zs 0 n = false := by simp [hasB]

theorem hasB_succ (zs : List Int) (k : Nat) (n : Int) (h : k < zs.length) : hasB zs (k + 1) n = (hasB zs k n || (zs[k]?.getD 0 == n)) := by
  have hg : zs[k]?.getD 0 = zs[k] := by simp [h]
  rw [hg, Bool.eq_iff_iff]
  unfold hasB
  rw [List.take_succ_eq_append_getElem h, Bool.or_eq_true, List.contains_iff_mem, List.contains_iff_mem, List.mem_append, List.mem_singleton, beq_iff_eq, eq_comm (a := n)]

theorem hasB_true (zs : List Int) (k len : Nat) (n : Int) (hk : k < len) (hl : len ≤ zs.length) (h : (zs[k]?.getD 0 == n) = true) : hasB zs len n = true := by
  have hk' : k < zs.length := by omega
  unfold hasB
  rw [List.contains_iff_mem]
  have e : zs[k] = n := by simpa [hk'] using h
  rw [← e]
  exact List.mem_take_iff_getElem.2 ⟨k, by omega, rfl⟩

set_option maxHeartbeats 400000 in
theorem has_some (b off len cap : Nat) (zs : List Int) (n : Int) (w : World) (hm : len ≤ 9223372036854775807) (hz : len ≤ zs.length)
    (hc : ∀ j, j < zs.length → w.cell? ⟨b, off + j, none⟩ = some (.int .i64 (zs.getD j 0))) :
    Calls Try.prog 6 #[.slice (some ⟨b, off, none⟩) len cap, .int .i64 n] w fun e w' => e = .returned (.bool (hasB zs len n)) ∧ w = w' := by
  go_enter Try.func6, Try.ntmps6
  go_wp2
  go_loop [5] (fun i => ∃ k : Nat, k ≤ len ∧ i = .int .i64 k ∧ hasB zs k n = false) (fun i => len - (intOf i).toNat)
  case atStart => exact ⟨0, Nat.zero_le _, rfl, hasB_zero _ _⟩
  case round =>
    obtain ⟨k, hk, rfl, hno0⟩ := hrel
    have hno := Lib.hid hno0
    clear hno0
    by_cases hlt : k < len
    · have hcell : w.cell? ⟨b, off + k, none⟩ = some (.int .i64 (zs.getD k 0)) := hc k (by omega)
      cases ht : (zs[k]?.getD 0 == n) with
      | true =>
        have HT := Lib.hid (hasB_true zs k len n hlt hz ht)
        clear hc
        go_wp2
        go_ret
        exact ⟨ret_bool HT.out.symm, rfl⟩
      | false =>
        have HF : Hid (hasB zs (k + 1) n = false) := by
          show hasB zs (k + 1) n = false
          rw [hasB_succ zs k n (by omega), hno.out, ht]; rfl
        clear hc
        go_wp2
        go_round
        case rel => exact ⟨k + 1, by omega, by go_num, HF.out⟩
        case measure => simp [intOf]; omega
    · have hkl : len = k := by omega
      subst hkl
      clear hc
      go_wp2
      go_ret
      exact ⟨ret_bool hno.out.symm, rfl⟩

end Go.Proofs.Ytmmmkinbfnakmaa
