/-
  The walk over the reference's 'Fair': for k below 1 false, else whether each window of k picks has each task's number.
-/
import Derived.Test.YtmmmkinbfnakmaaWalks1
import Derived.WalkSpells
namespace Go.Proofs.Ytmmmkinbfnakmaa
open Go.RowKit

/-- The window of k picks at i. -/
def win (zs : List Int) (i : Nat) : List Int := zs.drop i
/-- Has the window of k picks at i each number below m? -/
def winOk (zs : List Int) (i k m : Nat) : Bool := (List.range m).all fun n => hasB (win zs i) k n
/-- Have the first j windows each number below m? -/
def fairTo (zs : List Int) (k m j : Nat) : Bool := (List.range j).all fun i => winOk zs i k m
/-- Whether picks are fair, k being 1 or more. -/
def fairB (zs : List Int) (len k m : Nat) : Bool := fairTo zs k m (len + 1 - k)

theorem winOk_zero (zs : List Int) (i k : Nat) : winOk zs i k 0 = true := rfl
theorem winOk_succ (zs : List Int) (i k m : Nat) : winOk zs i k (m + 1) = (winOk zs i k m && hasB (win zs i) k m) := by
  simp [winOk, List.range_succ, List.all_append]
theorem fairTo_zero (zs : List Int) (k m : Nat) : fairTo zs k m 0 = true := rfl
theorem fairTo_succ (zs : List Int) (k m j : Nat) : fairTo zs k m (j + 1) = (fairTo zs k m j && winOk zs j k m) := by
  simp [fairTo, List.range_succ, List.all_append]
theorem winOk_false {zs : List Int} {i k m n : Nat} (hn : n < m) (h : hasB (win zs i) k n = false) : winOk zs i k m = false := by
  unfold winOk
  rw [List.all_eq_false]
  exact ⟨n, List.mem_range.2 hn, by simp [h]⟩
theorem fairTo_false {zs : List Int} {k m j i : Nat} (hi : i < j) (h : winOk zs i k m = false) : fairTo zs k m j = false := by
  unfold fairTo
  rw [List.all_eq_false]
  exact ⟨i, List.mem_range.2 hi, by simp [h]⟩
theorem fairB_false {zs : List Int} {len k m i n : Nat} (hi : i < len + 1 - k) (hn : n < m) (h : hasB (win zs i) k n = false) : fairB zs len k m = false := fairTo_false hi (winOk_false hn h)

theorem win_get (zs : List Int) (i j : Nat) : (win zs i).getD j 0 = zs.getD (i + j) 0 := by
  simp [win, List.getD, List.getElem?_drop]

/-- 'has' at a window. -/
theorem has_win (b off cap i k : Nat) (zs : List Int) (n : Int) (w : World) (hk : k ≤ 9223372036854775807) (hz : i + k ≤ zs.length)
    (hc : ∀ j, j < zs.length → w.cell? ⟨b, off + j, none⟩ = some (.int .i64 (zs.getD j 0))) :
    Calls Try.prog 6 #[.slice (some ⟨b, off + i, none⟩) k cap, .int .i64 n] w fun e w' => e = .returned (.bool (hasB (win zs i) k n)) ∧ w = w' :=
  has_some b (off + i) k cap (win zs i) n w hk (by simp [win]; omega) fun j hj => by
    rw [win_get, Nat.add_assoc]; exact hc _ (by simp [win] at hj; omega)

set_option maxHeartbeats 400000 in
theorem reffair_low (v : Value) (t k : Int) (w : World) (hk : k < 1) :
    Calls Try.prog 5 #[v, .int .i64 t, .int .i64 k] w fun e w' => e = .returned (.bool false) ∧ w = w' := by
  go_enter Try.func5, Try.ntmps5
  go_wp2
  go_ret
  exact ⟨rfl, rfl⟩

/-- No window: k is above the length. -/
theorem reffair_none (a : Option Addr) (len cap : Nat) (t k : Int) (w : World) (hm : len ≤ 40) (hk : (len : Int) < k) (hk' : k ≤ 9223372036854775807) :
    Calls Try.prog 5 #[.slice a len cap, .int .i64 t, .int .i64 k] w fun e w' => e = .returned (.bool true) ∧ w = w' := by
  have h1 : 1 ≤ k := by omega
  go_enter Try.func5, Try.ntmps5
  go_wp2
  refine wp_loop_rounds 1 ?_
  rw [rounds_succ]
  go_wp2
  go_ret
  exact ⟨rfl, rfl⟩

set_option maxHeartbeats 400000 in
theorem reffair_some (b off len cap k : Nat) (t : Int) (zs : List Int) (w : World) (hm : len ≤ 40) (hlc : len ≤ cap) (hz : len ≤ zs.length) (h1 : 1 ≤ k) (hkl : k ≤ len) (ht0 : -20 ≤ t) (ht : t ≤ 20)
    (hc : ∀ j, j < zs.length → w.cell? ⟨b, off + j, none⟩ = some (.int .i64 (zs.getD j 0))) :
    Calls Try.prog 5 #[.slice (some ⟨b, off, none⟩) len cap, .int .i64 t, .int .i64 (k : Int)] w fun e w' => e = .returned (.bool (fairB zs len k t.toNat)) ∧ w = w' := by
  go_enter Try.func5, Try.ntmps5
  go_wp2
  go_loop [7, 8] (fun i _ => ∃ j : Nat, j ≤ len + 1 - k ∧ i = .int .i64 j ∧ fairTo zs k t.toNat j = true) (fun i _ => len + 1 - k - (intOf i).toNat)
  case atStart => exact ⟨0, Nat.zero_le _, rfl, fairTo_zero _ _ _⟩
  case round =>
    obtain ⟨j, hj, rfl, hno0⟩ := hrel
    have hno := Lib.hid hno0
    have HC := Lib.hid hc
    clear hno0 hc
    by_cases hlt : j < len + 1 - k
    · have hjl : j < cap := by omega
      have hjk : j + k ≤ len := by omega
      go_wp2
      go_loop [8] (fun n => ∃ m : Nat, (m : Int) ≤ 20 ∧ (m ≤ t.toNat) ∧ n = .int .i64 m ∧ winOk zs j k m = true) (fun n => t.toNat - (intOf n).toNat)
      case atStart => exact ⟨0, by omega, by omega, rfl, winOk_zero _ _ _⟩
      case round =>
        obtain ⟨m, hm20, hmt, rfl, hok0⟩ := hrel
        have hok := Lib.hid hok0
        clear hok0
        by_cases hmlt : (m : Int) < t
        · cases hh : hasB (win zs j) k m with
          | true =>
            have HT : Hid (winOk zs j k (m + 1) = true) := by
              show winOk zs j k (m + 1) = true
              rw [winOk_succ, hok.out, hh]; rfl
            have HH := Lib.hid hh
            clear hh
            go_wp2_with fail
            refine (has_win b off _ j k zs _ _ (by omega) (by omega) HC.out).mono ?_
            rintro e w' ⟨rfl, rfl⟩
            rw [HH.out]
            go_wp2
            go_round
            case rel => exact ⟨m + 1, by omega, by omega, by go_num, HT.out⟩
            case measure => simp [intOf]; omega
          | false =>
            have HF := Lib.hid (fairB_false (len := len) (m := t.toNat) hlt (by omega) hh)
            have HH := Lib.hid hh
            clear hh
            go_wp2_with fail
            refine (has_win b off _ j k zs _ _ (by omega) (by omega) HC.out).mono ?_
            rintro e w' ⟨rfl, rfl⟩
            rw [HH.out]
            go_wp2
            go_ret
            exact ⟨ret_bool HF.out.symm, rfl⟩
        · have hmt' : m = t.toNat := by omega
          have HT : Hid (fairTo zs k t.toNat (j + 1) = true) := by
            show fairTo zs k t.toNat (j + 1) = true
            rw [fairTo_succ, hno.out, ← hmt']
            exact hok.out
          clear hmt'
          go_wp2
          go_round
          case rel => exact ⟨j + 1, by omega, by go_num, HT.out⟩
          case measure => simp [intOf]; omega
    · have hkl' : j = len + 1 - k := by omega
      have HT : Hid (fairB zs len k t.toNat = true) := by
        show fairTo zs k t.toNat (len + 1 - k) = true
        rw [← hkl']; exact hno.out
      clear hkl'
      go_wp2
      go_ret
      exact ⟨ret_bool HT.out.symm, rfl⟩

end Go.Proofs.Ytmmmkinbfnakmaa
