/-
  The walk over the program's 'Fair'.
-/
import Derived.Test.YtmmmkinbfnakmaaWalks3
namespace Go.Proofs.Ytmmmkinbfnakmaa
open Go.RowKit Go.Maps

set_option maxHeartbeats 400000 in
theorem fair_low (v : Value) (t k : Int) (w : World) (hk : k < 1) :
    Calls Try.prog 4 #[v, .int .i64 t, .int .i64 k] w fun e w' => e = .returned (.bool false) ∧ Below w.heap.size w w' := by
  have hmm := @run_makeMap Try.prog
  go_enter Try.func4, Try.ntmps4
  go_wp2
  refine wp_loop_rounds 1 ?_
  rw [rounds_succ]
  go_wp2
  go_ret
  exact ⟨rfl, (Below.refl _ _).alloc (Nat.le_refl _) _⟩

theorem fair_none (a : Option Addr) (len cap : Nat) (t k : Int) (w : World) (hm : len ≤ 40) (hk : (len : Int) < k) (hk' : k ≤ 9223372036854775807) :
    Calls Try.prog 4 #[.slice a len cap, .int .i64 t, .int .i64 k] w fun e w' => e = .returned (.bool true) ∧ Below w.heap.size w w' := by
  have h1 : 1 ≤ k := by omega
  have hmm := @run_makeMap Try.prog
  go_enter Try.func4, Try.ntmps4
  go_wp2
  refine wp_loop_rounds 1 ?_
  rw [rounds_succ]
  go_wp2
  go_ret
  exact ⟨rfl, (Below.refl _ _).alloc (Nat.le_refl _) _⟩

theorem wf_getD {zs : List Int} (hwz : ∀ n ∈ zs, (Lit.int .i64 n).wf = true) (k : Nat) : (Lit.int .i64 (zs.getD k 0)).wf = true := by
  by_cases hk : k < zs.length
  · rw [List.getD, List.getElem?_eq_getElem hk]
    exact hwz _ (List.getElem_mem hk)
  · rw [List.getD, List.getElem?_eq_none (by omega)]
    decide

theorem win_take_snoc (zs : List Int) (j c : Nat) (h : j + c < zs.length) : (win zs j).take (c + 1) = (win zs j).take c ++ [zs.getD (j + c) 0] := by
  rw [List.take_succ_eq_append_getElem (by simp [win]; omega)]
  simp [win, List.getD, h]

theorem tells_win {D : DataW Unit} {zs : List Int} {j c : Nat} {q : Int} (hT : Tells D ((win zs j).take c)) (h : j + c < zs.length) (hs : c ≤ 40)
    (hat : D.atKey (.int .i64 (zs.getD (j + c) 0)) (.lit (.int .i64 0)) = .lit (.int .i64 q)) :
    Tells (D.put (.int .i64 (zs.getD (j + c) 0)) (.lit (.int .i64 (wrap64 (q + 1))))) ((win zs j).take (c + 1)) := by
  have hq := tells_at hT hat
  have hl := List.count_le_length (a := zs.getD (j + c) 0) (l := (win zs j).take c)
  rw [List.length_take] at hl
  rw [win_take_snoc zs j c h, show wrap64 (q + 1) = q + 1 from by unfold wrap64; omega]
  exact tells_snoc hT _ _ hat

theorem wf_nat (q : Nat) (h : (q : Int) ≤ 20) : (Lit.int .i64 (q : Int)).wf = true := WalkArith.wf_i64 (by omega)

theorem zero_of_has {D : DataW Unit} {zs : List Int} {c : Nat} {q x : Int} (hT : Tells D (zs.take c)) (hat : D.atKey (.int .i64 q) (.lit (.int .i64 0)) = .lit (.int .i64 x)) : (x == 0) = !hasB zs c q := by
  have hx := tells_at hT hat
  have hc := count_has zs c q
  rw [← hx] at hc
  cases h : hasB zs c q with
  | true => rw [h] at hc; simp at hc; simp [hc]
  | false => rw [h] at hc; simp at hc; simp [hc]

set_option maxHeartbeats 1000000 in
theorem fair_some (b off len cap k : Nat) (t : Int) (zs : List Int) (w : World) (hm : len ≤ 40) (hlc : len ≤ cap) (hz : len ≤ zs.length) (h1 : 1 ≤ k) (hkl : k ≤ len) (ht0 : -20 ≤ t) (ht : t ≤ 20) (hb : b < w.heap.size)
    (hc : ∀ j, j < zs.length → w.cell? ⟨b, off + j, none⟩ = some (.int .i64 (zs.getD j 0))) (hwz : ∀ n ∈ zs, (Lit.int .i64 n).wf = true) :
    Calls Try.prog 4 #[.slice (some ⟨b, off, none⟩) len cap, .int .i64 t, .int .i64 (k : Int)] w fun e w' => e = .returned (.bool (fairB zs len k t.toNat)) ∧ Below w.heap.size w w' := by
  have hmm := @run_makeMap Try.prog
  go_enter Try.func4, Try.ntmps4
  go_wp2
  clear hmm
  go_loopw [8] (fun i wr => ∃ j n : Nat, ∃ D : DataW Unit, j ≤ len + 1 - k ∧ i = .int .i64 j ∧ fairTo zs k t.toNat j = true ∧ wr.ownsMap Try.prog 3 (plainElem Try.prog 3) w.heap.size n D ∧ Below w.heap.size w wr)
    (fun i _ => len + 1 - k - (intOf i).toNat)
  case atStart => exact ⟨0, 0, _, Nat.zero_le _, rfl, fairTo_zero _ _ _, World.ownsMap_made _ _ _ _, (Below.refl _ _).alloc (Nat.le_refl _) _⟩
  case round =>
    obtain ⟨j, n, D, hj, rfl, hno0, hown, hnx⟩ := hrel
    have hno := Lib.hid hno0
    have HC := Lib.hid hc
    have HW := Lib.hid hwz
    clear hno0 hc hwz
    by_cases hlt : j < len + 1 - k
    · have hjl : j < cap := by omega
      have hjk : j + k ≤ len := by omega
      go_wp2_with (with_reducible refine wpList_clear_own _ rfl (.tmp 25) 24 rfl 3 3 Try.underlying24 _ _ _ _ rfl hown ?_)
      intro w1 hown1 hgrow1
      have hnx1 := hnx.grown hgrow1 hnx.size (fun j hj => by cases hj; exact Nat.le_refl _)
      clear hown hgrow1 hnx
      go_wp2
      rw [show j + k - j = k from by omega]
      go_loopw [33] (fun i wr => ∃ c : Nat, ∃ D : DataW Unit, c ≤ k ∧ i = .int .i64 c ∧ Tells D ((win zs j).take c) ∧ wr.ownsMap Try.prog 3 (plainElem Try.prog 3) w.heap.size c D ∧ Below w.heap.size w wr)
        (fun i _ => k - (intOf i).toNat)
      case atStart => exact ⟨0, _, Nat.zero_le _, rfl, tells_nil, hown1, hnx1⟩
      case round =>
        clear hown1 hnx1
        obtain ⟨c, D1, hck, rfl, hT, hown2, hnx2⟩ := hrel
        by_cases hclt : c < k
        · have hcell : wr.cell? ⟨b, off + j + c, none⟩ = some (.int .i64 (zs.getD (j + c) 0)) := by
            rw [hnx2.cell (by exact hb), Nat.add_assoc]; exact HC.out (j + c) (by omega)
          have hkey : keyOf Try.prog 3 (.int .i64 (zs.getD (j + c) 0)) = some (.int .i64 (zs.getD (j + c) 0)) := keyOf_int_mk Try.underlying3 (wf_getD HW.out _)
          go_wp2_with (first
            | (at_lookup; refine wpList_lookup_own_int _ rfl _ _ 24 rfl 3 3 .i64 law3 Try.underlying24 Try.underlying3 (zero3 _) w.heap.size _ _ rfl hown2 _ _ rfl hkey ?_; intro q hat hwc)
            | (at_mapUpdate; refine wpList_mapUpdate_own _ rfl _ _ _ 24 rfl 3 3 law3 Try.underlying24 _ w.heap.size _ _ rfl hown2 (by unfold maxLen; omega) _ _ _ rfl rfl hkey _ [] (plainElem_int Try.underlying3 (wrap64_wf _)) ?_; intro w3 hown3 hgrow3))
          have hnx3 := hnx2.grown hgrow3 hnx2.size (fun j hj => by cases hj; exact Nat.le_refl _)
          have hrel3 := tells_win hT (by omega) (by omega) hat
          go_roundw
          case rel => exact ⟨c + 1, _, by omega, by go_num, hrel3, hown3, hnx3⟩
          case measure => simp [intOf]; omega
        · have hck' : c = k := by omega
          subst hck'
          go_wp2
          go_loop [43] (fun m => ∃ q : Nat, (q : Int) ≤ 20 ∧ q ≤ t.toNat ∧ m = .int .i64 q ∧ winOk zs j c q = true) (fun m => t.toNat - (intOf m).toNat)
          case atStart => exact ⟨0, by omega, by omega, rfl, winOk_zero _ _ _⟩
          case round =>
            obtain ⟨q, hq20, hqt, rfl, hok0⟩ := hrel
            have hok := Lib.hid hok0
            clear hok0
            by_cases hqlt : (q : Int) < t
            · have hkey : keyOf Try.prog 3 (.int .i64 (q : Int)) = some (.int .i64 (q : Int)) := keyOf_int_mk Try.underlying3 (wf_nat q hq20)
              cases hh : hasB (win zs j) c q with
              | true =>
                have HT : Hid (winOk zs j c (q + 1) = true) := by
                  show winOk zs j c (q + 1) = true
                  rw [winOk_succ, hok.out, hh]; rfl
                have HH := Lib.hid hh
                clear hh
                go_wp2_with (at_lookup; refine wpList_lookup_own_int _ rfl _ _ 24 rfl 3 3 .i64 law3 Try.underlying24 Try.underlying3 (zero3 _) w.heap.size _ _ rfl hown2 _ _ rfl hkey ?_; intro x hat hwc; have hx := zero_of_has hT hat; rw [HH.out] at hx; clear hat hwc)
                go_round
                case rel => exact ⟨q + 1, by omega, by omega, by go_num, HT.out⟩
                case measure => simp [intOf]; omega
              | false =>
                have HF := Lib.hid (fairB_false (len := len) (m := t.toNat) hlt (by omega) hh)
                have HH := Lib.hid hh
                clear hh
                go_wp2_with (at_lookup; refine wpList_lookup_own_int _ rfl _ _ 24 rfl 3 3 .i64 law3 Try.underlying24 Try.underlying3 (zero3 _) w.heap.size _ _ rfl hown2 _ _ rfl hkey ?_; intro x hat hwc; have hx := zero_of_has hT hat; rw [HH.out] at hx; clear hat hwc)
                go_ret
                exact ⟨ret_bool HF.out.symm, hnx2⟩
            · have hmt' : q = t.toNat := by omega
              have HT : Hid (fairTo zs c t.toNat (j + 1) = true) := by
                show fairTo zs c t.toNat (j + 1) = true
                rw [fairTo_succ, hno.out, ← hmt']
                exact hok.out
              clear hmt'
              go_wp2
              go_roundw
              case rel => exact ⟨j + 1, _, _, by omega, by go_num, HT.out, hown2, hnx2⟩
              case measure => simp [intOf]; omega
    · have hkl' : j = len + 1 - k := by omega
      have HT : Hid (fairB zs len k t.toNat = true) := by
        show fairTo zs k t.toNat (len + 1 - k) = true
        rw [← hkl']; exact hno.out
      clear hkl'
      go_wp2
      go_ret
      exact ⟨ret_bool HT.out.symm, hnx⟩

end Go.Proofs.Ytmmmkinbfnakmaa
