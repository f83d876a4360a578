/-
  Operations that make one new block; operations that read.
-/
import Derived.Test.YtciplabieafkcaaGreatDoorEvH
import Derived.MapKept
set_option linter.unusedSimpArgs false
set_option linter.unusedVariables false
namespace Go.Ev
open Go.RowKit

section
variable {P : Program} {κ : KM} {ρ ρ' : Operand → Value}

theorem elemZ_some {e : TypeId} {s : Nat} {z : List Value} (h : elemZ P e = some (s, z)) : szOf P e = some s ∧ zeroL P e = some z ∧ z.length = s := by
  unfold elemZ at h
  split at h
  · rename_i s' z' h1 h2
    split at h
    · rename_i h3
      cases h
      rw [len_eq] at h3
      exact ⟨h1, h2, Nat.eq_of_beq_eq_true h3⟩
    · cases h
  · cases h

theorem rowZ_some {e : TypeId} {n s : Nat} {zs : List Value} (h : rowZ P e n = some (s, zs)) : ∃ z, elemZ P e = some (s, z) ∧ n * s ≤ 100000 ∧ zs = (List.replicate n z).flatten := by
  unfold rowZ at h
  split at h
  · rename_i s' z hz
    split at h
    · rename_i hle
      rw [repO_eq] at h
      cases h
      exact ⟨z, hz, Nat.le_of_ble_eq_true hle, rfl⟩
    · cases h
  · cases h

theorem flatten_get {α : Type} {z : List α} (hz : 0 < z.length) : ∀ (n j : Nat), j < n * z.length → ((List.replicate n z).flatten)[j]? = z[j % z.length]?
  | 0, j, h => by omega
  | n + 1, j, h => by
    rw [List.replicate_succ, List.flatten_cons]
    by_cases hj : j < z.length
    · rw [List.getElem?_append_left hj, Nat.mod_eq_of_lt hj]
    · rw [List.getElem?_append_right (by omega), flatten_get hz n (j - z.length) (by rw [Nat.add_mul] at h; omega)]
      congr 1
      rw [Nat.mod_eq_sub_mod (by omega : z.length ≤ j)]

theorem row_eq (z : List Value) (n s : Nat) (hs : z.length = s) : ((Array.range (n * s)).map fun j => (⟨z⟩ : Array Value)[j % (⟨z⟩ : Array Value).size]!) = ⟨(List.replicate n z).flatten⟩ := by
  subst hs
  apply Array.ext
  · simp
  · intro j h1 h2
    have hj : j < n * z.length := by simpa using h1
    have hz : 0 < z.length := by
      rcases Nat.eq_zero_or_pos z.length with h | h
      · rw [h] at hj; omega
      · exact h
    have hm : j % z.length < z.length := Nat.mod_lt _ hz
    have := flatten_get hz n j hj
    rw [List.getElem?_eq_getElem hm] at this
    simp only [Array.getElem_map, Array.getElem_range]
    have e2 : (⟨(List.replicate n z).flatten⟩ : Array Value)[j]? = some z[j % z.length] := by rw [← this]; simp
    rw [Array.getElem?_eq_getElem h2] at e2
    rw [Option.some.inj e2]
    simp [getElem!_def, hm]

/-- What an operation that makes one block tells. -/
def FloatOk (P : Program) (κ : KM) (ρ' : Operand → Value) (o : Oper) (c : List Value) (vf : Nat → Value) : Prop :=
  ∃ (c' : List Value) (el : TypeId) (uf : Nat → Value), CL κ c c' ∧ (∀ w, (execOp ρ' o).run P w = .ok (.value (uf w.heap.size)) (w.alloc (.cells ⟨c'⟩ el))) ∧ ∀ (κ' : KM) (b : Nat) (e : KE), κ' b = some e → e.off = 0 → VR κ' (vf b) (uf e.blk)

theorem ptr_new (κ' : KM) (b : Nat) (e : KE) (h : κ' b = some e) (h0 : e.off = 0) : VR κ' (.pointer (some ⟨b, 0, none⟩)) (.pointer (some ⟨e.blk, 0, none⟩)) :=
  .ptr _ _ rfl ⟨e, h, by rw [h0]; simp⟩

theorem slice_new (n c : Nat) (hn : n ≤ c) (κ' : KM) (b : Nat) (e : KE) (h : κ' b = some e) (h0 : e.off = 0) : VR κ' (.slice (some ⟨b, 0, none⟩) n c) (.slice (some ⟨e.blk, 0, none⟩) n c) :=
  .slice _ _ _ _ _ hn (Nat.le_refl _) (.inl ⟨e, h, by rw [h0]; simp⟩) (.inl ⟨rfl, rfl⟩)

theorem elemOfSlice_some {t e : TypeId} (h : elemOfSlice P t = some e) : P.underlying t = some (.slice e) := by
  unfold elemOfSlice at h
  split at h
  · rename_i e' hu; cases h; exact hu
  · cases h

theorem float_ok {o : Oper} {c : List Value} {vf : Nat → Value} (hρ : ∀ x, VR κ (ρ x) (ρ' x)) (h : floatA P o ρ = some (c, vf)) : FloatOk P κ ρ' o c vf := by
  unfold floatA at h
  split at h
  · rename_i t hop
    split at h
    · rename_i z hz
      cases h
      obtain ⟨z0, h1, h2, h3⟩ := zeroL_some hz κ
      refine ⟨c, t, fun B => .pointer (some ⟨B, 0, none⟩), h3, fun w => ?_, ptr_new⟩
      rw [execOp, hop]
      simp [Instr.alloc, run_zeroV h1, newVar, newRow, h2]
    · cases h
  · rename_i t x hop
    split at h
    · rename_i l hl
      cases h
      obtain ⟨l', h1, h2⟩ := cellsO_rel hl (hρ x)
      refine ⟨l', t, fun B => .pointer (some ⟨B, 0, none⟩), h2, fun w => ?_, ptr_new⟩
      rw [execOp, hop]
      simp [Instr.box, newVar, newRow, h1]
    · cases h
  · rename_i t n parts hop
    split at h
    · rename_i l hl
      cases h
      unfold buildSliceA at hl
      split at hl
      · cases hl
      · rename_i e he
        split at hl
        · rename_i s zs hzs
          obtain ⟨z, hz, hns, rfl⟩ := rowZ_some hzs
          obtain ⟨h1, h2, h3⟩ := elemZ_some hz
          obtain ⟨z0, k1, k2, k3⟩ := zeroL_some h2 κ
          have hcl : CL κ ((List.replicate n z).flatten) ((List.replicate n z).flatten) :=
            ⟨LR.replicate k3.1 n, fun v hv => by
              obtain ⟨l, hl, hvl⟩ := List.mem_flatten.1 hv
              rw [(List.mem_replicate.1 hl).2] at hvl
              exact k3.2 v hvl⟩
          obtain ⟨r', hr, hc⟩ := fillA_rel hρ _ hl hcl
          refine ⟨r'.toList, e, fun B => .slice (some ⟨B, 0, none⟩) n n, hc, fun w => ?_, fun κ' b e h h0 => slice_new n n (Nat.le_refl _) κ' b e h h0⟩
          rw [execOp, hop]
          have e1 : (parts.map fun (x : Nat × Operand) => (x.1, ρ' x.2)).toList = parts.toList.map fun x => (x.1, ρ' x.2) := by simp
          have hbig : ¬ (n * s > 2 ^ 24) := by omega
          have hr' : Instr.fill (fun i => some (i * s, s)) ⟨(List.replicate n z).flatten⟩ (parts.map fun (x : Nat × Operand) => (x.1, ρ' x.2)).toList = some r' := by rw [e1]; exact hr
          rw [Sem.run_bind, Instr.buildSlice, Sem.run_bind, run_underlying (elemOfSlice_some he)]
          simp only [Result.andThen_ok, Sem.run_bind, run_szOf h1, if_neg hbig]
          by_cases h0 : n * s = 0
          · have e4 : (⟨(List.replicate n z).flatten⟩ : Array Value) = #[] := by rw [← row_eq z n s h3, h0]; simp
            have e5 : ∀ (f : Nat → Value), (Array.range 0).map f = #[] := by intro f; exact Array.eq_empty_of_size_eq_zero (by simp)
            rw [e4] at hr'
            simp only [h0, if_true, Sem.run_bind, Sem.run_pure, Result.andThen_ok, e5]
            rw [hr']
            simp [newRow]
          · simp only [if_neg h0]
            have e4 := row_eq z n s h3
            simp only [Sem.run_bind, run_zeroV k1, Result.andThen_ok, Sem.run_pure, k2, e4]
            rw [hr']
            simp [newRow]
        · cases hl
    · cases h
  · rename_i t l c0 hop
    have hl := hρ l
    have hc0 := hρ c0
    split at h
    · rename_i zs ln cn hm
      cases h
      unfold makeSliceA at hm
      split at hm
      · rename_i e li ci he hli hci
        split at hm
        · rename_i l' c' hl' hc'
          split at hm
          · rename_i hck
            simp only [Bool.and_eq_true] at hck
            obtain ⟨q1, q2, q3⟩ := hck
            have q1 := Nat.le_of_ble_eq_true q1
            have q2 := Nat.le_of_ble_eq_true q2
            unfold bytesOk at q3
            split at q3
            · rename_i inf hinf
              have q3 := Nat.le_of_ble_eq_true q3
              split at hm
              · rename_i s zs' hzs
                cases hm
                obtain ⟨z, hz, hns, rfl⟩ := rowZ_some hzs
                obtain ⟨h1, h2, h3⟩ := elemZ_some hz
                obtain ⟨z0, k1, k2, k3⟩ := zeroL_some h2 κ
                have hcl : CL κ ((List.replicate cn z).flatten) ((List.replicate cn z).flatten) :=
                  ⟨LR.replicate k3.1 cn, fun v hv => by
                    obtain ⟨l, hl, hvl⟩ := List.mem_flatten.1 hv
                    rw [(List.mem_replicate.1 hl).2] at hvl
                    exact k3.2 v hvl⟩
                obtain ⟨kl, el⟩ := intAt_some hli
                obtain ⟨kc, ec⟩ := intAt_some hci
                rw [el, natOf_some hl'] at hl
                rw [ec, natOf_some hc'] at hc0
                refine ⟨(List.replicate cn z).flatten, e, fun B => .slice (some ⟨B, 0, none⟩) ln cn, hcl, fun w => ?_, slice_new ln cn q1⟩
                rw [execOp, hop]
                unfold szOf at h1
                rw [hinf] at h1
                cases h1
                unfold zeroV at k1
                rw [hinf] at k1
                have := run_makeSlice (P := P) w t e inf z0 (elemOfSlice_some he) hinf k1 kl kc (ln : Int) (cn : Int) (by omega) (by omega) (by simpa using (by omega : cn * inf.size ≤ 16777216))
                  (by have : inf.bytes * cn ≤ 1000000 * 100000 := Nat.mul_le_mul q3 q2
                      have h4 : ((inf.bytes * cn : Nat) : Int) ≤ 281474976710656 := by omega
                      rwa [Int.natCast_mul] at h4) (by omega)
                rw [Sem.run_bind, hl.int_inv, hc0.int_inv, this]
                simp only [Int.toNat_natCast, madeCells, k2, row_eq z cn inf.size h3, Result.andThen_ok, Sem.run_pure]
              · cases hm
            · cases q3
          · cases hm
        · cases hm
      · cases hm
    · cases h
  · cases h

end
end Go.Ev
