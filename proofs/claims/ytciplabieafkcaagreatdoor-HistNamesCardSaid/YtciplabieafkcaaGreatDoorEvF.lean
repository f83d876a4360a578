/-
  Each operation that leaves the world: what the evaluator tells of it is what the machine's does.
-/
import Derived.Test.YtciplabieafkcaaGreatDoorEvE
set_option linter.unusedSimpArgs false
set_option linter.unusedVariables false
namespace Go.Ev
open Go.RowKit

section
variable {P : Program} {w : World}

theorem run_szOf {t : TypeId} {n : Nat} (h : szOf P t = some n) (w : World) : (sizeOf t).run P w = .ok n w := by
  unfold szOf at h
  split at h
  · rename_i i hi; cases h; simp [sizeOf, typeInfo, hi]
  · cases h

theorem run_isAggT {t : TypeId} {b : Bool} (h : isAggT P t = some b) (w : World) : (isAgg t).run P w = .ok b w := by
  unfold isAggT at h
  split at h
  · rename_i hu; cases h; simp [isAgg, run_underlying hu]
  · rename_i hu; cases h; simp [isAgg, run_underlying hu]
  · rename_i d h1 h2 hu
    cases h
    rw [isAgg, Sem.run_bind, run_underlying hu]
    cases d <;> first | rfl | (exfalso; first | exact h1 _ rfl | exact h2 _ _ rfl)
  · cases h

theorem run_zeroV {t : TypeId} {v : Value} (h : zeroV P t = some v) (w : World) : (zeroValue t).run P w = .ok v w := by
  unfold zeroV at h
  split at h
  · rename_i i hi; simp [zeroValue, typeInfo, hi, h]
  · cases h

theorem zeroL_some {t : TypeId} {l : List Value} (h : zeroL P t = some l) (κ : KM) : ∃ v, zeroV P t = some v ∧ v.cells = ⟨l⟩ ∧ CL κ l l := by
  unfold zeroL at h
  split at h
  · rename_i i hi
    split at h
    · rename_i v hv
      split at h
      · rename_i hf
        exact ⟨v, by simp [zeroV, hi, hv], (cellsO_flat hf h κ).1, (cellsO_flat hf h κ).2⟩
      · cases h
    · cases h
  · cases h

theorem purely_run {α : Type} {s : Sem α} {a : α} (h : purely P s = some a) (w : World) : s.run P w = .ok a w := by
  unfold purely at h
  split at h
  · cases h; rfl
  · rename_i k
    split at h
    · rename_i hk; cases h; simp [Sem.run, hk]
    · cases h
  · cases h

theorem flatO_some {o : Option Value} {v : Value} (h : flatO o = some v) : o = some v ∧ flatV v = true := by
  unfold flatO at h
  split at h
  · split at h
    · rename_i hf; cases h; exact ⟨rfl, hf⟩
    · cases h
  · cases h

theorem blt_lt {a b : Nat} (h : Nat.blt a b = true) : a < b := by rwa [Nat.blt_eq] at h

theorem natOf_some {n : Int} {m : Nat} (h : natOf n = some m) : n = (m : Int) := by
  unfold natOf at h
  split at h
  · cases h; rfl
  · cases h

theorem intAt_some {v : Value} {n : Int} (h : intAt v = some n) : ∃ k, v = .int k n := by
  unfold intAt at h
  split at h
  · cases h; exact ⟨_, rfl⟩
  · cases h

theorem addrOf_some {v : Value} {b o : Nat} (h : addrOf v = some (b, o)) : v = .pointer (some ⟨b, o, none⟩) := by
  unfold addrOf at h
  split at h
  · cases h; rfl
  · cases h

theorem fieldOf_some {t : TypeId} {i : Nat} {f : Field} (h : fieldOf P t i = some f) : ∃ fs : Array Field, P.underlying t = some (.struct fs) ∧ fs[i]? = some f := by
  unfold fieldOf at h
  split at h
  · rename_i fs hu; rw [lget_eq] at h; exact ⟨fs, hu, by simpa using h⟩
  · cases h

/-- A part of cells. -/
theorem partA_rel {κ : KM} {t : TypeId} {l l' : List Value} {off : Nat} {v : Value} (h : partA P t l off = some v) (hl : CL κ l l') :
    ∃ v', (∀ w, (part t ⟨l'⟩ off).run P w = .ok v' w) ∧ VR κ v v' := by
  unfold partA at h
  split at h
  · rename_i ha
    split at h
    · rename_i n hn
      split at h
      · rename_i r hr
        cases h
        rw [drop_eq] at hr
        obtain ⟨h1, rfl⟩ := takeO_some hr
        refine ⟨.agg ⟨(l'.drop off).take n⟩, fun w => ?_, VR.agg' ⟨(hl.1.drop off).take n, fun x hx => hl.2 x (List.mem_of_mem_drop (List.mem_of_mem_take hx))⟩⟩
        have e : (⟨l'⟩ : Array Value).extract off (off + n) = ⟨(l'.drop off).take n⟩ := by
          apply Array.ext'
          simp [List.extract_eq_take_drop]
        simp [part, run_isAggT ha, run_szOf hn, e]
      · cases h
    · cases h
  · rename_i ha
    rw [lget_eq] at h
    obtain ⟨v', h1, h2⟩ := hl.1.get h
    refine ⟨v', fun w => ?_, h2⟩
    simp [part, run_isAggT ha, h1]
  · cases h

theorem run_asAddr (a : Addr) (w : World) : (Instr.sureAddr (.pointer (some a))).run P w = .ok a w := rfl

/-! ### filling a value's parts -/
theorem foldl_set (off : Nat) : ∀ (vs : List Value) (k : Nat) (cs : Array Value), off + k + vs.length ≤ cs.size →
    ((vs.zipIdx k).foldl (fun (cs : Array Value) (x : Value × Nat) => cs.setIfInBounds (off + x.2) x.1) cs).size = cs.size ∧
    ∀ m, ((vs.zipIdx k).foldl (fun (cs : Array Value) (x : Value × Nat) => cs.setIfInBounds (off + x.2) x.1) cs)[m]? = if off + k ≤ m ∧ m < off + k + vs.length then vs[m - (off + k)]? else cs[m]?
  | [], k, cs, _ => by
    refine ⟨rfl, fun m => ?_⟩
    rw [if_neg (by simp)]; rfl
  | v :: vs, k, cs, h => by
    simp only [List.length_cons] at h
    obtain ⟨h1, h2⟩ := foldl_set off vs (k + 1) (cs.setIfInBounds (off + k) v) (by simp; omega)
    refine ⟨by rw [List.zipIdx_cons, List.foldl_cons, h1]; simp, fun m => ?_⟩
    rw [List.zipIdx_cons, List.foldl_cons, h2 m]
    by_cases hm : m = off + k
    · subst hm
      rw [if_neg (by omega), if_pos (by simp), Array.getElem?_setIfInBounds_self_of_lt (by omega)]
      simp
    · rw [Array.getElem?_setIfInBounds_ne (by omega)]
      by_cases hc : off + k < m ∧ m < off + k + (vs.length + 1)
      · rw [if_pos (by omega), if_pos (by simp; omega), show m - (off + k) = m - (off + (k + 1)) + 1 from by omega, List.getElem?_cons_succ]
      · rw [if_neg (by omega), if_neg (by simp; omega)]

theorem CL.set {κ : KM} {l l' vs vs' r : List Value} {r' : Array Value} {off : Nat} (hl : CL κ l l') (hv : CL κ vs vs') (hr : r.length = l.length) (hr2 : ∀ j, r[j]? = if off ≤ j ∧ j < off + vs.length then vs[j - off]? else l[j]?)
    (hr' : r'.size = l'.length) (hr2' : ∀ j, r'[j]? = if off ≤ j ∧ j < off + vs'.length then vs'[j - off]? else l'[j]?) : CL κ r r'.toList := by
  refine ⟨⟨by rw [hr, hl.1.1]; simpa using hr'.symm, fun i v v' a b => ?_⟩, fun v' hv' => ?_⟩
  · rw [hr2] at a
    rw [Array.getElem?_toList, hr2', ← hv.1.1] at b
    split at a
    · rename_i hc; rw [if_pos hc] at b; exact hv.1.2 _ v v' a b
    · rename_i hc; rw [if_neg hc] at b; exact hl.1.2 _ v v' a b
  · obtain ⟨i, hi⟩ := List.getElem?_of_mem hv'
    rw [Array.getElem?_toList, hr2'] at hi
    split at hi
    · exact hv.2 v' (List.mem_of_getElem? hi)
    · exact hl.2 v' (List.mem_of_getElem? hi)

theorem fillA_rel {κ : KM} {ρ ρ' : Operand → Value} (hρ : ∀ x, VR κ (ρ x) (ρ' x)) {place : Nat → Option (Nat × Nat)} : ∀ (parts : List (Nat × Operand)) {cells r cells' : List Value},
    fillA place cells ρ parts = some r → CL κ cells cells' → ∃ r' : Array Value, Instr.fill place ⟨cells'⟩ (parts.map fun x => (x.1, ρ' x.2)) = some r' ∧ CL κ r r'.toList
  | [], cells, r, cells', h, hc => by cases h; exact ⟨⟨cells'⟩, rfl, hc⟩
  | (i, x) :: parts, cells, r, cells', h, hc => by
    unfold fillA at h
    split at h
    · cases h
    · rename_i off size hp
      split at h
      · cases h
      · rename_i l hl
        split at h
        · cases h
        · rename_i hs
          rw [len_eq] at hs
          have hs := Nat.eq_of_beq_eq_true hs
          split at h
          · rename_i c hsp
            obtain ⟨l', hl', hcl⟩ := cellsO_rel hl (hρ x)
            obtain ⟨g1, g2, g3⟩ := spliceO_some hsp
            have hll := hcl.1.1
            have hcc := hc.1.1
            obtain ⟨k1, k2⟩ := foldl_set off l' 0 ⟨cells'⟩ (by show off + 0 + l'.length ≤ cells'.length; omega)
            obtain ⟨r', hr', hrr⟩ := fillA_rel hρ parts h (hc.set (off := off) hcl g2 (fun j => by rw [g3 j]) (r' := (l'.zipIdx 0).foldl (fun (cs : Array Value) (x : Value × Nat) => cs.setIfInBounds (off + x.2) x.1) ⟨cells'⟩) k1 (fun j => by
              rw [k2 j, Nat.add_zero]; simp))
            refine ⟨r', ?_, hrr⟩
            rw [List.map_cons, Instr.fill, hp]
            dsimp only
            rw [hl']
            rw [if_neg (by simp; omega)]
            rw [← hr']
            congr 1
            apply Array.ext'
            rw [← Array.foldl_toList]
            simp
          · cases h

end
end Go.Ev
