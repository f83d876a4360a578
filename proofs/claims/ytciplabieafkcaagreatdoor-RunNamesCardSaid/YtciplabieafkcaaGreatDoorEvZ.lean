/-
  A closed call that the evaluator reckons to true: from a world in which some variables are laid.
-/
import Derived.Test.YtciplabieafkcaaGreatDoorEvY
set_option linter.unusedSimpArgs false
set_option linter.unusedVariables false
namespace Go.Ev
open Go.RowKit

/-- A variable's cells in a world. -/
def LaidAt (w : World) (g : Nat) (c : List Value) : Prop := c ≠ [] ∧ (∀ v ∈ c, flat1 v = true) ∧ ∀ (j : Nat) (v : Value), c[j]? = some v → w.cell? ⟨g, j, none⟩ = some v

theorem LaidAt.block {w : World} {g : Nat} {c : List Value} (h : LaidAt w g c) : ∃ cs el fr, w.heap[g]? = some (.cells cs el fr) ∧ c.length ≤ cs.size ∧ ∀ (j : Nat) (v : Value), c[j]? = some v → cs[j]? = some v := by
  obtain ⟨h1, -, h3⟩ := h
  have hcell : ∀ (j : Nat) (v : Value), c[j]? = some v → ∃ cs el fr, w.heap[g]? = some (.cells cs el fr) ∧ cs[j]? = some v := by
    intro j v hj
    have := h3 j v hj
    unfold World.cell? at this
    simp only at this
    split at this
    · rename_i cs el fr hb
      exact ⟨cs, el, fr, hb, this⟩
    · cases this
  obtain ⟨x, r, rfl⟩ := List.exists_cons_of_ne_nil h1
  obtain ⟨cs, el, fr, hb, -⟩ := hcell 0 x rfl
  have hall : ∀ (j : Nat) (v : Value), (x :: r)[j]? = some v → cs[j]? = some v := fun j v hj => by
    obtain ⟨cs', el', fr', hb', hc⟩ := hcell j v hj
    rw [hb] at hb'
    cases hb'
    exact hc
  refine ⟨cs, el, fr, hb, ?_, hall⟩
  have hlast : (x :: r)[r.length]? = some ((x :: r)[r.length]'(by simp)) := List.getElem?_eq_getElem _
  have := hall _ _ hlast
  have := (Array.getElem?_eq_some_iff.1 this).1
  simp only [List.length_cons]
  omega

section
variable {P : Program} {orc : Orc} {w : World} {W : AW} {gs : Nat → Option (List Value)}

theorem start_rel (hW : ∀ i, W.heap.get i = (gs i).map fun c => .cells c 0 false false) (hs : ∀ i, W.size ≤ i → gs i = none) (hl : ∀ g c, gs g = some c → LaidAt w g c) :
    ∃ κ : KM, RW κ W w.heap.size w w ∧ ∀ g c, gs g = some c → ∃ e, κ g = some e ∧ e.blk = g ∧ e.off = 0 := by
  refine ⟨fun i => match gs i with
    | some c => some ⟨i, 0, c.length, match w.heap[i]? with | some (.cells cs _ _) => cs.size | _ => 0⟩
    | none => none, ⟨fun i e h => ?_, fun i hi => ?_, fun i e h => ?_, fun i j e f o hij hi hj hb ho => ?_, fun i e o he ho hop => ?_, Below.refl _ w, Nat.le_refl _⟩, fun g c hg => ?_⟩
  · rcases Nat.lt_or_ge i W.size with h1 | h1
    · exact h1
    · simp only [hs i h1] at h
      cases h
  · rw [hW, hs i hi]; rfl
  · cases hg : gs i with
    | none => simp only [hg] at h; cases h
    | some c =>
      simp only [hg] at h
      cases h
      obtain ⟨cs, el, fr, hb, hlen, hall⟩ := (hl i c hg).block
      refine ⟨.cells c 0 false false, by rw [hW, hg]; rfl, cs, el, fr, hb, ?_, rfl, ?_, Nat.zero_le _, fun h => (by cases h), fun h => (by cases h), fun j v hj => ⟨v, by rw [Nat.zero_add]; exact hall j v hj, .flat v ((hl i c hg).2.1 v (List.mem_of_getElem? hj)), flat1_one ((hl i c hg).2.1 v (List.mem_of_getElem? hj))⟩⟩
      · simp only [hb]
      · simp only [hb]
        show 0 + c.length ≤ cs.size
        omega
  · cases hg : gs i with
    | none => simp only [hg] at hi; cases hi
    | some c =>
      cases hg2 : gs j with
      | none => simp only [hg2] at hj; cases hj
      | some c2 =>
        simp only [hg] at hi
        simp only [hg2] at hj
        cases hi; cases hj
        exact absurd hb hij
  · rw [hW] at ho
    cases hg : gs i with
    | none => rw [hg] at ho; cases ho
    | some c => rw [hg] at ho; cases ho; cases hop
  · simp only [hg]
    exact ⟨_, rfl, rfl, rfl⟩

theorem closed_true (ho : OrcOk P orc) (hm : P.follows .mixedOrders = true) (hW : ∀ i, W.heap.get i = (gs i).map fun c => .cells c 0 false false) (hs : ∀ i, W.size ≤ i → gs i = none) (hl : ∀ g c, gs g = some c → LaidAt w g c) (hgl : ∀ g, orc.gl g = true → gs g ≠ none)
    {n : Nat} {f : FuncId} {a : AF} {ans : Ans} (h : ev P orc n (.call f []) a W = some ans) (hv : ans.v = .bool true) : Calls P f #[] w fun e w' => e = .returned (.bool true) ∧ Below w.heap.size w w' := by
  obtain ⟨κ, R, hκ⟩ := start_rel hW hs hl
  have G : GlR κ orc.gl := fun g hg => by
    cases hgs : gs g with
    | none => exact absurd hgs (hgl g hg)
    | some c => exact hκ g c hgs
  have := ev_sound ho hm n _ _ _ _ h κ w.heap.size w w R G [] (.nil κ)
  have hc : Calls P f #[] w (retOf (RetR κ W w w.heap.size w ans.v ans.w)) := callsIn_wide.1 this
  refine hc.mono fun e w' hR => ?_
  cases e with
  | returned v =>
    obtain ⟨κ', h1, h2, -⟩ := hR
    rw [hv] at h1
    exact ⟨by rw [h1.bool_inv], h2.below⟩
  | panicked ch => exact hR.elim
  | outgrown => exact hR.elim

end
end Go.Ev
