/-
  All operations but calls.
-/
import Derived.Test.YtciplabieafkcaaGreatDoorEvL
set_option linter.unusedSimpArgs false
set_option linter.unusedVariables false
namespace Go.Ev
open Go.RowKit

section
variable {P : Program} {κ : KM} {ρ ρ' : Operand → Value} {W W' : AW} {base : Nat} {w0 w : World}

theorem effect_ok {o : Oper} {v : Value} (R : RW κ W base w0 w) (hρ : ∀ x, VR κ (ρ x) (ρ' x)) (h : effectA P o ρ W = some (v, W')) :
    EffOk P κ W W' base w0 w (execOp ρ' o) v := by
  have h0 := h
  unfold effectA at h
  split at h
  · rename_i t a x hop
    split at h
    · rename_i W1 hst
      cases h
      obtain ⟨w', h1, h2, h3⟩ := storeA_ok R (hρ a) (hρ x) hst
      refine ⟨.skip, undef, w', κ, ?_, .inr ⟨rfl, rfl⟩, undef_rel κ, h2, h3⟩
      rw [execOp, hop]
      show ((do Instr.storeAt t (ρ' a) (ρ' x); pure .skip) : Sem Next).run P w = _
      rw [Sem.run_bind, h1]
      rfl
    · cases h
  · rename_i t hop
    split at h
    · rename_i hp hput
      cases h
      have hO : OR (κ.ext W.size ⟨w.heap.size, 0, 0, 0⟩) ⟨w.heap.size, 0, 0, 0⟩ (w.alloc (.map #[] 0)) (.map [] 0) := ⟨#[], alloc_new w _, rfl, fun i a b h => by simp at h⟩
      obtain ⟨h1, h2⟩ := alloc_obj R hput hO
      refine ⟨.value (.map (some w.heap.size)), _, _, _, ?_, .inl rfl, .map _ ⟨w.heap.size, 0, 0, 0⟩ (if_pos rfl), h1, h2⟩
      rw [execOp, hop]
      simp [Instr.makeMap]
    · cases h
  · rename_i t m k x hop
    have hm := hρ m
    have hk := hρ k
    split at h
    · rename_i kt et r q n hu hm0 hk0
      rw [hm0] at hm
      rw [hk0] at hk
      obtain ⟨e, hm1, he⟩ := hm.map_inv
      split at h
      · rename_i es c q' hg hkt
        split at h
        · rename_i hq
          have hq := kno_inj hq
          subst hq
          obtain ⟨ma, hb, hel⟩ := map_obj R hg he
          have hck : (Instr.checkKey false 10000 kt (.int q n)).run P w = .ok () w := MapKept.run_checkKey hkt (d := .int q) (k := .int q n) (by simp [MapKept.IsKey]) false 9999
          have fin : ∀ {w' : World}, (Instr.mapUpdate t (ρ' m) (ρ' k) (ρ' x)).run P w = .ok () w' → (execOp ρ' o).run P w = .ok .skip w' := by
            intro w' h1
            rw [execOp, hop]
            show ((do Instr.mapUpdate t (ρ' m) (ρ' k) (ρ' x); pure .skip) : Sem Next).run P w = _
            rw [Sem.run_bind, h1]
            rfl
          split at h
          · rename_i v0 hf
            split at h
            · rename_i es' hes
              split at h
              · rename_i hp hput
                cases h
                rcases findKeyA_rel 0 hel hf with ⟨p1, _⟩ | ⟨v1, v1', j, y', p1, p2, p3, p4, p5, p6, p7⟩
                · cases p1
                · rw [p7] at hes
                  cases hes
                  have hm' := el_modify hel p4 p5 (hρ x)
                  obtain ⟨h1, h2⟩ := map_set R he hg hb hput hm'
                  refine ⟨.skip, undef, _, κ, fin ?_, .inr ⟨rfl, rfl⟩, undef_rel κ, h1, h2⟩
                  have e1 : ((ma[j]?).map (·.key)).getD (.int q n) = .int q n := by
                    rw [← Array.getElem?_toList, p4]
                    simp [p5]
                  rw [Nat.zero_add] at p3
                  have e2 : (Instr.keyThatStays (.int q n) (.int q n)).run P w = .ok (.int q n) w := MapKept.run_keyThatStays (d := .int q) (by simp [MapKept.IsKey])
                  rw [hm1, hk.int_inv]
                  simp only [Instr.mapUpdate, Sem.run_bind, run_underlying hu, Result.andThen_ok, MapKept.run_getObj_map hb, hck, MapKept.run_findKey hkt p3, e1, e2, MapKept.run_setObj_map _ hb]
              · cases h
            · cases h
          · rename_i hf
            rw [appO_eq] at h
            simp only at h
            split at h
            · rename_i hp hput
              cases h
              rcases findKeyA_rel 0 hel hf with ⟨p1, p3⟩ | ⟨v1, v1', j, y', p1, _⟩
              · have hm' := el_push (q := q) (n := n) (c := c) hel (hρ x)
                obtain ⟨h1, h2⟩ := map_set R he hg hb hput hm'
                refine ⟨.skip, undef, _, κ, fin ?_, .inr ⟨rfl, rfl⟩, undef_rel κ, h1, h2⟩
                rw [hm1, hk.int_inv]
                simp only [Instr.mapUpdate, Sem.run_bind, run_underlying hu, Result.andThen_ok, MapKept.run_getObj_map hb, hck, MapKept.run_findKey hkt p3, MapKept.run_setObj_map _ hb]
              · cases p1
            · cases h
          · cases h
        · cases h
      · cases h
    · cases h
  · rename_i args at0 hop
    exact append_ok hop R hρ h0
  · rename_i args at0 hop
    exact copy_ok hop R hρ h0
  · rename_i args at0 hop
    exact clear_ok (t := 0) (x := undef) (x' := undef) hop R hρ h0
  · cases h

/-- A block that is made, where its abstract one stands already. -/
theorem adopt {b : Nat} {c c' : List Value} {el : TypeId} (R : RW κ W base w0 w) (hk : κ b = none) (hg : W.heap.get b = some (.cells c 0 true false)) (hc : CL κ c c') :
    ∃ κ', κ' = κ.ext b ⟨w.heap.size, 0, c.length, c'.length⟩ ∧ κ.le κ' ∧ RW κ' W base w0 (w.alloc (.cells ⟨c'⟩ el)) ∧ (∀ i e, κ' i = some e → κ i = some e ∨ (i = b ∧ e.blk = w.heap.size)) := by
  have hle : κ.le (κ.ext b ⟨w.heap.size, 0, c.length, c'.length⟩) := by
    intro k f hf
    unfold KM.ext
    rw [if_neg (fun q => by subst q; rw [hk] at hf; cases hf)]
    exact hf
  have hlt : ∀ i e, κ i = some e → e.blk < w.heap.size := fun i e h => let ⟨o, _, h2⟩ := R.has i e h; h2.lt
  have hsz : (w.alloc (.cells ⟨c'⟩ el)).heap.size = w.heap.size + 1 := Array.size_push _
  have hb : b < W.size := by
    rcases Nat.lt_or_ge b W.size with h | h
    · exact h
    · rw [R.top b h] at hg; cases hg
  refine ⟨_, rfl, hle, ⟨fun i e h => ?_, R.top, fun i f hf => ?_, fun i j f g o' hij hi hj hbk ho => ?_, fun i f o' hf ho hopen => ?_, R.below.alloc R.big _, ?_⟩, fun i e h => ?_⟩
  · unfold KM.ext at h
    split at h
    · omega
    · exact R.dom i e h
  · unfold KM.ext at hf
    by_cases hi : i = b
    · rw [if_pos hi] at hf
      cases hf
      subst hi
      refine ⟨_, hg, ⟨c'⟩, el, (0, 0), alloc_new w _, rfl, rfl, ?_, Nat.zero_le _, fun _ => rfl, fun h => (by cases h), fun j v hj => ?_⟩
      · show 0 + c.length ≤ c'.length
        rw [hc.1.1]; omega
      · obtain ⟨v', h1, h2⟩ := hc.1.get hj
        exact ⟨v', by rw [Nat.zero_add]; simpa using h1, h2.mono hle, hc.2 v' (List.mem_of_getElem? h1)⟩
    · rw [if_neg hi] at hf
      obtain ⟨o', h1, h2⟩ := R.has i f hf
      refine ⟨o', h1, (h2.mono hle).world ?_⟩
      have := hlt i f hf
      show (w.heap.push _)[f.blk]? = _
      rw [Array.getElem?_push, if_neg (by omega)]
  · unfold KM.ext at hi hj
    by_cases h1 : i = b
    · rw [if_pos h1] at hi
      cases hi
      rw [if_neg (by omega)] at hj
      have := hlt j g hj
      have hb' : w.heap.size = g.blk := hbk
      omega
    · rw [if_neg h1] at hi
      by_cases h2 : j = b
      · rw [if_pos h2] at hj
        cases hj
        have := hlt i f hi
        have hb' : f.blk = w.heap.size := hbk
        omega
      · rw [if_neg h2] at hj
        exact R.apart i j f g o' hij hi hj hbk ho
  · unfold KM.ext at hf
    by_cases h1 : i = b
    · rw [if_pos h1] at hf; cases hf; exact R.big
    · rw [if_neg h1] at hf; exact R.own i f o' hf ho hopen
  · rw [hsz]; have := R.big; omega
  · unfold KM.ext at h
    split at h
    · rename_i hi; cases h; exact .inr ⟨hi, rfl⟩
    · exact .inl h

/-- One operation that is no call, in its turn. -/
theorem op_ok {orc : Orc} {ev : Task → AF → AW → Option Ans} {o : Oper} {a : AF} {v : Value} (R : RW κ W base w0 w) (hρ : ∀ x, VR κ (a.eval orc.gl x) (ρ' x)) (h : opA P orc ev o a W = some (v, W')) (hc : opKind o ≠ .calls) :
    EffOk P κ W W' base w0 w (execOp ρ' o) v := by
  unfold opA at h
  split at h
  · split at h
    · rename_i v1 hs
      cases h
      obtain ⟨v', h1, h2⟩ := still_ok hρ hs
      exact ⟨_, v', w, κ, h2 w, .inl rfl, h1, R, Fw.refl κ W w⟩
    · cases h
  · split at h
    · rename_i v1 hs
      cases h
      obtain ⟨v', h1, h2⟩ := read_ok R hρ hs
      exact ⟨_, v', w, κ, h2, .inl rfl, h1, R, Fw.refl κ W w⟩
    · cases h
  · split at h
    · rename_i c vf hf
      split at h
      · rename_i b W1 hnew
        cases h
        obtain ⟨c', el, uf, h1, h2, h3⟩ := float_ok hρ hf
        obtain ⟨κ', h4, h5, h6⟩ := new_cells R hnew (Nat.zero_le _) h1 [] el
        have e1 : (c' ++ []).toArray = (⟨c'⟩ : Array Value) := by simp
        rw [e1] at h5 h6
        exact ⟨_, uf w.heap.size, _, κ', h2 w, .inl rfl, h3 κ' b _ h4 rfl, h5, h6⟩
      · cases h
    · cases h
  · exact effect_ok R hρ h
  · rename_i hk; exact absurd hk hc
  · cases h
  · cases h

end
end Go.Ev
