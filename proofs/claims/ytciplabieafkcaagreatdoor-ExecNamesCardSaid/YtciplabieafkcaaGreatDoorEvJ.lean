/-
  Operations that read, and those that change the world.
-/
import Derived.Test.YtciplabieafkcaaGreatDoorEvI
set_option linter.unusedSimpArgs false
set_option linter.unusedVariables false
namespace Go.Ev
open Go.RowKit

section
variable {P : Program} {κ : KM} {ρ ρ' : Operand → Value} {W : AW} {base : Nat} {w0 w : World}

theorem loadA_rel {t : TypeId} {x x' v : Value} (R : RW κ W base w0 w) (hx : VR κ x x') (h : loadA P t x W = some v) : ∃ v', VR κ v v' ∧ (Instr.loadAt t x').run P w = .ok v' w ∧ ∃ a, x' = .pointer (some a) ∧ (loadVar t a).run P w = .ok v' w := by
  unfold loadA at h
  split at h
  · rename_i b o n ha hs hg
    split at h
    · rename_i l hl
      cases h
      rw [addrOf_some ha] at hx
      obtain ⟨a, rfl, -, e, he, rfl⟩ := hx.ptr_inv
      obtain ⟨l', h1, h2, h3, h4⟩ := load_cells R hl he P
      have h5 : (loadVar t ⟨e.blk, e.off + o, none⟩).run P w = .ok (.agg ⟨l'⟩) w := by simp [loadVar, run_isAggT hg, run_szOf hs, h4]
      exact ⟨.agg ⟨l'⟩, VR.agg' h2, by simp [Instr.loadAt, run_asAddr, h5], _, rfl, h5⟩
    · cases h
  · rename_i b o n ha hs hg
    split at h
    · rename_i x hl
      cases h
      rw [addrOf_some ha] at hx
      obtain ⟨a, rfl, -, e, he, rfl⟩ := hx.ptr_inv
      obtain ⟨l', h1, h2, h3, h4⟩ := load_cells R hl he P
      obtain ⟨v', r', rfl, hv, -⟩ := h2.1.cons_inv
      have h5 : (loadVar t ⟨e.blk, e.off + o, none⟩).run P w = .ok v' w := by
        have := h3 0 v' rfl
        rw [add_at] at this
        simp only [Nat.add_zero] at this
        simp [loadVar, run_isAggT hg, run_load, this]
      exact ⟨v', hv, by simp [Instr.loadAt, run_asAddr, h5], _, rfl, h5⟩
    · cases h
  · cases h

theorem findKeyA_rel {q : IntKind} {n : Int} : ∀ {es : List (Value × Value × Nat)} {m : List MapEntry} {r : Option Value} (i : Nat), EL κ es m → findKeyA q n es = some r →
    (r = none ∧ Instr.findNow (.int q) (.int q n) m i = some none) ∨ ∃ v v' j y, r = some v ∧ VR κ v v' ∧ Instr.findNow (.int q) (.int q n) m i = some (some (i + j, v')) ∧ m[j]? = some y ∧ y.key = .int q n ∧ y.val = v' ∧
      ∀ u, putKeyA n u es = some (es.modify j fun x => (x.1, u, x.2.2))
  | [], m, r, i, hm, h => by
    cases h
    have : m = [] := by have := hm.1; cases m with | nil => rfl | cons => simp at this
    subst this
    exact .inl ⟨rfl, rfl⟩
  | x :: es, m, r, i, hm, h => by
    cases m with
    | nil => have := hm.1; simp at this
    | cons y m =>
      obtain ⟨h1, ⟨q', n', h2⟩, h3, h4⟩ := hm.2 0 x y rfl rfl
      have hm' : EL κ es m := ⟨by have := hm.1; simpa using this, fun i a b p p' => hm.2 (i + 1) a b (by simpa using p) (by simpa using p')⟩
      obtain ⟨k, v, c⟩ := x
      have h2 : k = .int q' n' := h2
      subst h2
      unfold findKeyA at h
      split at h
      · rename_i hk
        have hk := kno_inj hk
        subst hk
        split at h
        · rename_i he
          have he := eqI_eq.1 he
          subst he
          cases h
          refine .inr ⟨v, y.val, 0, y, rfl, h3, ?_, rfl, h1, rfl, fun u => ?_⟩
          · have h1 : y.key = .int q n := h1
            simp [Instr.findNow, Instr.sameNow, h1]
          · simp [putKeyA, eqI_eq.2 rfl, List.modify]
        · rename_i he
          have hne : n ≠ n' := fun e => by rw [eqI_eq.2 e] at he; cases he
          have h1 : y.key = .int q n' := h1
          have hstep : Instr.findNow (.int q) (.int q n) (y :: m) i = Instr.findNow (.int q) (.int q n) m (i + 1) := by
            have hb : (n == n') = false := by simpa using hne
            simp [Instr.findNow, Instr.sameNow, h1, hb]
          rcases findKeyA_rel (i + 1) hm' h with ⟨p1, p2⟩ | ⟨v1, v1', j, y', p1, p2, p3, p4, p5, p6, p7⟩
          · exact .inl ⟨p1, by rw [hstep, p2]⟩
          · refine .inr ⟨v1, v1', j + 1, y', p1, p2, by rw [hstep, p3]; congr 3; omega, by simpa using p4, p5, p6, fun u => ?_⟩
            simp only [putKeyA]
            have : eqI n n' = false := by cases hh : eqI n n' with | true => exact absurd (eqI_eq.1 hh) hne | false => rfl
            rw [this]
            simp [p7 u, List.modify]
      · cases h

theorem map_obj {r : Nat} {es : List (Value × Value × Nat)} {c : Nat} {e : KE} (R : RW κ W base w0 w) (hg : W.heap.get r = some (.map es c)) (he : κ r = some e) : ∃ m, w.heap[e.blk]? = some (.map m c) ∧ EL κ es m.toList := by
  obtain ⟨o, ho, hO⟩ := R.has r e he
  rw [hg] at ho
  cases ho
  exact hO

theorem read_ok {o : Oper} {v : Value} (R : RW κ W base w0 w) (hρ : ∀ x, VR κ (ρ x) (ρ' x)) (h : readA P o ρ W = some v) : ∃ v', VR κ v v' ∧ (execOp ρ' o).run P w = .ok (.value v') w := by
  unfold readA at h
  split at h
  · rename_i t a hop
    obtain ⟨v', h1, h2, -⟩ := loadA_rel R (hρ a) h
    exact ⟨v', h1, by rw [execOp, hop]; simp [h2]⟩
  · rename_i t m k ok hop
    have hm := hρ m
    have hk := hρ k
    split at h
    · rename_i kt et r q n hu hm0 hk0
      rw [hm0] at hm
      rw [hk0] at hk
      obtain ⟨e, hm1, he⟩ := hm.map_inv
      split at h
      · rename_i es c q' z hg hkt hz
        split at h
        · rename_i hq
          have hq := kno_inj hq
          subst hq
          obtain ⟨h1, h2⟩ := flatO_some hz
          obtain ⟨ma, hb, hel⟩ := map_obj R hg he
          have hck : ∀ b, (Instr.checkKey b 10000 kt (.int q n)).run P w = .ok () w := fun b => MapKept.run_checkKey hkt (d := .int q) (k := .int q n) (by simp [MapKept.IsKey]) b 9999
          split at h
          · rename_i v0 hf
            cases h
            rcases findKeyA_rel 0 hel hf with ⟨p1, _⟩ | ⟨v1, v1', j, y', p1, p2, p3, p4, p5, p6, p7⟩
            · cases p1
            · cases p1
              refine ⟨if ok then .tuple #[v1', .bool true] else v1', ?_, ?_⟩
              · cases ok
                · exact p2
                · exact VR.tuple' (.cons p2 (.cons (.flat _ rfl) (.nil κ)))
              · rw [execOp, hop]
                simp [Instr.lookup, run_underlying hu, hm1, hk.int_inv, MapKept.run_getObj_map hb, hck, MapKept.run_findKey hkt p3]
          · rename_i hf
            cases h
            rcases findKeyA_rel 0 hel hf with ⟨p1, p3⟩ | ⟨v1, v1', j, y', p1, _⟩
            · refine ⟨if ok then .tuple #[z, .bool false] else z, ?_, ?_⟩
              · cases ok
                · exact VR.flatV h2
                · exact VR.tuple' (.cons (VR.flatV h2) (.cons (.flat _ rfl) (.nil κ)))
              · rw [execOp, hop]
                simp [Instr.lookup, run_underlying hu, hm1, hk.int_inv, MapKept.run_getObj_map hb, hck, MapKept.run_findKey hkt p3, run_zeroV h1]
            · cases p1
          · cases h
        · cases h
      · cases h
    · cases h
  · cases h

end
end Go.Ev
