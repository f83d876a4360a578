/-
  Operations that change the world: stores, maps, copies.
-/
import Derived.Test.YtciplabieafkcaaGreatDoorEvJ
set_option linter.unusedSimpArgs false
set_option linter.unusedVariables false
namespace Go.Ev
open Go.RowKit

section
variable {P : Program} {κ : KM} {ρ ρ' : Operand → Value} {W W' : AW} {base : Nat} {w0 w : World}

/-- What an operation that changes the world comes to. -/
def EffOk (P : Program) (κ : KM) (W W' : AW) (base : Nat) (w0 w : World) (s : Sem Next) (v : Value) : Prop :=
  ∃ n u w' κ', s.run P w = .ok n w' ∧ (n = .value u ∨ (n = .skip ∧ u = undef)) ∧ VR κ' v u ∧ RW κ' W' base w0 w' ∧ Fw κ κ' W W' w w'

theorem undef_rel (κ : KM) : VR κ undef undef := VR.tuple' (.nil κ)

theorem RW.drew (R : RW κ W base w0 w) : RW κ W base w0 w.drew :=
  ⟨R.dom, R.top, fun i e h => let ⟨o, h1, h2⟩ := R.has i e h; ⟨o, h1, h2.world rfl⟩, R.apart, R.own, R.below.drew, R.big⟩

theorem Fw.drew : Fw κ κ W W w w.drew := ⟨fun _ _ h => h, fun _ _ h => .inl h, fun _ _ _ => rfl, Nat.le_refl _, Nat.le_refl _⟩

theorem storeA_ok {t : TypeId} {x y x' y' : Value} (R : RW κ W base w0 w) (hx : VR κ x x') (hy : VR κ y y') (h : storeA P t x y W = some W') :
    ∃ w', (Instr.storeAt t x' y').run P w = .ok () w' ∧ RW κ W' base w0 w' ∧ Fw κ κ W W' w w' := by
  unfold storeA at h
  split at h
  · rename_i b o n ha hs
    split at h
    · rename_i l hl
      split at h
      · rename_i hn
        rw [len_eq] at hn
        have hn := Nat.eq_of_beq_eq_true hn
        rw [addrOf_some ha] at hx
        obtain ⟨a, rfl, -, e, he, rfl⟩ := hx.ptr_inv
        obtain ⟨l', h1, h2⟩ := cellsO_rel hl hy
        obtain ⟨w', h3, h4, h5⟩ := store_cells R h he h2 P
        refine ⟨w', ?_, h4, h5⟩
        have hsz : y'.cells.size = n := by rw [h1, ← hn, h2.1.1]; rfl
        have hcl : y'.cells.toList = l' := by rw [h1]
        simp [Instr.storeAt, run_asAddr, storeVar, run_szOf hs, hsz, hcl, h3]
      · cases h
    · cases h
  · cases h

theorem el_modify {es : List (Value × Value × Nat)} {m : Array MapEntry} {j : Nat} {y : MapEntry} {u u' k : Value} (hm : EL κ es m.toList) (hj : m.toList[j]? = some y) (hk : y.key = k) (hu : VR κ u u') :
    EL κ (es.modify j fun x => (x.1, u, x.2.2)) (m.modify j fun e => { e with key := k, val := u' }).toList := by
  refine ⟨by simpa using hm.1, fun i a b ha hb => ?_⟩
  rw [List.getElem?_modify] at ha
  rw [Array.getElem?_toList, Array.getElem?_modify] at hb
  by_cases hij : j = i
  · subst hij
    rw [if_pos rfl] at hb
    rw [← Array.getElem?_toList, hj] at hb
    cases he : es[j]? with
    | none => rw [he] at ha; cases ha
    | some x =>
      rw [he] at ha
      simp only [if_pos, Option.map_some, Functor.map, Option.some.injEq] at ha hb
      subst ha; subst hb
      obtain ⟨h1, h2, h3, h4⟩ := hm.2 j x y he hj
      exact ⟨by rw [← hk]; exact h1, h2, hu, h4⟩
  · rw [if_neg hij] at hb
    rw [← Array.getElem?_toList] at hb
    cases he : es[i]? with
    | none => rw [he] at ha; cases ha
    | some x =>
      rw [he] at ha
      have hji : ¬ (j = i) := hij
      simp only [if_neg hji, Functor.map, Option.map_some, Option.some.injEq] at ha
      subst ha
      exact hm.2 i x b he hb

theorem el_push {es : List (Value × Value × Nat)} {m : Array MapEntry} {q : IntKind} {n : Int} {u u' : Value} {c : Nat} (hm : EL κ es m.toList) (hu : VR κ u u') :
    EL κ (es ++ [(.int q n, u, c)]) (m.push { key := .int q n, val := u', born := c }).toList := by
  refine ⟨by simp [hm.1], fun i a b ha hb => ?_⟩
  rw [Array.toList_push] at hb
  by_cases hi : i < es.length
  · rw [List.getElem?_append_left hi] at ha
    rw [List.getElem?_append_left (by rw [← hm.1]; exact hi)] at hb
    exact hm.2 i a b ha hb
  · rw [List.getElem?_append_right (by omega)] at ha
    rw [List.getElem?_append_right (by rw [← hm.1]; omega), ← hm.1] at hb
    cases hk : i - es.length with
    | zero =>
      rw [hk] at ha hb
      cases ha; cases hb
      exact ⟨rfl, ⟨q, n, rfl⟩, hu, rfl⟩
    | succ k => rw [hk] at ha; cases ha

theorem map_set {r c c' : Nat} {es es' : List (Value × Value × Nat)} {e : KE} {m m' : Array MapEntry} {hp : Tr AObj} (R : RW κ W base w0 w) (he : κ r = some e) (hg : W.heap.get r = some (.map es c)) (hb : w.heap[e.blk]? = some (.map m c))
    (hput : W.heap.put (.map es' c') r = some hp) (hm : EL κ es' m'.toList) :
    RW κ { W with heap := hp } base w0 { w with heap := w.heap.setIfInBounds e.blk (.map m' c') } ∧ Fw κ κ W { W with heap := hp } w { w with heap := w.heap.setIfInBounds e.blk (.map m' c') } :=
  set_obj R he hg rfl rfl hput ⟨m', setObj_heap_same (Array.getElem?_eq_some_iff.1 hb).1 _, hm⟩

theorem clear_ok {t : TypeId} {x x' v : Value} {o : Oper} {args : Array Operand} {at0 : Array TypeId} (hop : o.op = .call { callee := .builtin .clear, args, argTypes := at0 }) (R : RW κ W base w0 w) (hρ : ∀ x, VR κ (ρ x) (ρ' x)) (h : effectA P o ρ W = some (v, W')) :
    EffOk P κ W W' base w0 w (execOp ρ' o) v := by
  unfold effectA at h
  rw [hop] at h
  simp only at h
  split at h
  · rename_i t x hat har
    have hx := hρ x
    have e1 : at0[0]? = some t := by rw [← Array.getElem?_toList, hat]; rfl
    have e2 : (args.map ρ')[0]? = some (ρ' x) := by rw [← Array.getElem?_toList, Array.toList_map, har]; rfl
    split at h
    · rename_i kt et r hu hxr
      rw [hxr] at hx
      obtain ⟨e, hx', he⟩ := hx.map_inv
      split at h
      · rename_i es c hg
        split at h
        · rename_i hp hput
          cases h
          obtain ⟨m, hb, hel⟩ := map_obj R hg he
          obtain ⟨h1, h2⟩ := map_set (m' := #[]) R he hg hb hput (⟨rfl, fun i a b h => by simp at h⟩)
          refine ⟨.value (.tuple #[]), .tuple #[], _, κ, ?_, .inl rfl, undef_rel κ, h1, h2⟩
          have hcl : (Builtin.clear_ at0 o.type (args.map ρ')).run P w = .ok (.tuple #[]) { w with heap := w.heap.setIfInBounds e.blk (.map #[] c) } := by
            simp [Builtin.clear_, e1, e2, run_underlying hu, hx', MapKept.run_getObj_map hb, MapKept.run_setObj_map _ hb]
          rw [execOp, hop]
          show ((do pure (.value (← Builtin.clear_ at0 o.type (args.map ρ')))) : Sem Next).run P w = _
          rw [Sem.run_bind, hcl]
          rfl
        · cases h
      · cases h
    · cases h
  · cases h

end
end Go.Ev
