/-
  An operation looks at its operands alone.
-/
import Derived.Test.YtciplabieafkcaaGreatDoorEvS
set_option linter.unusedSimpArgs false
set_option linter.unusedVariables false
namespace Go.Ev
open Go.RowKit

section
variable {P : Program} {ρ ρ2 : Operand → Value}

theorem mapOps_congr {xs : Array Operand} (h : ∀ x ∈ xs, ρ x = ρ2 x) : mapOps ρ xs = mapOps ρ2 xs := by
  rw [mapOps_eq, mapOps_eq]
  exact List.map_congr_left fun x hx => h x (by simpa using hx)

theorem fillA_congr {place : Nat → Option (Nat × Nat)} : ∀ {parts : List (Nat × Operand)} {cells : List Value}, (∀ x ∈ parts, ρ x.2 = ρ2 x.2) → fillA place cells ρ parts = fillA place cells ρ2 parts
  | [], cells, _ => rfl
  | (i, x) :: parts, cells, h => by
    have h1 : ρ x = ρ2 x := h (i, x) (by simp)
    unfold fillA
    rw [h1]
    split
    · rfl
    · split
      · rfl
      · split
        · rfl
        · split
          · exact fillA_congr fun y hy => h y (by simp [hy])
          · rfl

theorem stillA_congr {o : Oper} (h : ∀ x ∈ o.op.operands, ρ x = ρ2 x) : stillA P o ρ = stillA P o ρ2 := by
  obtain ⟨dst, op, ty, pos, after, guard⟩ := o
  cases op <;> try rfl
  case build t parts =>
    have : ∀ x ∈ parts.toList, ρ x.2 = ρ2 x.2 := fun x hx => h x.2 (by simp [Op.operands]; exact ⟨x.1, by simpa using hx⟩)
    simp only [stillA, buildA]
    split
    · split
      · rw [fillA_congr this]
      · rfl
    · split
      · rw [fillA_congr this]
      · rfl
    · rfl
  case makeFunc fn first captured =>
    have h1 := mapOps_congr (ρ := ρ) (ρ2 := ρ2) (xs := first) fun x hx => h x (by simp [Op.operands, hx])
    have h2 := mapOps_congr (ρ := ρ) (ρ2 := ρ2) (xs := captured) fun x hx => h x (by simp [Op.operands, hx])
    cases fn <;> simp only [stillA, h1, h2]
  case slice t x lo hi mx =>
    have h1 := h x (by simp [Op.operands])
    have h2 : mapO ρ lo = mapO ρ2 lo := by cases lo <;> simp [mapO]; exact h _ (by simp [Op.operands])
    have h3 : mapO ρ hi = mapO ρ2 hi := by cases hi <;> simp [mapO]; exact h _ (by simp [Op.operands])
    have h4 : mapO ρ mx = mapO ρ2 mx := by cases mx <;> simp [mapO]; exact h _ (by simp [Op.operands])
    simp only [stillA, h1, h2, h3, h4]
  case call c =>
    obtain ⟨callee, args, at0⟩ := c
    have ha : ∀ x ∈ args, ρ x = ρ2 x := fun x hx => h x (by simp [Op.operands, Call.operands, hx])
    have hl : ∀ x ∈ args.toList, ρ x = ρ2 x := fun x hx => ha x (by simpa using hx)
    cases callee <;> try rfl
    rename_i bi
    cases bi <;> try rfl
    all_goals
      simp only [stillA]
      revert hl
      generalize args.toList = l
      intro hl
    · match at0.toList, l, hl with
      | [], _, _ => rfl
      | _ :: _, [], _ => rfl
      | t :: ts, x :: l, hl => simp only [hl x (by simp)]
    · match l, hl with
      | [], _ => rfl
      | [x], _ => rfl
      | [x, y], hl => simp only [hl x (by simp), hl y (by simp)]
      | _ :: _ :: _ :: _, _ => rfl
    · match l, hl with
      | [], _ => rfl
      | [x], _ => rfl
      | [x, y], hl => simp only [hl x (by simp), hl y (by simp)]
      | _ :: _ :: _ :: _, _ => rfl
  all_goals
    simp [Op.operands] at h
    simp only [stillA, h]

theorem readA_congr {o : Oper} {W : AW} (h : ∀ x ∈ o.op.operands, ρ x = ρ2 x) : readA P o ρ W = readA P o ρ2 W := by
  obtain ⟨dst, op, ty, pos, after, guard⟩ := o
  cases op <;> try rfl
  all_goals
    simp [Op.operands] at h
    simp only [readA, h]

theorem floatA_congr {o : Oper} (h : ∀ x ∈ o.op.operands, ρ x = ρ2 x) : floatA P o ρ = floatA P o ρ2 := by
  obtain ⟨dst, op, ty, pos, after, guard⟩ := o
  cases op <;> try rfl
  case buildSlice t n parts =>
    have : ∀ x ∈ parts.toList, ρ x.2 = ρ2 x.2 := fun x hx => h x.2 (by simp [Op.operands]; exact ⟨x.1, by simpa using hx⟩)
    have e : buildSliceA P t n parts ρ = buildSliceA P t n parts ρ2 := by
      unfold buildSliceA
      split
      · rfl
      · split
        · exact fillA_congr this
        · rfl
    simp only [floatA, e]
  all_goals
    simp [Op.operands] at h
    simp only [floatA, h]

theorem effectA_congr {o : Oper} {W : AW} (h : ∀ x ∈ o.op.operands, ρ x = ρ2 x) : effectA P o ρ W = effectA P o ρ2 W := by
  obtain ⟨dst, op, ty, pos, after, guard⟩ := o
  cases op <;> try rfl
  case makeMap t r => cases r <;> rfl
  case call c =>
    obtain ⟨callee, args, at0⟩ := c
    have ha : ∀ x ∈ args, ρ x = ρ2 x := fun x hx => h x (by simp [Op.operands, Call.operands, hx])
    have hl : ∀ x ∈ args.toList, ρ x = ρ2 x := fun x hx => ha x (by simpa using hx)
    cases callee <;> try rfl
    rename_i bi
    cases bi <;> try rfl
    case append =>
      simp only [effectA]
      revert hl
      generalize args.toList = l
      generalize at0.toList = m
      intro hl
      rcases m with _ | ⟨t, _ | ⟨u, _ | ⟨u', m⟩⟩⟩ <;> rcases l with _ | ⟨x, _ | ⟨y, _ | ⟨z, l⟩⟩⟩ <;> first | rfl | simp only [hl x (by simp), hl y (by simp)] | simp only [hl x (by simp)]
    case copy =>
      simp only [effectA]
      revert hl
      generalize args.toList = l
      generalize at0.toList = m
      intro hl
      rcases m with _ | ⟨t, _ | ⟨u, _ | ⟨u', m⟩⟩⟩ <;> rcases l with _ | ⟨x, _ | ⟨y, _ | ⟨z, l⟩⟩⟩ <;> first | rfl | simp only [hl x (by simp), hl y (by simp)] | simp only [hl x (by simp)]
    case clear =>
      simp only [effectA]
      revert hl
      generalize args.toList = l
      generalize at0.toList = m
      intro hl
      rcases m with _ | ⟨t, _ | ⟨u, _ | ⟨u', m⟩⟩⟩ <;> rcases l with _ | ⟨x, _ | ⟨y, _ | ⟨z, l⟩⟩⟩ <;> first | rfl | simp only [hl x (by simp), hl y (by simp)] | simp only [hl x (by simp)]
  all_goals
    simp [Op.operands] at h
    simp only [effectA, h]

theorem calleeA_congr {meth : TypeId → String → Option FuncId} {c : Call} (h : ∀ x ∈ c.operands, ρ x = ρ2 x) : calleeA meth c ρ = calleeA meth c ρ2 := by
  obtain ⟨callee, args, at0⟩ := c
  have ha := mapOps_congr (ρ := ρ) (ρ2 := ρ2) (xs := args) fun x hx => h x (by simp [Call.operands, hx])
  cases callee
  · rename_i x
    have := h x (by simp [Call.operands])
    simp only [calleeA, ha, this]
  · rename_i x n
    have := h x (by simp [Call.operands])
    simp only [calleeA, ha, this]
  · rfl

end
end Go.Ev
