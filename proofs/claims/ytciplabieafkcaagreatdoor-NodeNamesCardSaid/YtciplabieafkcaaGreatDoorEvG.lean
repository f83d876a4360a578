/-
  Each operation that leaves the world, and looks at no memory.
-/
import Derived.Test.YtciplabieafkcaaGreatDoorEvF
import Derived.DeepKeys
import Derived.Laws.StructEq
import Derived.Laws.Slices
import Derived.Laws.Tables
set_option linter.unusedSimpArgs false
set_option linter.unusedVariables false
namespace Go.Ev
open Go.RowKit

section
variable {P : Program} {κ : KM} {ρ ρ' : Operand → Value}

/-- What an operation that leaves the world tells. -/
def StillOk (P : Program) (κ : KM) (ρ' : Operand → Value) (o : Oper) (v : Value) : Prop := ∃ v', VR κ v v' ∧ ∀ w, (execOp ρ' o).run P w = .ok (.value v') w

theorem StillOk.of {o : Oper} {v v' : Value} {s : Sem Value} (hs : execOp ρ' o = ((do pure (.value (← s))) : Sem Next)) (hv : VR κ v v') (hr : ∀ w, s.run P w = .ok v' w) : StillOk P κ ρ' o v :=
  ⟨v', hv, fun w => by rw [hs, Sem.run_bind, hr w]; rfl⟩

theorem arr_map {α β : Type} (f : α → β) (a : Array α) : a.map f = ⟨a.toList.map f⟩ := by apply Array.ext'; simp

theorem mapOps_eq (ρ : Operand → Value) (a : Array Operand) : mapOps ρ a = a.toList.map ρ := mapL_eq ρ _

theorem mapO_eq {α β : Type} (f : α → β) (x : Option α) : mapO f x = x.map f := by cases x <;> rfl

theorem placesL_some : ∀ {fs : List Field} {pl : List (Nat × Nat)}, placesL P fs = some pl → fs.mapM (fun f => (P.info? f.type).map fun i => (f.offset, i.size)) = some pl
  | [], pl, h => by cases h; rfl
  | f :: fs, pl, h => by
    unfold placesL at h
    split at h
    · rename_i s l hs hl
      cases h
      have := placesL_some hl
      unfold szOf at hs
      split at hs
      · rename_i i hi
        cases hs
        simp [List.mapM_cons, hi, this]
      · cases hs
    · cases h

theorem still_build {o : Oper} {t : TypeId} {parts : Array (Nat × Operand)} (hop : o.op = .build t parts) (hρ : ∀ x, VR κ (ρ x) (ρ' x)) {v : Value} (h : buildA P t parts ρ = some v) : StillOk P κ ρ' o v := by
  unfold buildA at h
  have e1 : (parts.map fun (x : Nat × Operand) => (x.1, ρ' x.2)).toList = parts.toList.map fun x => (x.1, ρ' x.2) := by simp
  split at h
  · rename_i z fs hz hu
    split at h
    · rename_i pl hpl
      split at h
      · rename_i l hl
        cases h
        obtain ⟨z0, h1, h2, h3⟩ := zeroL_some hz κ
        obtain ⟨r', hr, hc⟩ := fillA_rel hρ _ hl h3
        refine .of (v' := .agg r') (s := Instr.build t (parts.map fun x => (x.1, ρ' x.2))) (by rw [execOp, hop]) (VR.agg' hc) fun w => run_build w t _ r' ?_
        unfold placesA at hpl
        rw [hu] at hpl
        have hpl := placesL_some (P := P) hpl
        unfold zeroV at h1
        unfold Program.built
        split at h1
        · rename_i i hi
          rw [hi, hu]
          dsimp only
          rw [h1, hpl]
          dsimp only
          rw [e1, h2]
          have e2 : (fun x => pl.toArray[x]?) = lget pl := by funext x; rw [lget_eq]; simp
          rw [e2]
          exact hr
        · cases h1
      · cases h
    · cases h
  · rename_i z n e hz hu
    split at h
    · rename_i s hs
      split at h
      · rename_i l hl
        cases h
        obtain ⟨z0, h1, h2, h3⟩ := zeroL_some hz κ
        obtain ⟨r', hr, hc⟩ := fillA_rel hρ _ hl h3
        refine .of (v' := .agg r') (s := Instr.build t (parts.map fun x => (x.1, ρ' x.2))) (by rw [execOp, hop]) (VR.agg' hc) fun w => ?_
        have hr' : Instr.fill (fun i => some (i * s, s)) z0.cells (parts.map fun (x : Nat × Operand) => (x.1, ρ' x.2)).toList = some r' := by rw [e1, h2]; exact hr
        simp only [Instr.build, Sem.run_bind, run_zeroV h1, run_underlying hu, Result.andThen_ok, run_szOf hs]
        rw [hr']
        rfl
      · cases h
    · cases h
  · cases h

/-! ### equality -/
theorem kno_inj {a b : IntKind} (h : Nat.beq (kno a) (kno b) = true) : a = b := by cases a <;> cases b <;> first | rfl | cases h

theorem eqI_eq {a b : Int} : eqI a b = true ↔ a = b := by
  cases a <;> cases b <;> simp [eqI, Nat.beq_eq]
  omega

theorem sameLits_some : ∀ {a b : List Lit} {r : Bool}, sameLits a b = some r → (r = true ↔ a = b)
  | [], [], r, h => by cases h; simp
  | .bool a :: l, .bool b :: m, r, h => by
    simp only [sameLits] at h
    split at h
    · rename_i t ht
      cases h
      have := sameLits_some ht
      cases a <;> cases b <;> simp [this]
    · cases h
  | .int k a :: l, .int q b :: m, r, h => by
    simp only [sameLits] at h
    split at h
    · rename_i hk
      have hk := kno_inj hk
      subst hk
      split at h
      · rename_i t ht
        cases h
        have := sameLits_some ht
        simp [this, eqI_eq]
      · cases h
    · cases h
  | [], _ :: _, _, h => by simp [sameLits] at h
  | _ :: _, [], _, h => by simp [sameLits] at h
  | .bool _ :: _, .int .. :: _, _, h => by simp [sameLits] at h
  | .int .. :: _, .bool _ :: _, _, h => by simp [sameLits] at h
  | .string _ :: _, _ :: _, _, h => by simp [sameLits] at h
  | .float .. :: _, _ :: _, _, h => by simp [sameLits] at h
  | .nil :: _, _ :: _, _, h => by simp [sameLits] at h
  | .bool _ :: _, .string _ :: _, _, h => by simp [sameLits] at h
  | .int .. :: _, .string _ :: _, _, h => by simp [sameLits] at h
  | .bool _ :: _, .float .. :: _, _, h => by simp [sameLits] at h
  | .int .. :: _, .float .. :: _, _, h => by simp [sameLits] at h
  | .bool _ :: _, .nil :: _, _, h => by simp [sameLits] at h
  | .int .. :: _, .nil :: _, _, h => by simp [sameLits] at h

theorem mapM_congr_some {α β : Type} {f g : α → Option β} : ∀ {l : List α} {r : List β}, l.mapM f = some r → (∀ x ∈ l, ∀ y, f x = some y → g x = some y) → l.mapM g = some r
  | [], r, h, _ => by simpa using h
  | x :: l, r, h, hf => by
    simp only [List.mapM_cons, Option.bind_eq_bind, Option.pure_def] at h ⊢
    cases hx : f x with
    | none => simp [hx] at h
    | some y =>
      cases hl : l.mapM f with
      | none => simp [hx, hl] at h
      | some r' =>
        simp [hx, hl] at h
        subst h
        rw [hf x (by simp) y hx, mapM_congr_some hl fun z hz => hf z (by simp [hz])]
        rfl

theorem keyLits_rel : ∀ (D : Nat) {t : TypeId} {l l' : List Value} {la : List Lit}, LR κ l l' → P.keyLits D t l = some la → P.keyLits D t l' = some la
  | 0, _, _, _, _, _, h => by simp [Program.keyLits] at h
  | D + 1, t, l, l', la, hl, h => by
    cases hu : P.underlying t with
    | none => simp [Program.keyLits, hu] at h
    | some kd =>
      cases kd <;> try (simp [Program.keyLits, hu] at h; done)
      case bool =>
        rcases l with _ | ⟨v, _ | ⟨v2, r⟩⟩ <;> try (simp [Program.keyLits, hu] at h; done)
        cases v <;> try (simp [Program.keyLits, hu] at h; done)
        obtain ⟨v', r', rfl, hv, hr⟩ := hl.cons_inv
        rw [hr.nil_inv, hv.bool_inv]
        exact h
      case int q =>
        rcases l with _ | ⟨v, _ | ⟨v2, r⟩⟩ <;> try (simp [Program.keyLits, hu] at h; done)
        cases v <;> try (simp [Program.keyLits, hu] at h; done)
        obtain ⟨v', r', rfl, hv, hr⟩ := hl.cons_inv
        rw [hr.nil_inv, hv.int_inv]
        exact h
      case string =>
        rcases l with _ | ⟨v, _ | ⟨v2, r⟩⟩ <;> try (simp [Program.keyLits, hu] at h; done)
        cases v <;> try (simp [Program.keyLits, hu] at h; done)
        obtain ⟨v', r', rfl, hv, hr⟩ := hl.cons_inv
        rw [hr.nil_inv, hv.string_inv]
        exact h
      case array n e =>
        unfold Program.keyLits at h ⊢
        rw [hu] at h ⊢
        dsimp only at h ⊢
        rw [← hl.1]
        split at h
        · rename_i hc
          rw [if_pos hc]
          rw [Option.map_eq_some_iff] at h ⊢
          obtain ⟨r, h1, h2⟩ := h
          exact ⟨r, mapM_congr_some h1 fun i _ y hy => keyLits_rel D ((hl.drop _).take _) hy, h2⟩
        · cases h
      case struct fs =>
        unfold Program.keyLits at h ⊢
        rw [hu] at h ⊢
        dsimp only at h ⊢
        rw [← hl.1]
        split at h
        · rename_i hc
          rw [if_pos hc]
          rw [Option.map_eq_some_iff] at h ⊢
          obtain ⟨r, h1, h2⟩ := h
          exact ⟨r, mapM_congr_some h1 fun f _ y hy => keyLits_rel D ((hl.drop _).take _) hy, h2⟩
        · cases h

theorem VR.slice_inv {a : Addr} {n c : Nat} {v' : Value} (h : VR κ (.slice (some a) n c) v') : ∃ b c', v' = .slice (some b) n c' ∧ n ≤ c ∧ c ≤ c' ∧ (AR κ a b ∨ c' = 0) ∧
    ((a.spot = none ∧ c = c') ∨ ∃ z e, a.spot = some z ∧ z ≠ 0 ∧ κ a.block = some e ∧ a.off + c * z = e.n ∧ (c' = 0 ∨ b.off + c' * z ≤ e.len)) := by
  cases h with
  | flat _ hv => simp [flat1] at hv
  | slice _ b _ _ c' h1 h2 h3 h4 => exact ⟨b, c', rfl, h1, h2, h3, h4⟩

theorem isAggT_true {t : TypeId} (h : isAggT P t = some true) : (∃ fs, P.underlying t = some (.struct fs)) ∨ ∃ n e, P.underlying t = some (.array n e) := by
  unfold isAggT at h
  split at h
  · rename_i fs hu; exact .inl ⟨fs, hu⟩
  · rename_i n e hu; exact .inr ⟨n, e, hu⟩
  · cases h
  · cases h

theorem keyLits_formed {D : Nat} {t : TypeId} {l : List Value} {la : List Lit} (hl : P.keyLits D t l = some la) (h : isAggT P t = some true) : (Value.agg ⟨l⟩).formed P t = true := by
  cases D with
  | zero => simp [Program.keyLits] at hl
  | succ D =>
    unfold Program.keyLits at hl
    rcases isAggT_true h with ⟨fs, hu⟩ | ⟨n, e, hu⟩
    · simp only [hu] at hl
      split at hl
      · rename_i hc; simp [Value.formed, hu, hc.1]
      · cases hl
    · simp only [hu] at hl
      split at hl
      · rename_i hc; simp [Value.formed, hu, hc]
      · cases hl

/-- What == tells, with all that is asked ahead of it. -/
def EqRun (P : Program) (t : TypeId) (x y : Value) (const b : Bool) : Prop :=
  (∀ (op : BinOp) (ox oy : Operand) (w : World), const = (isConstO ox || isConstO oy) → (eqGuard op t ox oy x y).run P w = .ok () w) ∧ ∀ w, (binOp .eql t x y).run P w = .ok (.bool b) w ∧ (binOp .neq t x y).run P w = .ok (.bool (!b)) w

theorem EqRun.of {t : TypeId} {x y : Value} {const b : Bool} (h1 : ∀ (op : BinOp) (ox oy : Operand) (w : World), const = (isConstO ox || isConstO oy) → (eqGuard op t ox oy x y).run P w = .ok () w)
    (h2 : binOp .eql t x y = (do pure (.bool (← Op.equal t x y)))) (h3 : binOp .neq t x y = (do pure (.bool (!(← Op.equal t x y))))) (h4 : ∀ w, (Op.equalIn (9999 + 1) t x y).run P w = .ok b w) : EqRun P t x y const b :=
  ⟨h1, fun w => ⟨by rw [h2, Sem.run_bind, show (Op.equal t x y).run P w = .ok b w from h4 w]; rfl, by rw [h3, Sem.run_bind, show (Op.equal t x y).run P w = .ok b w from h4 w]; rfl⟩⟩

theorem equalA_run {t : TypeId} {x y x' y' : Value} {const b : Bool} (h : equalA P t x y const = some b) (hx : VR κ x x') (hy : VR κ y y') : EqRun P t x' y' const b := by
  unfold equalA at h
  split at h
  · rename_i a c
    split at h
    · rename_i hag hk hg
      split at h
      · rename_i la lb ha hb
        obtain ⟨a'⟩ := a
        obtain ⟨c'⟩ := c
        obtain ⟨l1, rfl, h1⟩ := hx.agg_inv
        obtain ⟨l2, rfl, h2⟩ := hy.agg_inv
        have ha' := keyLits_rel 12 h1.1 ha
        have hb' := keyLits_rel 12 h2.1 hb
        refine .of (fun op ox oy w _ => run_eqGuard_agg w op t ox oy _ _ hg) rfl rfl fun w => ?_
        obtain ⟨r, hr, hiff⟩ := run_equalIn_deep (P := P) 9988 12 t hk w 12 12 (.agg ⟨l1⟩) (.agg ⟨l2⟩) la lb (keyLits_formed ha' hag) (keyLits_formed hb' hag) ha' hb'
        have hs := sameLits_some h
        have : r = b := by
          cases r <;> cases b <;> simp_all
        subst this
        exact hr
      · cases h
    · cases h
  · rename_i a c
    split at h
    · rename_i hu
      cases h
      rw [hx.bool_inv, hy.bool_inv]
      refine .of (fun op ox oy w _ => by cases op <;> rfl) rfl rfl fun w => ?_
      rw [Op.equalIn, Sem.run_bind, run_underlying hu]
      cases a <;> cases c <;> rfl
    · cases h
  · split at h
    · rename_i hu
      cases h
      obtain ⟨-, -, rfl⟩ := hx.nilSlice_inv
      rename_i b1 _ _ _ _
      cases b1 with
      | none =>
        obtain ⟨-, -, rfl⟩ := hy.nilSlice_inv
        refine .of (fun op ox oy w _ => by cases op <;> rfl) rfl rfl fun w => ?_
        rw [Op.equalIn, Sem.run_bind, run_underlying hu]
        rfl
      | some a =>
        obtain ⟨b2, c2, rfl, -⟩ := hy.slice_inv
        refine .of (fun op ox oy w _ => by cases op <;> rfl) rfl rfl fun w => ?_
        rw [Op.equalIn, Sem.run_bind, run_underlying hu]
        rfl
    · cases h
  · split at h
    · rename_i hu
      cases h
      obtain ⟨b2, c2, rfl, -⟩ := hx.slice_inv
      obtain ⟨-, -, rfl⟩ := hy.nilSlice_inv
      refine .of (fun op ox oy w _ => by cases op <;> rfl) rfl rfl fun w => ?_
      rw [Op.equalIn, Sem.run_bind, run_underlying hu]
      rfl
    · cases h
  · split at h
    · rename_i hu
      cases h
      rw [hx.nilPtr_inv]
      rename_i b1 _ _
      cases b1 with
      | none =>
        rw [hy.nilPtr_inv]
        refine .of (fun op ox oy w _ => by cases op <;> rfl) rfl rfl fun w => ?_
        rw [Op.equalIn, Sem.run_bind, run_underlying hu]
        rfl
      | some a =>
        obtain ⟨b2, rfl, -⟩ := hy.ptr_inv
        refine .of (fun op ox oy w _ => by cases op <;> rfl) rfl rfl fun w => ?_
        rw [Op.equalIn, Sem.run_bind, run_underlying hu]
        rfl
    · cases h
  · split at h
    · rename_i hu
      cases h
      obtain ⟨b2, rfl, -⟩ := hx.ptr_inv
      rw [hy.nilPtr_inv]
      refine .of (fun op ox oy w _ => by cases op <;> rfl) rfl rfl fun w => ?_
      rw [Op.equalIn, Sem.run_bind, run_underlying hu]
      rfl
    · cases h
  · split at h
    · rename_i hu
      cases h
      rw [hx.nilIface_inv, hy.nilIface_inv]
      refine .of (fun op ox oy w hc => ?_) rfl rfl fun w => ?_
      · cases ox <;> cases oy <;> first | (cases hc; done) | (cases op <;> rfl)
      · rw [Op.equalIn, Sem.run_bind, run_underlying hu]
        rfl
    · cases h
  · split at h
    · rename_i hu
      cases h
      rw [hx.nilIface_inv]
      obtain ⟨u, rfl, -⟩ := hy.iface_inv
      refine .of (fun op ox oy w _ => by cases op <;> rfl) rfl rfl fun w => ?_
      rw [Op.equalIn, Sem.run_bind, run_underlying hu]
      rfl
    · cases h
  · split at h
    · rename_i hu
      cases h
      rw [hy.nilIface_inv]
      obtain ⟨u, rfl, -⟩ := hx.iface_inv
      refine .of (fun op ox oy w _ => by cases op <;> rfl) rfl rfl fun w => ?_
      rw [Op.equalIn, Sem.run_bind, run_underlying hu]
      rfl
    · cases h
  · cases h

end
end Go.Ev
