/-
  What the evaluator holds for this program is so; a law that it reckons to true answers true, from a world in which the variables are laid.
-/
import Derived.Test.YtciplabieafkcaaGreatDoorShF
import Derived.Test.YtciplabieafkcaaGreatDoorEvOr
import Derived.Test.YtciplabieafkcaaGreatDoorEvFas2
set_option linter.unusedSimpArgs false
set_option linter.unusedVariables false
namespace Go.Proofs.YtciplabieafkcaaGreatDoor
open Go.RowKit
open Go.Ev

theorem meth_run {t : TypeId} {name : String} {f : FuncId} (v : Value) (args : Array Value) (w : World) (h : (method (Tryz.prog.types.size + Made.depth) t v name).run Tryz.prog w = .ok (f, v) w) :
    (callMethod (.iface t v) name args).run Tryz.prog w = (callFunc f (#[v] ++ args)).run Tryz.prog w := by
  simp only [callMethod, Sem.run_bind, run_program, Result.andThen_ok, h]

theorem pick_some {a b f : FuncId} {name : String} (h : pickM a b name = some f) : (name = "beadroll/node.can" ∧ f = a) ∨ (name = "beadroll/node.step" ∧ f = b) := by
  unfold pickM at h
  split at h
  · rename_i e
    cases h
    exact .inl ⟨of_decide_eq_true e, rfl⟩
  · split at h
    · rename_i e
      cases h
      exact .inr ⟨of_decide_eq_true e, rfl⟩
    · cases h

theorem methT_ok (t : TypeId) (name : String) (f : FuncId) (h : methT t name = some f) (v : Value) (args : Array Value) (w : World) : (callMethod (.iface t v) name args).run Tryz.prog w = (callFunc f (#[v] ++ args)).run Tryz.prog w := by
  unfold methT at h
  split at h
  · rename_i e
    obtain rfl := Nat.eq_of_beq_eq_true e
    rcases pick_some h with ⟨rfl, rfl⟩ | ⟨rfl, rfl⟩
    · exact meth_run v args w (by kernel_rfl)
    · exact meth_run v args w (by kernel_rfl)
  · split at h
    · rename_i e
      obtain rfl := Nat.eq_of_beq_eq_true e
      rcases pick_some h with ⟨rfl, rfl⟩ | ⟨rfl, rfl⟩
      · exact meth_run v args w (by kernel_rfl)
      · exact meth_run v args w (by kernel_rfl)
    · split at h
      · rename_i e
        obtain rfl := Nat.eq_of_beq_eq_true e
        rcases pick_some h with ⟨rfl, rfl⟩ | ⟨rfl, rfl⟩
        · exact meth_run v args w (by kernel_rfl)
        · exact meth_run v args w (by kernel_rfl)
      · cases h

theorem plain_all : (Tryz.prog.funcs.all fun fn => !fn.body.isSome || !(fn.name == "runtime.NumGoroutine")) = true := by kernel_rfl

theorem orc_ok (two : Bool) : OrcOk Tryz.prog (orcT two) where
  meth := fun t name f h v args w => methT_ok t name f h v args w
  special := fun f args W v W' hs hr κ base w0 w args' R G ha => by
    have hg : (orcT two).gl 1 = true := by cases two <;> rfl
    have hs' : (Nat.beq f 317 || (Nat.beq f 355 || Nat.beq f 383)) = true := hs
    have hr' : (match Nat.beq f 317 with | true => blockB args W | false => match Nat.beq f 355 with | true => noZeroA args W | false => add64A args W) = some (v, W') := hr
    split at hr'
    · rename_i e
      obtain rfl := Nat.eq_of_beq_eq_true e
      exact block_special hr' R G hg ha
    · rename_i e
      split at hr'
      · rename_i e2
        obtain rfl := Nat.eq_of_beq_eq_true e2
        exact noZero_special hr' R ha
      · rename_i e2
        rw [e, e2] at hs'
        obtain rfl := Nat.eq_of_beq_eq_true (by simpa using hs')
        exact add64_special hr' R ha
  plain := fun f fn hf hb => by
    have h := plain_all
    rw [Array.all_eq_true_iff_forall_mem] at h
    have := h fn (Array.mem_of_getElem? hf)
    rw [hb] at this
    simpa using this

theorem mixed : Tryz.prog.follows .mixedOrders = true := by kernel_rfl

/-- which variables are laid, and as what -/
noncomputable def laidG (two : Bool) (g : Nat) : Option (List Value) := match g with
  | 0 => if two then some gapV else none
  | 1 => some shaK
  | _ => none

theorem startW_get (two : Bool) (i : Nat) : (startW two).heap.get i = (laidG two i).map fun c => .cells c 0 false false := by
  match i with
  | 0 => cases two <;> rfl
  | 1 => cases two <;> rfl
  | i + 2 =>
    have e : laidG two (i + 2) = none := rfl
    rw [e]
    cases two
    all_goals
      show (Tr.node _ (Tr.node _ Tr.nil Tr.nil) Tr.nil).get ((i + 1) + 1) = none
      rw [Tr.get_node_succ]
      split
      · rename_i h
        obtain ⟨m, hm⟩ : ∃ m, (i + 1) / 2 = m + 1 := ⟨(i + 1) / 2 - 1, by omega⟩
        rw [hm, Tr.get_node_succ]
        simp [Tr.get_nil]
      · rfl

theorem gap_length : gapV.length = 101 := by rfl

theorem flat_VR {κ : KM} {v v' : Value} (h : flat1 v = true) (x : VR κ v v') : v' = v := by
  cases x with
  | junk => simp [flat1, junk] at h
  | flat => rfl
  | ptr => simp [flat1] at h
  | slice => simp [flat1] at h
  | map => simp [flat1] at h
  | func => simp [flat1] at h
  | iface => simp [flat1] at h
  | agg => simp [flat1] at h
  | tuple => simp [flat1] at h

theorem eqV1_eq {a b : Value} (h : eqV1 a b = true) (hb : flat1 b = true) : a = b := by
  unfold eqV1 at h
  split at h
  · rename_i x y
    cases x <;> cases y <;> simp_all
  · rename_i k n l m
    rw [Bool.and_eq_true] at h
    rw [kno_inj h.1, eqI_eq.1 h.2]
  · rename_i x y
    cases y with
    | none =>
      cases x with
      | none => rfl
      | some => cases h
    | some => simp [flat1] at hb
  · rename_i x n c y m d
    cases y with
    | none =>
      cases x with
      | none =>
        rw [Bool.and_eq_true, Bool.and_eq_true] at h
        rw [Nat.eq_of_beq_eq_true h.1, Nat.eq_of_beq_eq_true h.2.1]
      | some =>
        rw [Bool.and_eq_true, Bool.and_eq_true] at h
        cases h.2.2
    | some => simp [flat1] at hb
  · rename_i x y
    cases y with
    | none =>
      cases x with
      | none => rfl
      | some => cases h
    | some => simp [flat1] at hb
  · rfl
  · rfl
  · cases h

theorem eqVs_eq : ∀ {l m : List Value}, eqVs l m = true → (∀ v ∈ m, flat1 v = true) → l = m
  | [], [], _, _ => rfl
  | [], _ :: _, h, _ => by cases h
  | _ :: _, [], h, _ => by cases h
  | x :: l, y :: m, h, hm => by
    have h' : (match eqV1 x y with | true => eqVs l m | false => false) = true := h
    split at h'
    · rename_i e
      rw [eqV1_eq e (hm y (by simp)), eqVs_eq h' (fun v hv => hm v (by simp [hv]))]
    · cases h'

theorem laid_of {κ : KM} {W : AW} {base : Nat} {w0 w : World} {gl : Nat → Bool} {g n : Nat} {l c : List Value} (R : RW κ W base w0 w) (G : GlR κ gl) (hg : gl g = true) (hc : W.cellsAt g 0 n = some l) (he : eqVs l c = true) (h1 : c ≠ []) (h2 : ∀ v ∈ c, flat1 v = true) : LaidAt w g c := by
  obtain rfl := eqVs_eq he h2
  obtain ⟨e, hk, e1, e2⟩ := G g hg
  obtain ⟨l', a1, a2, a3, -⟩ := load_cells R hc hk Tryz.prog
  refine ⟨h1, h2, fun j v hj => ?_⟩
  obtain ⟨v', b1, b2⟩ := a2.1.get hj
  obtain rfl := flat_VR (h2 v (List.mem_of_getElem? hj)) b2
  have := a3 j v' b1
  rw [add_at, e1, e2] at this
  simpa using this

theorem laidB_laid {two : Bool} {κ : KM} {W : AW} {base : Nat} {w0 w : World} (R : RW κ W base w0 w) (G : GlR κ (orcT two).gl) (h : laidB two W = true) : ∀ g c, laidG two g = some c → LaidAt w g c := by
  have hK : ∀ v ∈ shaK, flat1 v = true := by
    have : allL flat1 shaK = true := by kernel_rfl
    rw [allL_eq, List.all_eq_true] at this
    exact this
  have hG : ∀ v ∈ gapV, flat1 v = true := by
    have : allL flat1 gapV = true := by kernel_rfl
    rw [allL_eq, List.all_eq_true] at this
    exact this
  unfold laidB at h
  split at h
  · rename_i l hl
    split at h
    · rename_i he
      have h1 : LaidAt w 1 shaK := laid_of R G (by cases two <;> rfl) hl he (by simp [shaK]) hK
      intro g c hg
      match g with
      | 1 => cases hg; exact h1
      | 0 =>
        cases two with
        | false => cases hg
        | true =>
          cases hg
          simp only at h
          split at h
          · rename_i l2 hl2
            exact laid_of R G rfl hl2 h (by simp [gapV]) hG
          · cases h
      | g + 2 => cases hg
    · cases h
  · cases h

/-- A law without arguments that the evaluator reckons to true. -/
theorem law_true {two : Bool} {f n : Nat} {w : World} (hl : ∀ g c, laidG two g = some c → LaidAt w g c) (h : saysTrue (evZ Tryz.prog (orcT two) n (.call f []) startF (startW two)) = true) :
    Calls Tryz.prog f #[] w fun e w' => e = .returned (.bool true) ∧ Below w.heap.size w w' := by
  rw [evZ_eq] at h
  unfold saysTrue at h
  split at h
  · rename_i x a b W he
    subst h
    exact closed_true (orc_ok two) mixed (startW_get two) (fun i hi => by
      have : 8 ≤ i := by cases two <;> exact hi
      match i, this with
      | i + 8, _ => rfl) hl (fun g hg => by
      cases two with
      | true =>
        have : g < 2 := blt_lt hg
        match g, this with
        | 0, _ => simp [laidG]
        | 1, _ => simp [laidG]
      | false =>
        obtain rfl := Nat.eq_of_beq_eq_true hg
        simp [laidG]) he rfl
  · cases h

/-- .. with one function more that is known to answer true. -/
theorem orcC_ok {two : Bool} {cl : FuncId} {fn : Func} (hf : Tryz.prog.funcs[cl]? = some fn) (hb : fn.body.isSome = true)
    (hcl : ∀ w, (∀ g c, laidG two g = some c → LaidAt w g c) → Calls Tryz.prog cl #[] w fun e w' => e = .returned (.bool true) ∧ Below w.heap.size w w') : OrcOk Tryz.prog (orcC two cl) where
  meth := fun t name f h v args w => methT_ok t name f h v args w
  special := fun f args W v W' hs hr κ base w0 w args' R G ha => by
    have hr' := hr
    unfold orcC at hr'
    dsimp only at hr'
    split at hr'
    · rename_i e
      obtain rfl := Nat.eq_of_beq_eq_true e
      split at hr'
      · split at hr'
        · rename_i hl
          cases hr'
          obtain rfl := ha.nil_inv
          obtain ⟨c, hc⟩ := Option.isSome_iff_exists.1 hb
          refine ⟨_, _, run_callFunc_plain (orc_ok two) hf hc _ _, callsIn_wide.2 ((hcl w (laidB_laid R G hl)).mono ?_)⟩
          rintro e w' ⟨rfl, hB⟩
          exact ⟨κ, .flat _ rfl, RW.below R hB, Fw.below (Fw.refl κ W w) hB⟩
        · cases hr'
      · cases hr'
    · rename_i e
      have hs' : (Nat.beq f cl || (orcT two).special f) = true := hs
      rw [e] at hs'
      exact (orc_ok two).special f args W v W' (by simpa using hs') hr' κ base w0 w args' R G ha
  plain := (orc_ok two).plain

theorem law_trueC {two : Bool} {cl f n : Nat} {w : World} (ho : OrcOk Tryz.prog (orcC two cl)) (hl : ∀ g c, laidG two g = some c → LaidAt w g c) (h : saysTrue (evZ Tryz.prog (orcC two cl) n (.call f []) startF (startW two)) = true) :
    Calls Tryz.prog f #[] w fun e w' => e = .returned (.bool true) ∧ Below w.heap.size w w' := by
  rw [evZ_eq] at h
  unfold saysTrue at h
  split at h
  · rename_i x a b W he
    subst h
    exact closed_true ho mixed (startW_get two) (fun i hi => by
      have : 8 ≤ i := by cases two <;> exact hi
      match i, this with
      | i + 8, _ => rfl) hl (fun g hg => by
      cases two with
      | true =>
        have : g < 2 := blt_lt hg
        match g, this with
        | 0, _ => simp [laidG]
        | 1, _ => simp [laidG]
      | false =>
        obtain rfl := Nat.eq_of_beq_eq_true hg
        simp [laidG]) he rfl
  · cases h
end Go.Proofs.YtciplabieafkcaaGreatDoor
