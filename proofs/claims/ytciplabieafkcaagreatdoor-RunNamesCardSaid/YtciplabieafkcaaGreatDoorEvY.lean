/-
  The evaluator is right.
-/
import Derived.Test.YtciplabieafkcaaGreatDoorEvX
set_option linter.unusedSimpArgs false
set_option linter.unusedVariables false
namespace Go.Ev
open Go.RowKit

theorem filter_le {p p' : Nat → Bool} : ∀ (l : List Nat), (∀ j, p' j = true → p j = true) → (l.filter p').length ≤ (l.filter p).length
  | [], _ => Nat.le_refl _
  | x :: l, h => by
    have ih := filter_le l h
    cases h1 : p' x with
    | true => rw [List.filter_cons_of_pos h1, List.filter_cons_of_pos (h x h1)]; simp; exact ih
    | false =>
      rw [List.filter_cons_of_neg (by rw [h1]; simp)]
      cases h2 : p x with
      | true => rw [List.filter_cons_of_pos h2]; simp; omega
      | false => rw [List.filter_cons_of_neg (by rw [h2]; simp)]; exact ih

theorem filter_lt {p p' : Nat → Bool} {i : Nat} : ∀ (l : List Nat), i ∈ l → p i = true → p' i = false → (∀ j, p' j = true → p j = true) → (l.filter p').length < (l.filter p).length
  | [], h, _, _, _ => by cases h
  | x :: l, h, h1, h2, h3 => by
    cases h with
    | head =>
      rw [List.filter_cons_of_pos h1, List.filter_cons_of_neg (by rw [h2]; simp)]
      have := filter_le l h3
      simp; omega
    | tail _ h =>
      have ih := filter_lt l h h1 h2 h3
      cases h4 : p' x with
      | true => rw [List.filter_cons_of_pos h4, List.filter_cons_of_pos (h3 x h4)]; simp; exact ih
      | false =>
        rw [List.filter_cons_of_neg (by rw [h4]; simp)]
        cases h5 : p x with
        | true => rw [List.filter_cons_of_pos h5]; simp; omega
        | false => rw [List.filter_cons_of_neg (by rw [h5]; simp)]; exact ih

section
variable {P : Program} {orc : Orc}

/-- The listed ones. -/
def lst (listed : Array Bool) : Nat → Bool := fun i => listed.getD i false

theorem lst_set {listed : Array Bool} {i : Nat} (h : i < listed.size) : lst (listed.setIfInBounds i true) = add (lst listed) i := by
  funext j
  unfold lst add
  by_cases hj : j = i
  · subst hj
    rw [if_pos rfl]
    simp [h]
  · rw [if_neg hj]
    simp only [Array.getD_eq_getD_getElem?, Array.getElem?_setIfInBounds_ne (Ne.symm hj)]

theorem any_ok {all : List Oper} {ms : List Nat} {plan : List Item'} {ans : Ans} {κ0 : KM} {base : Nat} {w0 : World} {W0 : AW} {wS : World} {a0 : AF} {ops : Array Oper} {ro : Option Nat} (hp : Plan all ms plan) (G : GlR κ0 orc.gl) (ho : OrcOk P orc) (hops : ops.toList = all) (n : Nat)
    (hsound : ∀ m', m' < n → Sound P orc (ev P orc m')) : ∀ (fuel : Nat) (listed : Array Bool) {m : Nat} {T : List TE} {rest : List Item'} {recs : List (Nat × (AW → Bool))} {a : AF} {W : AW} {κ : KM} {b : Act} {w : World},
    DInv P orc all ms plan ans κ0 base w0 W0 wS a0 (lst listed) m T rest recs a W κ b w → (rest = [] ∨ ∃ e r, rest = e :: r ∧ isEff e.o = true) → m ≤ n → listed.size = ops.size →
    ((List.range ops.size).filter fun i => !(lst listed i)).length ≤ fuel →
    wpAnyIn (FN ro) 0 P .any ops (After κ0 W0 wS base w0 ans a0.rnd) fuel listed b w := by
  have hsz : ops.size = all.length := by rw [← hops]; simp
  have hget : ∀ i : Nat, ops[i]? = all[i]? := fun i => by rw [← hops]; simp
  -- all are listed
  have fin : ∀ {listed : Array Bool} {m : Nat} {T : List TE} {rest : List Item'} {recs : List (Nat × (AW → Bool))} {a : AF} {W : AW} {κ : KM} {b : Act} {w : World},
      DInv P orc all ms plan ans κ0 base w0 W0 wS a0 (lst listed) m T rest recs a W κ b w → (∀ i, i < ops.size → lst listed i = true) → After κ0 W0 wS base w0 ans a0.rnd .normal b w := by
    intro listed m T rest recs a W κ b w I hall
    have hitem : ∀ x ∈ plan, lst listed x.i = true := fun x hx => hall _ (by rw [hsz]; exact (List.getElem?_eq_some_iff.1 (hp.item x hx).1).1)
    have hrest : rest = [] := by
      cases rest with
      | nil => rfl
      | cons e r =>
        have h1 := I.todo e List.mem_cons_self
        rw [hitem e (by rw [I.split]; exact List.mem_append_right _ List.mem_cons_self)] at h1
        cases h1
    subst hrest
    have hrun := I.run
    cases m with
    | zero => cases hrun
    | succ m =>
      have hrun : stepA P orc (ev P orc m) (.dops all [] recs) a W = some ans := hrun
      unfold stepA at hrun
      simp only at hrun
      split at hrun
      · cases hrun
        obtain ⟨q1, q2, q3, q4⟩ := FT.get I.chain
        refine ⟨rfl, q4, κ, I.R, I.F, ⟨⟨by rw [q2]; exact I.size, fun i => ?_⟩, by rw [q3]; exact I.defers⟩⟩
        have := I.slots i
        have hs : sl (lst listed) a0.get T i = a.get i := by
          rw [q1]
          exact sl_congr (fun te hte _ => hitem te.x (by rw [I.split]; exact List.mem_append_left _ (List.mem_map.2 ⟨te, hte, rfl⟩))) rfl
        rw [hs] at this
        exact this
      · cases hrun
  -- none can come: all are listed
  have none_left : ∀ {listed : Array Bool}, listed.size = ops.size → Region.ready .any ops listed = [] → ∀ i, i < ops.size → lst listed i = true := by
    intro listed hls hr i
    induction i using Nat.strongRecOn with
    | _ i ih =>
      intro hi
      cases hl : lst listed i with
      | true => rfl
      | false =>
        exfalso
        have hoi : ops[i]? = some ops[i] := Array.getElem?_eq_getElem hi
        have : i ∈ Region.ready .any ops listed := mem_ready.2 ⟨by
          have hl' : listed.getD i false = false := hl
          have hi' : i < listed.size := by rw [hls]; exact hi
          simpa [hi'] using hl', ops[i], hoi, fun e he hb => by
            have hlt := hp.edges i ops[i] (by rw [← hget]; exact hoi) e (by simpa using he) hb
            exact ih e.on hlt (by omega)⟩
        rw [hr] at this
        cases this
  intro fuel
  induction fuel with
  | zero =>
    intro listed m T rest recs a W κ b w I hh hm hls hcnt
    have hall : ∀ i, i < ops.size → lst listed i = true := by
      intro i hi
      cases hl : lst listed i with
      | true => rfl
      | false =>
        have : i ∈ (List.range ops.size).filter fun i => !(lst listed i) := List.mem_filter.2 ⟨List.mem_range.2 hi, by simp [hl]⟩
        have := List.length_pos_of_mem this
        omega
    refine ⟨?_, fin I hall⟩
    cases hr : Region.ready .any ops listed with
    | nil => rfl
    | cons i l =>
      have hi : i ∈ Region.ready .any ops listed := by rw [hr]; exact List.mem_cons_self
      obtain ⟨h0, o, ho', -⟩ := mem_ready.1 hi
      have hlt := (Array.getElem?_eq_some_iff.1 ho').1
      have := hall i hlt
      have hi' : i < listed.size := by rw [hls]; exact hlt
      have this : listed.getD i false = true := this
      simp [hi'] at h0 this
      rw [h0] at this
      cases this
  | succ fuel ih =>
    intro listed m T rest recs a W κ b w I hh hm hls hcnt
    refine ⟨fun hr => fin I (none_left hls hr), fun i hi => ?_⟩
    obtain ⟨h0, o, ho', hedges⟩ := mem_ready.1 hi
    have hlt := (Array.getElem?_eq_some_iff.1 ho').1
    have hi' : i < listed.size := by rw [hls]; exact hlt
    have hun : lst listed i = false := by
      show listed.getD i false = false
      simp [hi'] at h0 ⊢
      exact h0
    -- what is left grows less
    have hcnt' : ((List.range ops.size).filter fun j => !(lst (listed.setIfInBounds i true) j)).length ≤ fuel := by
      have := filter_lt (p := fun j => !(lst listed j)) (p' := fun j => !(lst (listed.setIfInBounds i true) j)) (i := i) (List.range ops.size) (List.mem_range.2 hlt) (by simp [hun]) (by rw [lst_set hi']; simp [add]) (fun j hj => by
        rw [lst_set hi'] at hj
        unfold add at hj
        by_cases hji : j = i
        · rw [if_pos hji] at hj; cases hj
        · rw [if_neg hji] at hj; exact hj)
      omega
    have hls' : (listed.setIfInBounds i true).size = ops.size := by simpa using hls
    obtain ⟨x, hx, hxi⟩ := hp.cover i (by rw [← hsz]; exact hlt)
    have hit := hp.item x hx
    rw [hxi] at hit
    have hox : x.o = o := by
      have h1 := hit.1
      rw [← hget, ho'] at h1
      exact (Option.some.inj h1).symm
    have hready : ∀ j, Nat.testBit x.m j = true → lst listed j = true := ready_ahead hp I.closed hit.1 hit.2 (by
      rw [hox]
      exact fun e he hb => hedges e (by simpa using he) hb)
    rw [I.split] at hx
    rcases List.mem_append.1 hx with hx | hx
    · obtain ⟨te, hte, rfl⟩ := List.mem_map.1 hx
      subst hxi
      refine exec_pend hp G I hh hops hte hun hready fun κ' b' w' I' => ?_
      rw [← lst_set hi'] at I'
      exact ih _ I' hh hm hls' hcnt'
    · rcases hh with rfl | ⟨e, r, rfl, he⟩
      · cases hx
      · cases hx with
        | head =>
          subst hxi
          refine exec_eff hp G ho I he hops (fun m' hm' => hsound m' (by omega)) hready fun m' T' recs' a' W' κ' b' w' hm' I' => ?_
          rw [← lst_set hi'] at I'
          obtain ⟨m2, T2, r2, recs2, a2, W2, h2, I2, hh2⟩ := advance I'
          exact ih _ I2 hh2 (by omega) hls' hcnt'
        | tail _ hx =>
          exfalso
          have hpair := hp.pairs
          rw [I.split] at hpair
          have := (List.pairwise_cons.1 (List.pairwise_append.1 hpair).2.1).1 x hx
          rcases this.2 with h | ⟨h, -⟩
          · have h1 := hready _ h
            have h2 := I.todo e List.mem_cons_self
            rw [h1] at h2
            cases h2
          · rw [he] at h; cases h

/-- A region that draws its order. -/
theorem draw_ok (ho : OrcOk P orc) (hm : P.follows .mixedOrders = true) {n : Nat} (hsound : ∀ m', m' < n → Sound P orc (ev P orc m')) {m : Nat} (hmn : m ≤ n) {ops : Array Oper} {id : Nat} {plan : List Item'} {a : AF} {W : AW} {ans : Ans} (hpl : planA ops.toList = some plan)
    (h : ev P orc m (.dops ops.toList plan []) a W = some ans) : CodeOk P orc [.code (.region id ops true)] a W ans := by
  intro κ base w0 w b ro R G hb hr
  obtain ⟨ms, hp⟩ := planA_some hpl
  refine wpIn_arr.1 (wpIn_region_any hm ?_)
  have hlst : lst (Array.replicate ops.size false) = fun _ => false := by
    funext i
    unfold lst
    simp only [Array.getD_eq_getD_getElem?, Array.getElem?_replicate]
    split <;> rfl
  have I : DInv P orc ops.toList ms plan ans κ base w0 W w a (lst (Array.replicate ops.size false)) m [] plan [] a W κ b w.drew := by
    rw [hlst]
    exact ⟨h, rfl, R.drew, Fw.drew, fun _ _ => rfl, fun _ h => (by cases h), rfl, fun _ h => (by cases h), .nil, fun _ h => (by cases h), hb.tmps.1, fun t => get_rel hb t, hb.defers, fun i m j hi => (by cases hi)⟩
  obtain ⟨m2, T2, r2, recs2, a2, W2, h2, I2, hh2⟩ := advance I
  have := any_ok (ro := ro) hp G ho rfl n hsound ops.size (Array.replicate ops.size false) I2 hh2 (by omega) (by simp) (by
    refine Nat.le_trans (List.length_filter_le _ _) ?_
    simp)
  exact this

/-- One step of the evaluator. -/
theorem step_sound (ho : OrcOk P orc) (hm : P.follows .mixedOrders = true) {n : Nat} (hsound : ∀ m', m' ≤ n → Sound P orc (ev P orc m')) : Sound P orc (stepA P orc (ev P orc n)) := by
  have hf := hsound n (Nat.le_refl n)
  intro task a W ans h
  cases task with
  | code c =>
    cases c with
    | skip =>
      cases h
      exact codeOk_of (fun _ => by simp) fun κ base w0 w b ro R G hb hr => .head (pre' := []) (fun f k cs => stepR_skip) (.nil (After.here (x := .normal) R hb))
    | label l =>
      cases h
      exact codeOk_of (fun _ => by simp) fun κ base w0 w b ro R G hb hr => .head (pre' := []) (fun f k cs => stepR_label) (.nil (After.here (x := .normal) R hb))
    | ret =>
      cases h
      exact codeOk_of (fun _ => by simp) fun κ base w0 w b ro R G hb hr => wpIn_arr.1 (wpIn_ret (After.here (x := .ret) R hb))
    | exit id =>
      cases h
      exact codeOk_of (fun _ => by simp) fun κ base w0 w b ro R G hb hr => wpIn_arr.1 (wpIn_exit (After.here (x := .exit id) R hb))
    | goto l =>
      cases h
      exact codeOk_of (fun _ => by simp) fun κ base w0 w b ro R G hb hr => wpIn_arr.1 (wpIn_goto (After.here (x := .goto l) R hb))
    | seq x y => exact codeOk_of (fun _ => by simp) (seqc_ok hf h)
    | cond c x y => exact codeOk_of (fun _ => by simp) (cond_ok hf h)
    | block id c => exact codeOk_of (fun _ => by simp) (block_ok hf h)
    | loop c =>
      have h1 := loop_ok hf h
      intro κ base w0 w R G b ro hb hr
      refine ⟨.head (pre' := [.code c, .inLoop c]) (fun f k cs => stepR_loop) (h1 κ base w0 w b ro R G hb hr), fun c0 hc => ?_⟩
      cases hc
      exact h1 κ base w0 w b ro R G hb hr
    | scope c =>
      refine codeOk_of (fun _ => by simp) (head_ok (pre' := [.code c, .inScope c]) (fun w b f k cs => stepR_scope) ?_)
      unfold stepA at h
      exact fun κ base w0 w b ro R G hb hr => hf _ _ _ _ h κ base w0 w R G b ro hb hr
    | region id ops draw =>
      refine codeOk_of (fun _ => by simp) ?_
      unfold stepA at h
      simp only at h
      cases draw with
      | false =>
        intro κ base w0 w b ro R G hb hr
        have := hf _ _ _ _ h κ base w0 w R G b ro hb hr ops 0 rfl (by simp) (Nat.zero_le _)
        refine wpIn_arr.1 (wpIn_region ?_)
        rw [List.range_eq_range']
        exact this
      | true =>
        simp only at h
        split at h
        · rename_i plan hpl
          exact draw_ok ho hm (n := n + 1) (fun m' hm' => hsound m' (by omega)) (Nat.le_succ n) hpl h
        · cases h
    | rangeFunc g ps assign body => exact codeOk_of (fun _ => by simp) (rangeFunc_ok hf ho h)
    | refuse w => cases h
  | scope body cur =>
    have := scope_ok hf h
    exact fun κ base w0 w R G b ro hb hr => this κ base w0 w b ro R G hb hr
  | ops all rest => exact ops_ok hf ho h
  | dops all rest recs => exact fun _ _ _ _ _ _ => trivial
  | apply fn args captured => exact apply_ok hf ho h
  | call g args => exact callf_ok hf h
  | dcall g args => exact dcall_ok hf h
  | body fn g args => exact body_ok hf h
  | unwind ds => exact unwind_ok hf ho h

/-- THE EVALUATOR IS RIGHT. -/
theorem ev_sound (ho : OrcOk P orc) (hm : P.follows .mixedOrders = true) (n : Nat) : Sound P orc (ev P orc n) := by
  induction n using Nat.strongRecOn with
  | _ n ih =>
    cases n with
    | zero => intro task a W ans h; cases h
    | succ n => exact step_sound ho hm (n := n) fun m' hm' => ih m' (by omega)

end
end Go.Ev
