/-
  Regions that draw their order: carried out.
-/
import Derived.Test.YtciplabieafkcaaGreatDoorEvW
set_option linter.unusedSimpArgs false
set_option linter.unusedVariables false
namespace Go.Ev
open Go.RowKit

section
variable {P : Program} {orc : Orc} {all : List Oper} {ms : List Nat} {plan : List Item'} {ans : Ans} {κ0 : KM} {base : Nat} {w0 : World} {W0 : AW} {wS : World} {a0 : AF}
  {L : Nat → Bool} {m : Nat} {T : List TE} {rest : List Item'} {recs : List (Nat × (AW → Bool))} {a : AF} {W : AW} {κ : KM} {b : Act} {w : World} {ops : Array Oper} {ro : Option Nat} {Q : Exit → Act → World → Prop} {K : Act → World → Prop}

theorem pair_rest (hp : Plan all ms plan) (hs : plan = T.map (·.x) ++ rest) {te : TE} (hte : te ∈ T) {y : Item'} (hy : y ∈ rest) : PairOk all te.x y := by
  have h := hp.pairs
  rw [hs] at h
  exact (List.pairwise_append.1 h).2.2 te.x (List.mem_map.2 ⟨te, hte, rfl⟩) y hy

/-- One of them has been carried out. -/
theorem step_inv (hp : Plan all ms plan) (I : DInv P orc all ms plan ans κ0 base w0 W0 wS a0 L m T rest recs a W κ b w) {te : TE} (hte : te ∈ T) (hun : L te.x.i = false) (hready : ∀ j, Nat.testBit te.x.m j = true → L j = true)
    {κ' : KM} {w' : World} {u : Value} (hle : κ.le κ') (R' : RW κ' W base w0 w') (F' : Fw κ0 κ' W0 W wS w') (hv : VR κ' te.v u) (hκ : ∀ t ∈ T, t.x.i ≠ te.x.i → t.fl = true → κ t.b = none → κ' t.b = none) :
    DInv P orc all ms plan ans κ0 base w0 W0 wS a0 (add L te.x.i) m T rest recs a W κ' (b.put te.x.o.dst u) w' := by
  obtain ⟨T1, T2, rfl⟩ := List.append_of_mem hte
  have hit := item_of hp I.split (List.mem_append_right T1 (List.mem_cons_self (a := te) (l := T2)))
  refine ⟨I.run, I.split, R', F', fun y hy => ?_, fun t ht he => ?_, I.chain, fun t ht hl => ?_, I.bs, I.bW, ?_, fun s => ?_, ?_, closed_add hp I.closed hit.2 hready⟩
  · have hne := (pair_rest hp I.split hte hy).1
    unfold add
    rw [if_neg (Ne.symm hne)]
    exact I.todo y hy
  · unfold add
    split
    · rfl
    · exact I.effs t ht he
  · unfold add at hl
    by_cases hti : t.x.i = te.x.i
    · rw [if_pos hti] at hl; cases hl
    · rw [if_neg hti] at hl
      rcases I.pend t ht hl with h | ⟨h1, h | ⟨h2, h3⟩⟩
      · exact .inl h
      · exact .inr ⟨h1, .inl h⟩
      · refine .inr ⟨h1, .inr ⟨h2, h3.imp id ?_⟩⟩
        rintro ⟨k1, k2, k3, k4, k5⟩
        exact ⟨k1, k2, k3, k4, hκ t ht hti k2 k5⟩
  · rw [← I.size]
    cases te.x.o.dst <;> simp [Act.put]
  · rw [after hp I.split I.closed hun]
    have h1 := (I.slots s).mono hle
    cases hd : te.x.o.dst with
    | none => exact h1
    | some d =>
      show VR κ' (if s = d then te.v else sl L a0.get (T1 ++ te :: T2) s) ((b.tmps.setIfInBounds d u).getD s undef)
      by_cases hsd : s = d
      · subst hsd
        rw [if_pos rfl]
        -- the slot is one of the frame's
        have hlt : s < b.tmps.size := by
          have hch := I.chain
          have : ∀ {T1 : List TE} {a0 : AF}, FT a0 (T1 ++ te :: T2) a → s < a0.nt := by
            intro T1
            induction T1 with
            | nil =>
              intro a0 h
              obtain ⟨h1, a1, h2, -⟩ := h
              rw [hd] at h2
              have h2 : a0.put s te.v = some a1 := h2
              unfold AF.put at h2
              split at h2
              · rename_i hb; exact blt_lt hb
              · cases h2
            | cons t T1 ih =>
              intro a0 h
              obtain ⟨h1, a1, h2, h3⟩ := h
              have := ih h3
              rw [(put_get h2).2.1] at this
              exact this
          rw [I.size]
          exact this hch
        simp [hlt]
        exact hv
      · rw [if_neg hsd]
        simp only [Array.getD_eq_getD_getElem?, Array.getElem?_setIfInBounds_ne (Ne.symm hsd)]
        simpa only [Array.getD_eq_getD_getElem?] using h1
  · have := I.defers.mono hle
    cases te.x.o.dst <;> exact this

/-- The frame, as far as the operation looks at it. -/
theorem seen_frame (hp : Plan all ms plan) (I : DInv P orc all ms plan ans κ0 base w0 W0 wS a0 L m T rest recs a W κ b w) (hops : ops.toList = all) {te : TE} (hte : te ∈ T) (hun : L te.x.i = false) (hready : ∀ j, Nat.testBit te.x.m j = true → L j = true) :
    ops[te.x.i]? = some te.x.o ∧ ∃ a2 : AF, FrR κ a2 b ∧ wantedA all te.x.o a2 = wantedA all te.x.o te.a ∧ (∀ x ∈ te.x.o.op.operands, a2.eval orc.gl x = te.a.eval orc.gl x) := by
  obtain ⟨T1, T2, rfl⟩ := List.append_of_mem hte
  have hit := item_of hp I.split (List.mem_append_right T1 (List.mem_cons_self (a := te) (l := T2)))
  obtain ⟨-, k2, k3, k4⟩ := FT.split I.chain
  obtain ⟨a2, q1, q2, q3, q4, q5⟩ := some_slots (κ := κ) (a := te.a) (b := b) (lookL all te.x.o) (by rw [k2]; exact I.size) (by rw [k3]; exact I.defers) fun t ht => by
    rw [← agree hp I.split I.closed hun hready I.chain ht]
    exact I.slots t
  refine ⟨by rw [← Array.getElem?_toList, hops]; exact hit.1, a2, q1, wantedA_congr fun j want g d h1 h2 h3 => q5 d ?_, fun x hx => eval_congr fun t ht => q5 t ?_⟩
  · unfold lookL
    refine List.mem_append_right _ ?_
    rw [h1]
    simp only [h2, h3]
    simp
  · unfold lookL
    refine List.mem_append_left _ (List.mem_filterMap.2 ⟨x, by simpa using hx, by rw [ht]; rfl⟩)

theorem exec_pend (hp : Plan all ms plan) (G : GlR κ0 orc.gl) (I : DInv P orc all ms plan ans κ0 base w0 W0 wS a0 L m T rest recs a W κ b w) (hh : rest = [] ∨ ∃ e r, rest = e :: r ∧ isEff e.o = true) (hops : ops.toList = all) {te : TE} (hte : te ∈ T) (hun : L te.x.i = false)
    (hready : ∀ j, Nat.testBit te.x.m j = true → L j = true) (hK : ∀ κ' b' w', DInv P orc all ms plan ans κ0 base w0 W0 wS a0 (add L te.x.i) m T rest recs a W κ' b' w' → K b' w') : wpOpIn (FN ro) 0 P ops Q te.x.i K b w := by
  obtain ⟨hoi, a2, hfr, hwant, hev⟩ := seen_frame hp I hops hte hun hready
  have hrok := still_recs I.run hh
  unfold wpOpIn
  simp only [hoi]
  have hρ : ∀ x ∈ te.x.o.op.operands, a2.eval orc.gl x = te.a.eval orc.gl x := hev
  rcases I.pend te hte hun with ⟨h1, h2, h3⟩ | ⟨h1, h⟩
  · have hw := wanted_rel (hwant.trans h1) hfr hops
    simp only [hw]
    exact ⟨fun _ _ => trivial, hK κ _ w (step_inv hp I hte hun hready (fun _ _ h => h) I.R I.F (by rw [h2]; exact undef_rel κ) fun _ _ _ _ h => h)⟩
  · have hw := wanted_rel (hwant.trans h1) hfr hops
    simp only [hw, if_true]
    have hG := G.mono I.F.le
    have hρ2 := eval_rel hfr hG
    have fin : ∀ {κ' : KM} {u : Value} {w' : World}, κ.le κ' → RW κ' W base w0 w' → Fw κ0 κ' W0 W wS w' → VR κ' te.v u → (∀ t ∈ T, t.x.i ≠ te.x.i → t.fl = true → κ t.b = none → κ' t.b = none) → K (b.put te.x.o.dst u) w' :=
      fun h1 h2 h3 h4 h5 => hK _ _ _ (step_inv hp I hte hun hready h1 h2 h3 h4 h5)
    have value : ∀ {u : Value} {w' : World}, opKind te.x.o ≠ .defers → (execOp b.eval te.x.o).run P w = .ok (.value u) w' → K (b.put te.x.o.dst u) w' → te.x.o.wpIn (FN ro) 0 P b w K Q := by
      intro u w' hnd hr hk
      refine ⟨fun _ _ => trivial, ?_⟩
      rw [Oper.semAt_eq _ _ _ (kind_defer hnd), hr]
      exact hk
    rcases h with ⟨hk, h2, h3⟩ | ⟨hmem, h⟩
    · rw [← stillA_congr hρ] at h3
      obtain ⟨u, k1, k2⟩ := still_ok hρ2 h3
      exact value (by rw [hk]; simp) (k2 w) (fin (fun _ _ h => h) I.R I.F k1 fun _ _ _ _ h => h)
    · have hrec := recsOk_mem hrok _ _ hmem
      unfold recOf at hrec
      rcases h with ⟨hk, hfl⟩ | ⟨hk, hfl, ⟨c, vf, hf, hv⟩, hsz, hnone⟩
      · rw [hk] at hrec
        simp only at hrec
        split at hrec
        · rename_i v' hr
          have hvv := eqV_eq hrec
          rw [← readA_congr hρ] at hr
          obtain ⟨u, k1, k2⟩ := read_ok I.R hρ2 hr
          rw [← hvv] at k1
          exact value (by rw [hk]; simp) k2 (fin (fun _ _ h => h) I.R I.F k1 fun _ _ _ _ h => h)
        · cases hrec
      · rw [hk] at hrec
        simp only at hrec
        split at hrec
        · rename_i c1 vf1 c2 h1' h2'
          have hcc := eqVs_eq hrec
          subst hcc
          have hcv : (c1, vf1) = (c, vf) := by rw [hf] at h1'; exact (Option.some.inj h1').symm
          cases hcv
          rw [← floatA_congr hρ] at hf
          obtain ⟨c', el, uf, k1, k2, k3⟩ := float_ok hρ2 hf
          obtain ⟨κ', hκd, hle, hR, hnew⟩ := adopt (el := el) I.R hnone h2' k1
          have hkb : κ' te.b = some ⟨w.heap.size, 0, c.length, c'.length⟩ := by rw [hκd]; exact if_pos rfl
          refine value (by rw [hk]; simp) (k2 w) (fin hle hR ⟨fun i e h => hle _ _ (I.F.le i e h), fun i e h => ?_, fun k hk' hno => ?_, ?_, I.F.wsize⟩ (by rw [hv]; exact k3 κ' te.b _ hkb rfl) fun t ht hne hfl' hn => ?_)
          · rcases hnew i e h with h | ⟨h4, h5⟩
            · exact I.F.new i e h
            · exact .inr ⟨by rw [h4]; exact hsz, .inl (by rw [h5]; exact I.F.grow)⟩
          · rw [← I.F.frame k hk' hno]
            show (w.heap.push _)[k]? = _
            have := I.F.grow
            rw [Array.getElem?_push, if_neg (by omega)]
          · have := I.F.grow
            show wS.heap.size ≤ (w.heap.push _).size
            rw [Array.size_push]
            omega
          · cases hh : κ' t.b with
            | none => rfl
            | some e =>
              rcases hnew _ _ hh with h | ⟨h4, -⟩
              · rw [hn] at h; cases h
              · exfalso
                obtain ⟨T1, T2, rfl⟩ := List.append_of_mem hte
                have hb := I.bs
                rw [List.pairwise_append, List.pairwise_cons] at hb
                rcases List.mem_append.1 ht with h | h
                · have := hb.2.2 t h te List.mem_cons_self hfl'
                  omega
                · cases h with
                  | head => exact hne rfl
                  | tail _ h =>
                    have := hb.2.1.1 t h hfl
                    omega
        · cases hrec

theorem mem_keep {e : Item'} {i : Nat} {f : AW → Bool} (h : (i, f) ∈ recs) (ht : Nat.testBit e.m i = false) : (i, f) ∈ keepL (fun x => !(Nat.testBit e.m x.1)) recs :=
  mem_keepL.2 ⟨h, by simp [ht]⟩

theorem exec_eff (hp : Plan all ms plan) (G : GlR κ0 orc.gl) (ho : OrcOk P orc) {e : Item'} {r : List Item'} (I : DInv P orc all ms plan ans κ0 base w0 W0 wS a0 L m T (e :: r) recs a W κ b w) (he : isEff e.o = true) (hops : ops.toList = all)
    (hsound : ∀ m', m' < m → Sound P orc (ev P orc m')) (hready : ∀ j, Nat.testBit e.m j = true → L j = true)
    (hK : ∀ m' T' recs' a' W' κ' b' w', m' < m → DInv P orc all ms plan ans κ0 base w0 W0 wS a0 (add L e.i) m' T' r recs' a' W' κ' b' w' → K b' w') : wpOpIn (FN ro) 0 P ops Q e.i K b w := by
  have hun := I.todo e List.mem_cons_self
  have hrun := I.run
  cases m with
  | zero => cases hrun
  | succ m =>
    have hrun : stepA P orc (ev P orc m) (.dops all (e :: r) recs) a W = some ans := hrun
    unfold stepA at hrun
    obtain ⟨ei, eo, em⟩ := e
    have he : isEff eo = true := he
    simp only [he] at hrun
    split at hrun
    · cases hrun
    · -- what stands behind it
      have mk : ∀ {v : Value} {a' : AF} {W' : AW}, ev P orc m (.dops all r (keepL (fun x => !(Nat.testBit em x.1)) recs)) a' W' = some ans → a.putd eo.dst v = some a' →
          (∃ T', T' = T ++ [⟨⟨ei, eo, em⟩, v, a, W.size, false⟩] ∧ (∀ {κ' : KM} {w' : World}, W.size ≤ W'.size → RW κ' W' base w0 w' → Fw κ κ' W W' w w' → ∀ u, VR κ' v u → DInv P orc all ms plan ans κ0 base w0 W0 wS a0 (add L ei) m T' r (keepL (fun x => !(Nat.testBit em x.1)) recs) a' W' κ' (b.put eo.dst u) w')) ∧
          ops[ei]? = some eo ∧ ∃ a2 : AF, FrR κ a2 b ∧ wantedA all eo a2 = wantedA all eo a ∧ (∀ x ∈ eo.op.operands, a2.eval orc.gl x = a.eval orc.gl x) := by
        intro v a' W' h1 h2
        have hfull : plan = (T ++ (⟨⟨ei, eo, em⟩, v, a, W.size, false⟩ : TE) :: []).map (·.x) ++ r := by rw [I.split]; simp
        have hch : FT a0 (T ++ (⟨⟨ei, eo, em⟩, v, a, W.size, false⟩ : TE) :: []) a' := I.chain.append rfl h2
        have hslot : ∀ t, sl L a0.get (T ++ (⟨⟨ei, eo, em⟩, v, a, W.size, false⟩ : TE) :: []) t = sl L a0.get T t := by
          intro t
          rw [sl_append]
          show sl L (if L ei = true then _ else sl L a0.get T) [] t = _
          have hun : L ei = false := hun
          rw [hun]; rfl
        have hit := item_of (te := ⟨⟨ei, eo, em⟩, v, a, W.size, false⟩) hp hfull (List.mem_append_right T List.mem_cons_self)
        obtain ⟨-, k2, k3, k4⟩ := FT.split hch
        refine ⟨⟨_, rfl, fun {κ' w'} hsz hR hF u hv => ?_⟩, by rw [← Array.getElem?_toList, hops]; exact hit.1, ?_⟩
        · refine ⟨h1, hfull, hR, I.F.trans hF, fun y hy => ?_, fun t ht hte => ?_, hch, fun t ht hl => ?_, ?_, fun t ht hfl => ?_, ?_, fun s => ?_, ?_, closed_add hp I.closed hit.2 hready⟩
          · have hpair := hp.pairs
            rw [I.split] at hpair
            have := (List.pairwise_cons.1 (List.pairwise_append.1 hpair).2.1).1 y hy
            unfold add
            rw [if_neg (Ne.symm this.1)]
            exact I.todo y (List.mem_cons_of_mem _ hy)
          · unfold add
            split
            · rfl
            · rename_i hne
              rcases List.mem_append.1 ht with h | h
              · exact I.effs t h hte
              · rw [List.mem_singleton] at h
                subst h
                exact absurd rfl hne
          · unfold add at hl
            split at hl
            · cases hl
            · rename_i hne
              rcases List.mem_append.1 ht with h | h
              · have hnot : Nat.testBit em t.x.i = false := by
                  cases hb : Nat.testBit em t.x.i with
                  | false => rfl
                  | true => have := hready _ hb; rw [hl] at this; cases this
                have := (I.pend t h hl).recs (recs' := keepL (fun x => !(Nat.testBit em x.1)) recs) fun f hf => mem_keep (e := ⟨ei, eo, em⟩) hf hnot
                rcases this with h | ⟨h1, h | ⟨h2, h3⟩⟩
                · exact .inl h
                · exact .inr ⟨h1, .inl h⟩
                · refine .inr ⟨h1, .inr ⟨h2, h3.imp id ?_⟩⟩
                  rintro ⟨q1, q2, q3, q4, q5⟩
                  refine ⟨q1, q2, q3, q4, ?_⟩
                  cases hh : κ' t.b with
                  | none => rfl
                  | some e' =>
                    rcases hF.new _ _ hh with h6 | ⟨h6, -⟩
                    · rw [q5] at h6; cases h6
                    · have := I.bW t h q2; omega
              · rw [List.mem_singleton] at h
                subst h
                exact absurd rfl hne
          · refine List.pairwise_append.2 ⟨I.bs, List.pairwise_singleton _ _, fun t ht t' ht' hfl => ?_⟩
            rw [List.mem_singleton] at ht'
            subst ht'
            exact I.bW t ht hfl
          · rcases List.mem_append.1 ht with h | h
            · exact Nat.lt_of_lt_of_le (I.bW t h hfl) hsz
            · rw [List.mem_singleton] at h
              subst h
              cases hfl
          · rw [← I.size]
            cases eo.dst <;> simp [Act.put]
          · have hun' : L (⟨⟨ei, eo, em⟩, v, a, W.size, false⟩ : TE).x.i = false := hun
            have haf := after hp hfull I.closed hun' a0.get s
            have haf : sl (add L ei) a0.get (T ++ (⟨⟨ei, eo, em⟩, v, a, W.size, false⟩ : TE) :: []) s = upd (sl L a0.get (T ++ (⟨⟨ei, eo, em⟩, v, a, W.size, false⟩ : TE) :: [])) eo.dst v s := haf
            show VR κ' (sl (add L ei) a0.get (T ++ (⟨⟨ei, eo, em⟩, v, a, W.size, false⟩ : TE) :: []) s) _
            rw [haf]
            have hs0 := (I.slots s).mono hF.le
            rw [← hslot s] at hs0
            cases hd : eo.dst with
            | none => exact hs0
            | some d =>
              show VR κ' (if s = d then v else sl L a0.get _ s) ((b.tmps.setIfInBounds d u).getD s undef)
              by_cases hsd : s = d
              · subst hsd
                rw [if_pos rfl]
                have hlt : s < b.tmps.size := by
                  rw [I.size, ← (FT.get I.chain).2.1]
                  rw [hd] at h2
                  have h2 : a.put s v = some a' := h2
                  unfold AF.put at h2
                  split at h2
                  · rename_i hb; exact blt_lt hb
                  · cases h2
                simp [hlt]
                exact hv
              · rw [if_neg hsd]
                simp only [Array.getD_eq_getD_getElem?, Array.getElem?_setIfInBounds_ne (Ne.symm hsd)]
                simpa only [Array.getD_eq_getD_getElem?] using hs0
          · have := I.defers.mono hF.le
            cases eo.dst <;> exact this
        · obtain ⟨a2, q1, q2, q3, q4, q5⟩ := some_slots (κ := κ) (a := a) (b := b) (lookL all eo) (by rw [(FT.get I.chain).2.1]; exact I.size) (by rw [(FT.get I.chain).2.2.1]; exact I.defers) fun t ht => by
            have hun' : L (⟨⟨ei, eo, em⟩, v, a, W.size, false⟩ : TE).x.i = false := hun
            have := agree hp hfull I.closed hun' hready hch (t := t) ht
            rw [← show sl L a0.get (T ++ (⟨⟨ei, eo, em⟩, v, a, W.size, false⟩ : TE) :: []) t = a.get t from this, hslot]
            exact I.slots t
          refine ⟨a2, q1, wantedA_congr fun j want g d h1 h2 h3 => q5 d ?_, fun x hx => eval_congr fun t ht => q5 t ?_⟩
          · unfold lookL
            refine List.mem_append_right _ ?_
            rw [h1]
            simp only [h2, h3]
            simp
          · unfold lookL
            refine List.mem_append_left _ (List.mem_filterMap.2 ⟨x, by simpa using hx, by rw [ht]; rfl⟩)
      split at hrun
      · cases hrun
      · rename_i hw
        split at hrun
        · rename_i a' hput
          obtain ⟨⟨T', hT', hmk⟩, hoi, a2, hfr, hwant, hev⟩ := mk (v := undef) hrun hput
          have hw2 := wanted_rel (hwant.trans hw) hfr hops
          unfold wpOpIn
          simp only [hoi, hw2]
          exact ⟨fun _ _ => trivial, hK m T' _ a' W κ _ w (Nat.lt_succ_self m) (hmk (Nat.le_refl _) I.R (Fw.refl κ W w) _ (undef_rel κ))⟩
        · cases hrun
      · rename_i hw
        split at hrun
        · rename_i v W' hop
          split at hrun
          · rename_i a' hput
            obtain ⟨⟨T', hT', hmk⟩, hoi, a2, hfr, hwant, hev⟩ := mk (v := v) hrun hput
            have hw2 := wanted_rel (hwant.trans hw) hfr hops
            unfold wpOpIn
            simp only [hoi, hw2, if_true]
            rw [← opA_congr hev] at hop
            refine opA_wp (hsound m (Nat.lt_succ_self m)) ho I.R (G.mono I.F.le) hfr hop ?_
            rintro u w' ⟨κ', q1, q2, q3⟩
            exact hK m T' _ a' W' κ' _ w' (Nat.lt_succ_self m) (hmk q3.wsize q2 q3 u q1)
          · cases hrun
        · cases hrun

end
end Go.Ev
