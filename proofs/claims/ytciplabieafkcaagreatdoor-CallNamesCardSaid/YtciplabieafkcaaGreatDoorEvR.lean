/-
  Regions in turn; functions; ranges over functions.
-/
import Derived.Test.YtciplabieafkcaaGreatDoorEvQ
set_option linter.unusedSimpArgs false
set_option linter.unusedVariables false
namespace Go.Ev
open Go.RowKit

section
variable {P : Program} {orc : Orc} {f : Task → AF → AW → Option Ans} {a : AF} {W : AW} {ans : Ans}

theorem deferA_rel {κ : KM} {b : Act} {o : Oper} {d : Deferred} {w : World} {ro : Option Nat} (hb : FrR κ a b) (G : GlR κ orc.gl) (hr : RndR κ a.rnd ro) (h : deferA orc.gl o a = some d) :
    ∃ d', DR κ d d' ∧ (o.semAt ro b.eval).run P w = .ok (.defer d') w := by
  unfold deferA at h
  split at h
  · rename_i x args at0 hop
    have hv := eval_rel hb G x
    split at h
    · rename_i fn first cap hrn hq
      rw [appO_eq] at h
      cases h
      rw [hq] at hv
      obtain ⟨first⟩ := first
      obtain ⟨cap⟩ := cap
      obtain ⟨fn', first', cap', hv', hfn, h1, h2⟩ := hv.func_inv
      rw [hrn] at hr
      have hro : ro = none := by cases ro <;> first | rfl | exact hr.elim
      subst hro
      refine ⟨⟨.fn fn' ⟨cap'⟩, ⟨first' ++ args.toList.map b.eval⟩⟩, .fn _ _ _ _ _ _ hfn h2 (h1.append (by rw [mapOps_eq]; exact .map (eval_rel hb G) _)), ?_⟩
      rw [Oper.semAt_none, execOp, hop]
      show ((do pure (.defer (← resolve b.eval { callee := .value x, args := args, argTypes := at0, .. } o.type))) : Sem Next).run P w = _
      unfold resolve
      simp only [hv', Deferred.ofValue]
      rw [arr_map, app_arr]
      rfl
    · cases h
  · cases h

theorem ops_ok (hf : Sound P orc f) (ho : OrcOk P orc) {all rest : List Oper} (h : stepA P orc f (.ops all rest) a W = some ans) : TaskOk P orc (.ops all rest) a W ans := by
  intro κ base w0 w R G b ro hb hr ops i hops hrest hi
  unfold stepA at h
  simp only at h
  have hsz : ops.size = all.length := by rw [← hops]; simp
  split at h
  · cases h
    have : all.length ≤ i := by
      have := congrArg List.length hrest
      rw [List.length_drop] at this
      have h0 : (0 : Nat) = all.length - i := this
      omega
    rw [show ops.size - i = 0 by omega]
    exact After.here (x := .normal) (v := undef) R hb
  · rename_i o rest
    have hlt : i < all.length := by
      rcases Nat.lt_or_ge i all.length with h1 | h1
      · exact h1
      · rw [List.drop_eq_nil_of_le h1] at hrest; cases hrest
    have hdrop : all.drop i = all[i] :: all.drop (i + 1) := List.drop_eq_getElem_cons hlt
    rw [hdrop] at hrest
    injection hrest with ho1 hrest
    have hoi : ops[i]? = some o := by rw [← Array.getElem?_toList, hops, ho1, List.getElem?_eq_getElem hlt]
    have hrng : List.range' i (ops.size - i) = i :: List.range' (i + 1) (ops.size - (i + 1)) := by
      rw [show ops.size - i = (ops.size - (i + 1)) + 1 by omega, List.range'_succ]
    rw [hrng]
    -- what comes behind
    have next : ∀ {a1 : AF} {W1 : AW} {b1 : Act} {w1 : World} {κ1 : KM}, f (.ops all rest) a1 W1 = some ans → a1.rnd = a.rnd → RW κ1 W1 base w0 w1 → Fw κ κ1 W W1 w w1 → FrR κ1 a1 b1 →
        wpOpsIn (FN ro) 0 P ops (After κ W w base w0 ans a.rnd) (List.range' (i + 1) (ops.size - (i + 1))) b1 w1 := by
      intro a1 W1 b1 w1 κ1 h1 h2 h3 h4 h5
      have := hf _ _ _ _ h1 κ1 base w0 w1 h3 (G.mono h4.le) b1 ro h5 (by rw [h2]; exact hr.mono h4.le) ops (i + 1) hops hrest (by omega)
      have hmono : ∀ (l : List Nat) (b : Act) (w : World) {Q Q' : Exit → Act → World → Prop}, (∀ e a w, Q e a w → Q' e a w) → wpOpsIn (FN ro) 0 P ops Q l b w → wpOpsIn (FN ro) 0 P ops Q' l b w := by
        intro l
        induction l with
        | nil => exact fun b w Q Q' hq h => hq _ _ _ h
        | cons j l ih =>
          intro b w Q Q' hq h
          rw [wpOpsIn_cons] at h ⊢
          unfold wpOpIn at h ⊢
          split
          · rename_i hj; simp only [hj] at h; exact ih _ _ hq h
          · rename_i o hj
            simp only [hj] at h
            split
            · rename_i hw
              rw [if_pos hw] at h
              unfold Oper.wpIn at h ⊢
              refine ⟨h.1, ?_⟩
              have h := h.2
              generalize (o.semAt (FN ro).round b.eval).run P w = r at h ⊢
              cases r with
              | ok x w' =>
                cases x <;> simp only [Oper.uponIn] at h ⊢ <;> first
                  | exact h
                  | exact ih _ _ hq h
                  | exact ⟨h.1, CallsIn.mono h.2 (fun e w'' he => by cases e <;> first | exact ih _ _ hq he | exact hq _ _ _ he | (obtain ⟨a0, w1, hh⟩ := he; exact ⟨a0, w1, hq _ _ _ hh⟩))⟩
                  | exact ⟨h.1, RowsIn.mono h.2 (fun _ _ he => ih _ _ hq he)⟩
                  | exact ⟨h.1, RoundIn.mono h.2 (fun e w'' he => by cases e <;> first | exact ih _ _ hq he | exact hq _ _ _ he | (obtain ⟨a0, w1, hh⟩ := he; exact ⟨a0, w1, hq _ _ _ hh⟩))⟩
              | halt x w' => cases x <;> simp only [Oper.uponIn] at h ⊢ <;> first | exact h | exact hq _ _ _ h
            · rename_i hw
              rw [if_neg hw] at h
              exact ⟨h.1, ih _ _ hq h.2⟩
      refine hmono _ _ _ (fun e b2 w2 hA => ?_) this
      rw [← h2]
      exact hA.trans h4
    split at h
    · cases h
    · rename_i hw
      have hw := wanted_rel hw hb hops
      split at h
      · rename_i a1 hp
        obtain ⟨h1, h2⟩ := putd_rel hb hp (undef_rel κ)
        show wpOpsIn (FN ro) 0 P ops _ (i :: _) b w
        rw [wpOpsIn_cons]
        unfold wpOpIn
        simp only [hoi, hw]
        exact ⟨fun _ _ => trivial, next h h2 R (Fw.refl κ W w) h1⟩
      · cases h
    · rename_i hw
      have hw := wanted_rel hw hb hops
      rw [wpOpsIn_cons]
      unfold wpOpIn
      simp only [hoi, hw, if_true]
      split at h
      · rename_i hk
        split at h
        · rename_i d hd
          split at h
          · rename_i a1 hp
            obtain ⟨d', k1, k2⟩ := deferA_rel (P := P) (w := w) hb G hr hd
            refine ⟨fun _ _ => trivial, ?_⟩
            rw [show (FN ro).round = ro from rfl, k2]
            have hb2 : FrR κ { a with defers := d :: a.defers } { b with defers := d' :: b.defers } := ⟨hb.tmps, .cons k1 hb.defers⟩
            obtain ⟨h1, h2⟩ := putd_rel hb2 hp (undef_rel κ)
            exact next h h2 R (Fw.refl κ W w) h1
          · cases h
        · cases h
      · split at h
        · rename_i v W1 hop
          split at h
          · rename_i a1 hp
            refine opA_wp hf ho R G hb hop ?_
            rintro u w' ⟨κ', q1, q2, q3⟩
            obtain ⟨h1, h2⟩ := putd_rel (hb.mono q3.le) hp q1
            exact next h h2 q2 q3 h1
          · cases h
        · cases h

theorem body_ok (hf : Sound P orc f) {fn : Func} {g : FuncId} {args : List Value} (h : stepA P orc f (.body fn g args) a W = some ans) : TaskOk P orc (.body fn g args) a W ans := by
  intro κ base w0 w R G
  unfold stepA at h
  simp only at h
  split at h
  · rename_i body t hbody ht
    refine ⟨body, hbody, fun args' hv => ?_⟩
    have htr := enter_rel ht hv
    have hfr : FrR κ { tmps := t, nt := Nat.max fn.ntmps (len args), defers := [], fn := g, rnd := none } { tmps := (⟨args'⟩ : Array Value) ++ Array.replicate (fn.ntmps - (⟨args'⟩ : Array Value).size) undef, defers := [] } := ⟨htr, DL.nil κ⟩
    refine wpIn_arr.2 ?_
    split at h
    · rename_i a1 v1 W1 h1
      cases h
      exact (code_of hf h1 κ base w0 w _ none R G hfr trivial).mono fun e b' w' ⟨he, _, κ', q1, q2, q3⟩ => ⟨.inl he, κ', q1, q2, q3⟩
    · rename_i a1 v1 W1 h1
      cases h
      exact (code_of hf h1 κ base w0 w _ none R G hfr trivial).mono fun e b' w' ⟨he, _, κ', q1, q2, q3⟩ => ⟨.inr he, κ', q1, q2, q3⟩
    · cases h
  · cases h

theorem lget_func {g : FuncId} {fn : Func} (h : lget P.funcs.toList g = some fn) : P.funcs[g]? = some fn := by rwa [lget_eq, Array.getElem?_toList] at h

theorem callf_ok (hf : Sound P orc f) {g : FuncId} {args : List Value} (h : stepA P orc f (.call g args) a W = some ans) : TaskOk P orc (.call g args) a W ans := by
  intro κ base w0 w R G args' hv
  unfold stepA at h
  simp only at h
  split at h
  · cases h
  · rename_i fn hfn
    have hfn := lget_func hfn
    split at h
    · cases h
    · rename_i x1 a1 v1 W1 h1
      split at h
      · cases h
      · rename_i x2 a2 v2 W2 h2
        split at h
        · rename_i vs hres
          cases h
          obtain ⟨c, hc, hcode⟩ := hf _ _ _ _ h1 κ base w0 w R G
          refine callsIn_of_wp_marks hfn hc trivial (wpIn_mono (hcode args' hv) ?_)
          rintro e b' w' ⟨he, κ1, q1, q2, q3⟩
          have hleave := hf _ _ _ _ h2 κ1 base w0 w' q1 (G.mono q2.le) b'.defers q3.defers fn b'.tmps (retOf (RetR κ W w base w0 (oneA vs) W2)) (by
            intro κ2 w2 p1 p2
            obtain ⟨v', r1, r2⟩ := results_rel p1 (q3.mono p2.le) hres
            exact ⟨v', r2, κ2, r1, p1, q2.trans p2⟩)
          rcases he with rfl | rfl
          · exact hleave
          · exact hleave
        · cases h

theorem dcall_ok (hf : Sound P orc f) {g : FuncId} {args : List Value} (h : stepA P orc f (.dcall g args) a W = some ans) : TaskOk P orc (.dcall g args) a W ans := by
  intro κ base w0 w R G
  unfold stepA at h
  simp only at h
  split at h
  · cases h
  · rename_i fn hfn
    have hfn := lget_func hfn
    split at h
    · cases h
    · rename_i x1 a1 v1 W1 h1
      split at h
      · rename_i hd
        split at h
        · rename_i vs hres
          cases h
          obtain ⟨c, hc, hcode⟩ := hf _ _ _ _ h1 κ base w0 w R G
          refine ⟨⟨fn, c, hfn, hc⟩, fun args' hv => ?_⟩
          refine callsDIn_of_wp (R := retOf (RetR κ W w base w0 (oneA vs) W1)) hfn hc trivial (wpIn_mono (hcode args' hv) ?_)
          rintro e b' w' ⟨he, κ1, q1, q2, q3⟩
          obtain ⟨v', r1, r2⟩ := results_rel q1 q3 hres
          have hds : b'.defers = [] := by
            have := q3.defers
            rw [hd] at this
            exact this.nil_inv
          have : b'.defers = [] ∧ ∃ v, (results fn b'.tmps).run P w' = .ok v w' ∧ retOf (RetR κ W w base w0 (oneA vs) W1) (.returned v) w' := ⟨hds, v', r2, κ1, r1, q1, q2⟩
          rcases he with rfl | rfl
          · exact this
          · exact this
        · cases h
      · cases h

theorem unwind_ok (hf : Sound P orc f) (ho : OrcOk P orc) {ds : List Deferred} (h : stepA P orc f (.unwind ds) a W = some ans) : TaskOk P orc (.unwind ds) a W ans := by
  intro κ base w0 w R G ds' hds fn tmps Rr hR
  unfold stepA at h
  simp only at h
  split at h
  · cases h
    rw [hds.nil_inv]
    exact hR κ w R (Fw.refl κ W w)
  · rename_i d ds
    obtain ⟨d', r', rfl, hd, hrest⟩ := hds.cons_inv
    split at h
    · rename_i bk ht
      split at h
      · rename_i hg
        split at h
        · rename_i hp hput
          cases hd with
          | fn => cases ht
          | collected r e he ar =>
          cases ht
          obtain ⟨o, ho', hO⟩ := R.has bk e he
          rw [hg] at ho'
          cases ho'
          obtain ⟨ds2, k1, k2⟩ := hO
          have k2 := k2.nil_inv
          subst k2
          have hlt := (Array.getElem?_eq_some_iff.1 k1).1
          obtain ⟨r1, r2⟩ := set_obj R he hg rfl rfl hput (obj := .deferred none) (setObj_heap_same hlt _)
          refine ⟨by simp, .inl ⟨e.blk, _, rfl, run_takeDeferred k1, ?_⟩⟩
          exact hf _ _ _ _ h κ base w0 _ r1 (G.mono r2.le) r' (hrest.mono r2.le) fn tmps Rr fun κ' w' p1 p2 => hR κ' w' p1 (r2.trans p2)
        · cases h
      · cases h
    · rename_i g cap ht
      rw [appO_eq] at h
      simp only at h
      split at h
      · rename_i x1 a1 v1 W1 h1
        cases hd with
        | collected => cases ht
        | fn fn1 fn' c c' ar ar' hfn hc har =>
        cases ht
        cases hfn with
        | func =>
        have hall := har.append hc
        obtain ⟨⟨fn2, c2, hfn2, hc2⟩, hcall⟩ := hf _ _ _ _ h1 κ base w0 w R G
        have hcall := hcall (ar' ++ c') hall
        refine ⟨by simp, .inr ⟨depthFN none, .func g, ⟨c'⟩, g, ⟨ar' ++ c'⟩, rfl, ?_, fun _ _ => trivial, ?_⟩⟩
        · show (callFunc g ((⟨ar'⟩ : Array Value) ++ ⟨c'⟩)).run P w = _
          rw [app_arr]
          exact run_callFunc_plain ho hfn2 hc2 _ w
        · refine ⟨hcall.1, fun cc cs hm hroom => ?_⟩
          obtain ⟨e, u', w', fr, ⟨hu, hR2⟩, rest⟩ := hcall.2 cc cs hm hroom
          refine ⟨e, u', w', fr, ?_, rest⟩
          subst hu
          cases e with
          | returned v =>
            obtain ⟨κ1, q1, q2, q3⟩ := hR2
            exact hf _ _ _ _ h κ1 base w0 w' q2 (G.mono q3.le) r' (hrest.mono q3.le) fn tmps Rr fun κ' w'' p1 p2 => hR κ' w'' p1 (q3.trans p2)
          | panicked ch => exact hR2.elim
          | outgrown => exact hR2.elim
      · cases h
    · cases h

end
end Go.Ev
