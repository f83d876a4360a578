/-
  Ranges over functions.
-/
import Derived.Test.YtciplabieafkcaaGreatDoorEvR
import Derived.RangeFuncNested
set_option linter.unusedSimpArgs false
set_option linter.unusedVariables false
namespace Go.Ev
open Go.RowKit

section
variable {P : Program} {orc : Orc} {f : Task → AF → AW → Option Ans} {a : AF} {W : AW} {ans : Ans}

theorem enterA_rel {κ : KM} {base : Nat} {w0 w : World} {b : Act} {ro : Option Nat} {ps : Array Tmp} {assign body : Code} {mark : List Deferred} {l : Nat} {W1 : AW} (R : RW κ W base w0 w) (hb : FrR κ a b) (hr : RndR κ a.rnd ro)
    (h : enterA a ps assign body W = some (mark, l, W1)) (fn : FuncId) :
    ∃ l' mark' w1 κ1 e, (Instr.enterLoop fn b.tmps ps assign body ro).run P w = .ok (l', mark') w1 ∧ RW κ1 W1 base w0 w1 ∧ Fw κ κ1 W W1 w w1 ∧ κ1 l = some e ∧ e.blk = l' ∧ DL κ1 mark mark' := by
  unfold enterA at h
  split at h
  · rename_i l0 hrn
    rw [hrn] at hr
    obtain ⟨r0, rfl⟩ : ∃ r0, ro = some r0 := by cases ro with | none => exact hr.elim | some r => exact ⟨r, rfl⟩
    obtain ⟨e0, he0, rfl⟩ := hr
    split at h
    · rename_i st0 p0 fn0 tm0 nt0 ps0 as0 bd0 d hg
      split at h
      · rename_i hp hput
        cases h
        obtain ⟨o, ho, hO⟩ := R.has l0 e0 he0
        rw [hg] at ho
        cases ho
        obtain ⟨arr, fd, fnr, k1, k2, k3⟩ := hO
        have hsz := R.dom d fd k3
        have hO2 : OR (κ.ext W.size ⟨w.heap.size, 0, 0, 0⟩) ⟨w.heap.size, 0, 0, 0⟩ (w.alloc (.loop { state := .ready, pending := none, fn := fn, tmps := b.tmps, params := ps, assign := assign, body := body, defers := fd.blk })) (.loop .ready none a.fn a.tmps a.nt ps.toList assign body d) :=
          ⟨b.tmps, fd, fn, alloc_new w _, hb.tmps.mono (KM.le_ext R _ (Nat.le_refl _)), KM.le_ext R _ (Nat.le_refl _) _ _ k3⟩
        obtain ⟨r1, r2⟩ := alloc_obj R hput hO2
        exact ⟨_, _, _, _, _, run_enterLoop_inner k1 fn b.tmps ps assign body, r1, r2, if_pos rfl, rfl, DL.nil _⟩
      · cases h
    · cases h
  · rename_i hrn
    rw [hrn] at hr
    have hro : ro = none := by cases ro with | none => rfl | some r => exact hr.elim
    subst hro
    split at h
    · rename_i hp hput
      split at h
      · rename_i hp2 hput2
        cases h
        have hO1 : OR (κ.ext W.size ⟨w.heap.size, 0, 0, 0⟩) ⟨w.heap.size, 0, 0, 0⟩ (w.alloc (.deferred (some []))) (.deferred (some [])) := ⟨[], alloc_new w _, DL.nil _⟩
        obtain ⟨r1, r2⟩ := alloc_obj R hput hO1
        have hput2' : ({ heap := hp, size := W.size + 1 } : AW).heap.put (.loop .ready none a.fn a.tmps a.nt ps.toList assign body W.size) ({ heap := hp, size := W.size + 1 } : AW).size = some hp2 := hput2
        have hk : (κ.ext W.size ⟨w.heap.size, 0, 0, 0⟩) W.size = some ⟨w.heap.size, 0, 0, 0⟩ := if_pos rfl
        have hle2 := KM.le_ext r1 ⟨(w.alloc (.deferred (some []))).heap.size, 0, 0, 0⟩ (Nat.le_refl (W.size + 1))
        have hO2 : OR ((κ.ext W.size ⟨w.heap.size, 0, 0, 0⟩).ext (W.size + 1) ⟨(w.alloc (.deferred (some []))).heap.size, 0, 0, 0⟩) ⟨(w.alloc (.deferred (some []))).heap.size, 0, 0, 0⟩
            ((w.alloc (.deferred (some []))).alloc (.loop { state := .ready, pending := none, fn := fn, tmps := b.tmps, params := ps, assign := assign, body := body, defers := w.heap.size })) (.loop .ready none a.fn a.tmps a.nt ps.toList assign body W.size) :=
          ⟨b.tmps, ⟨w.heap.size, 0, 0, 0⟩, fn, alloc_new _ _, (hb.tmps.mono r2.le).mono hle2, hle2 _ _ hk⟩
        obtain ⟨r3, r4⟩ := alloc_obj r1 hput2' hO2
        refine ⟨_, _, _, _, _, run_enterLoop_outer fn b.tmps ps assign body, r3, r2.trans r4, if_pos rfl, ?_, .cons (.collected _ _ (hle2 _ _ hk) _) (DL.nil _)⟩
        exact World.size_alloc w _
      · cases h
    · cases h

theorem leaves_rel {κ : KM} {base : Nat} {w0 w : World} {l : Nat} {e : KE} {jump : Option Code} {W1 : AW} (R : RW κ W base w0 w) (he : κ l = some e) (h : W.leaves l = some (jump, W1)) :
    ∃ w1, (Instr.endLoop e.blk).run P w = .ok jump w1 ∧ RW κ W1 base w0 w1 ∧ Fw κ κ W W1 w w1 := by
  unfold AW.leaves at h
  split at h
  · rename_i st p fn tm nt ps as bd d hg
    split at h
    · cases h
    · rename_i hst
      split at h
      · rename_i hp hput
        cases h
        obtain ⟨o, ho, hO⟩ := R.has l e he
        rw [hg] at ho
        cases ho
        obtain ⟨arr, fd, fnr, k1, k2, k3⟩ := hO
        have hlt := (Array.getElem?_eq_some_iff.1 k1).1
        obtain ⟨r1, r2⟩ := set_obj R he hg rfl rfl hput (obj := .loop { state := .exhausted, pending := jump, fn := fnr, tmps := arr, params := ⟨ps⟩, assign := as, body := bd, defers := fd.blk })
          ⟨arr, fd, fnr, setObj_heap_same hlt _, k2, k3⟩
        exact ⟨_, run_endLoop k1 (fun q => hst q), r1, r2⟩
      · cases h
  · cases h

theorem rangeFunc_ok (hf : Sound P orc f) (ho : OrcOk P orc) {g : Operand} {ps : Array Tmp} {assign body : Code} (h : stepA P orc f (.code (.rangeFunc g ps assign body)) a W = some ans) : CodeOk P orc [.code (.rangeFunc g ps assign body)] a W ans := by
  intro κ base w0 w b ro R G hb hr
  unfold stepA at h
  simp only at h
  split at h
  · cases h
  · rename_i mark l W1 hent
    split at h
    · rename_i gf first cap hq
      split at h
      · rename_i args ds hargs hds hbody
        rw [appO_eq] at hargs hds
        cases hargs
        cases hds
        split at h
        · cases h
        · rename_i x1 a1 v1 W2 h1
          refine wpIn_arr.1 (wpIn_rangeFunc fun fn _ => ?_)
          obtain ⟨l', mark', w1, κ1, e, k1, k2, k3, k4, k5, k6⟩ := enterA_rel (P := P) R hb hr hent fn
          have hv := (eval_rel hb G g).mono k3.le
          rw [hq] at hv
          obtain ⟨first⟩ := first
          obtain ⟨cap⟩ := cap
          obtain ⟨fn', first', cap', hv', hfn, q1, q2⟩ := hv.func_inv
          cases hfn with
          | func =>
          obtain ⟨gfn, gc, hg1, hg2⟩ := hasBody_true hbody
          have hargs : LR κ1 (first ++ .func (.yield l) #[] #[] :: cap) (first' ++ .func (.yield l') #[] #[] :: cap') := by
            refine q1.append (.cons ?_ q2)
            rw [← k5]
            exact VR.func' (.yield l e k4) (.nil _) (.nil _)
          have hcall := hf _ _ _ _ h1 κ1 base w0 w1 k2 (G.mono k3.le) _ hargs
          refine ⟨l', mark', w1, ⟨.fn (.func gf) ⟨cap'⟩, ⟨first' ++ [.func (.yield l') #[] #[]]⟩⟩, w1, gf, ⟨first' ++ .func (.yield l') #[] #[] :: cap'⟩, w1, k1, ?_, fun _ _ => trivial, ?_, depthFN ro, ?_⟩
          · unfold resolve rangeCall
            simp only [hv', Deferred.ofValue]
            rw [show (#[Operand.const (.func (.yield l') #[] #[])].map b.eval) = ⟨[.func (.yield l') #[] #[]]⟩ from by simp [Act.eval], app_arr]
            rfl
          · show (callFunc gf ((⟨first' ++ [.func (.yield l') #[] #[]]⟩ : Array Value) ++ ⟨cap'⟩)).run P w1 = _
            rw [app_arr, List.append_assoc]
            exact run_callFunc_plain ho hg1 hg2 _ w1
          · refine CallsIn.mono (F := FN ro) hcall fun en w2 hR => ?_
            cases en with
            | panicked ch => exact hR.elim
            | outgrown => exact hR.elim
            | returned v =>
              obtain ⟨κ2, p1, p2, p3⟩ := hR
              have hfr : FrR κ2 { a with defers := mark ++ a.defers } { b with defers := mark' ++ b.defers } := ⟨(hb.tmps.mono k3.le).mono p3.le, (k6.mono p3.le).append ((hb.defers.mono k3.le).mono p3.le)⟩
              split at h
              · rename_i W3 hlv
                cases h
                obtain ⟨w3, t1, t2, t3⟩ := leaves_rel (P := P) p2 (p3.le _ _ k4) hlv
                rw [k5] at t1
                exact ⟨none, w3, t1, rfl, rfl, κ2, t2, (k3.trans p3).trans t3, hfr⟩
              · rename_i j W3 hlv
                obtain ⟨w3, t1, t2, t3⟩ := leaves_rel (P := P) p2 (p3.le _ _ k4) hlv
                rw [k5] at t1
                refine ⟨some j, w3, t1, wpIn_arr.2 ?_⟩
                have := code_of hf h κ2 base w0 w3 { b with defers := mark' ++ b.defers } ro t2 ((G.mono k3.le).mono p3.le) hfr ((hr.mono k3.le).mono p3.le)
                exact this.mono fun ex b2 w4 hA => hA.trans ((k3.trans p3).trans t3)
              · cases h
      · cases h
    · cases h

end
end Go.Ev
