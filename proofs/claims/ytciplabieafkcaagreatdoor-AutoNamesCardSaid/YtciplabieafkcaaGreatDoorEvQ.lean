/-
  Calls, and regions that are carried out in turn.
-/
import Derived.Test.YtciplabieafkcaaGreatDoorEvP
set_option linter.unusedSimpArgs false
set_option linter.unusedVariables false
namespace Go.Ev
open Go.RowKit

/-- What the oracle's answers rest on. -/
structure OrcOk (P : Program) (orc : Orc) : Prop where
  meth : ∀ (t : TypeId) (name : String) (f : FuncId), orc.meth t name = some f → ∀ (v : Value) (args : Array Value) (w : World), (callMethod (.iface t v) name args).run P w = (callFunc f (#[v] ++ args)).run P w
  special : ∀ (f : FuncId) (args : List Value) (W : AW) (v : Value) (W' : AW), orc.special f = true → orc.run f args W = some (v, W') → ∀ (κ : KM) (base : Nat) (w0 w : World) (args' : List Value), RW κ W base w0 w → GlR κ orc.gl → LR κ args args' →
    AppliesTo P (callFunc f ⟨args'⟩) w (RetR κ W w base w0 v W')
  plain : ∀ (f : FuncId) (fn : Func), P.funcs[f]? = some fn → fn.body.isSome = true → (fn.name == "runtime.NumGoroutine") = false

section
variable {P : Program} {orc : Orc} {f : Task → AF → AW → Option Ans} {a : AF} {W : AW} {ans : Ans}

theorem hasBody_true {g : FuncId} (h : hasBody P g = true) : ∃ fn c, P.funcs[g]? = some fn ∧ fn.body = some c := by
  unfold hasBody at h
  split at h
  · rename_i fn hfn
    rw [lget_eq, Array.getElem?_toList] at hfn
    split at h
    · rename_i c hc; exact ⟨fn, c, hfn, hc⟩
    · cases h
  · cases h

theorem run_callFunc_plain (ho : OrcOk P orc) {g : FuncId} {fn : Func} {c : Code} (hg : P.funcs[g]? = some fn) (hb : fn.body = some c) (args : Array Value) (w : World) : (callFunc g args).run P w = .ok (.enter g args) w := by
  have h1 := ho.plain g fn hg (by rw [hb]; rfl)
  have h2 : ¬ fn.name = "runtime.NumGoroutine" := by simpa using h1
  simp [callFunc, hg, h2, hb]

theorem app_arr (l m : List Value) : ((⟨l⟩ : Array Value) ++ ⟨m⟩) = ⟨l ++ m⟩ := by apply Array.ext'; simp

theorem yield_ok (hf : Sound P orc f) {l : Nat} {args captured : List Value} (h : stepA P orc f (.apply (.yield l) args captured) a W = some ans) : TaskOk P orc (.apply (.yield l) args captured) a W ans := by
  intro κ base w0 w R G fn' args' captured' hfn ha hc
  cases hfn with
  | yield _ e he =>
  unfold stepA at h
  simp only at h
  split at h
  · rename_i p0 fn tmps nt ps asg body d hg
    split at h
    · cases h
    · rename_i t ht
      split at h
      · rename_i a' v1 W1 h1
        obtain ⟨o, ho, hO⟩ := R.has l e he
        rw [hg] at ho
        cases ho
        obtain ⟨arr, fd, fnr, k1, k2, k3⟩ := hO
        obtain ⟨hps, htr⟩ := bind_rel ht ha k2
        have hy := run_yield (P := P) (args := ⟨args'⟩) k1 (by show args'.length = ps.length; exact hps.symm)
        refine ⟨_, w, hy, ?_⟩
        refine roundIn_of_wpIn (F := FN none) (hF := trivial) ?_
        have hfold : (((⟨ps⟩ : Array Tmp).zip (⟨args'⟩ : Array Value)).foldl (fun (tmps : Array Value) (x : Nat × Value) => tmps.setIfInBounds x.1 x.2) arr) = (ps.zip args').foldl (fun (tmps : Array Value) (x : Nat × Value) => tmps.setIfInBounds x.1 x.2) arr := by
          rw [← Array.foldl_toList, Array.toList_zip]
        have hR1 : RndR κ (some l) (some e.blk) := ⟨e, he, rfl⟩
        have hfr : FrR κ { tmps := t, nt := nt, defers := [], fn := fn, rnd := some l } { tmps := ((⟨ps⟩ : Array Tmp).zip (⟨args'⟩ : Array Value)).foldl (fun (tmps : Array Value) (x : Nat × Value) => tmps.setIfInBounds x.1 x.2) arr, defers := [] } := ⟨by rw [hfold]; exact htr, DL.nil κ⟩
        have hcode := code_of hf h1 κ base w0 w _ (some e.blk) R G hfr hR1
        show Code.wpIn (FN (some e.blk)) 0 P asg _ _ w
        refine wpIn_arr.2 (hcode.mono ?_)
        rintro ex b1 w1 ⟨rfl, hrn1, κ1, q1, q2, q3⟩
        show ∃ w₂, _
        split at h
        · cases h
        · rename_i W2 hbeg
          split at h
          · cases h
          · rename_i x a2 v2 W3 h2
            split at h
            · rename_i W4 hend
              cases h
              -- the round begins
              have he1 := q2.le _ _ he
              obtain ⟨w2, hb2, q4, q5⟩ : ∃ w2, (Instr.beginRound e.blk).run P w1 = .ok () w2 ∧ RW κ1 W2 base w0 w2 ∧ Fw κ1 κ1 W1 W2 w1 w2 := by
                unfold AW.begins at hbeg
                split at hbeg
                · rename_i p1 fn1 tmps1 nt1 ps1 asg1 body1 d1 hg1
                  split at hbeg
                  · rename_i hp hput
                    cases hbeg
                    obtain ⟨o, ho, hO⟩ := q1.has l e he1
                    rw [hg1] at ho
                    cases ho
                    obtain ⟨arr1, fd1, fnr1, j1, j2, j3⟩ := hO
                    have hlt := (Array.getElem?_eq_some_iff.1 j1).1
                    obtain ⟨r1, r2⟩ := set_obj q1 he1 hg1 rfl rfl hput (obj := .loop { state := .busy, pending := p1, fn := fnr1, tmps := arr1, params := ⟨ps1⟩, assign := asg1, body := body1, defers := fd1.blk })
                      ⟨arr1, fd1, fnr1, setObj_heap_same hlt _, j2, j3⟩
                    exact ⟨_, run_beginRound j1 rfl, r1, r2⟩
                  · cases hbeg
                · cases hbeg
              refine ⟨w2, hb2, ?_⟩
              have hrn1 : a'.rnd = some l := hrn1
              have hcode2 := code_of hf h2 κ1 base w0 w2 b1 (some e.blk) q4 (G.mono q2.le) q3 (by rw [hrn1]; exact ⟨e, he1, rfl⟩)
              refine wpIn_arr.2 (hcode2.mono ?_)
              rintro ex2 b3 w3 ⟨rfl, hrn3, κ3, s1, s2, s3⟩
              have he3 := s2.le _ _ he1
              have fin : ∀ jump : Option Code, W3.ends l jump = some W4 → ∃ w4, (Instr.endRound e.blk jump).run P w3 = .ok (.bool jump.isNone) w4 ∧ RW κ3 W4 base w0 w4 ∧ Fw κ κ3 W W4 w w4 := by
                intro jump hend
                unfold AW.ends at hend
                split at hend
                · rename_i st1 p1 fn1 tmps1 nt1 ps1 asg1 body1 d1 hg1
                  split at hend
                  · rename_i hp hput
                    cases hend
                    obtain ⟨o, ho, hO⟩ := s1.has l e he3
                    rw [hg1] at ho
                    cases ho
                    obtain ⟨arr1, fd1, fnr1, j1, j2, j3⟩ := hO
                    have hlt := (Array.getElem?_eq_some_iff.1 j1).1
                    obtain ⟨r1, r2⟩ := set_obj s1 he3 hg1 rfl rfl hput (obj := .loop { state := if jump.isNone then LoopState.ready else LoopState.done, pending := jump, fn := fnr1, tmps := arr1, params := ⟨ps1⟩, assign := asg1, body := body1, defers := fd1.blk })
                      ⟨arr1, fd1, fnr1, by cases jump <;> exact setObj_heap_same hlt _, j2, j3⟩
                    exact ⟨_, run_endRound jump j1, r1, (q2.trans q5).trans (s2.trans r2)⟩
                  · cases hend
                · cases hend
              obtain ⟨w4, e1, e2, e3⟩ := fin (jumpOf x) hend
              have hret : RetR κ W w base w0 (.bool (match jumpOf x with | none => true | some _ => false)) W4 (.bool (jumpOf x).isNone) w4 := by
                refine ⟨κ3, ?_, e2, e3⟩
                cases jumpOf x <;> exact .flat _ rfl
              cases x with
              | normal => exact ⟨_, w4, e1, hret⟩
              | exit id => exact ⟨_, w4, e1, hret⟩
              | goto t => exact ⟨_, w4, e1, hret⟩
              | ret => exact ⟨_, w4, e1, hret⟩
            · cases h
      · cases h
  · cases h

theorem apply_ok (hf : Sound P orc f) (ho : OrcOk P orc) {fn : Fn} {args captured : List Value} (h : stepA P orc f (.apply fn args captured) a W = some ans) : TaskOk P orc (.apply fn args captured) a W ans := by
  cases fn with
  | yield l => exact yield_ok hf h
  | func g =>
    intro κ base w0 w R G fn' args' captured' hfn ha hc
    cases hfn with
    | func =>
    unfold stepA at h
    simp only [appO_eq] at h
    have hall := ha.append hc
    show AppliesTo P (callFunc g ((⟨args'⟩ : Array Value) ++ ⟨captured'⟩)) w _
    rw [app_arr]
    split at h
    · rename_i hsp
      split at h
      · rename_i v1 W1 hrun
        cases h
        exact ho.special g _ W _ _ hsp hrun κ base w0 w _ R G hall
      · cases h
    · split at h
      · rename_i hb
        obtain ⟨fn, c, h1, h2⟩ := hasBody_true hb
        exact ⟨_, w, run_callFunc_plain ho h1 h2 _ w, hf _ _ _ _ h κ base w0 w R G _ hall⟩
      · cases h
  | method n => unfold stepA at h; cases h
  | methodOf t n => unfold stepA at h; cases h
  | via t p g q => unfold stepA at h; cases h

/-- What the call of an operation comes to. -/
theorem callop_ok (hf : Sound P orc f) (ho : OrcOk P orc) {o : Oper} {c : Call} (hop : o.op = .call c) {fn : Fn} {args captured : List Value} {κ : KM} {base : Nat} {w0 w : World} {b : Act} (R : RW κ W base w0 w) (G : GlR κ orc.gl) (hb : FrR κ a b)
    {a2 : AF} (hc : calleeA orc.meth c (a.eval orc.gl) = some (fn, args, captured)) (h : f (.apply fn args captured) a2 W = some ans) : AppliesTo P (execOp b.eval o) w (RetR κ W w base w0 ans.v ans.w) := by
  have hρ := eval_rel hb G
  unfold calleeA at hc
  have hex : execOp b.eval o = (do let d ← resolve b.eval c o.type; invoke d.target d.args) := by rw [execOp, hop]
  split at hc
  · rename_i x hx
    have hv := hρ x
    split at hc
    · rename_i fn1 first cap hq
      rw [appO_eq] at hc
      cases hc
      rw [hq] at hv
      obtain ⟨first⟩ := first
      obtain ⟨cap⟩ := cap
      obtain ⟨fn', first', cap', hv', hfn, h1, h2⟩ := hv.func_inv
      obtain ⟨n, w1, hr, hn⟩ := hf _ _ _ _ h κ base w0 w R G fn' (first' ++ (c.args.toList.map b.eval)) cap' hfn (h1.append (by rw [mapOps_eq]; exact .map hρ _)) h2
      refine ⟨n, w1, ?_, hn⟩
      rw [hex]
      unfold resolve
      simp only [hx, hv', Deferred.ofValue]
      rw [Sem.run_bind]
      show (invoke (.fn fn' ⟨cap'⟩) ((⟨first'⟩ : Array Value) ++ c.args.map b.eval)).run P w = _
      rw [arr_map, app_arr]
      exact hr
    · cases hc
  · rename_i r name hx
    have hv := hρ r
    split at hc
    · rename_i t v0 hq
      split at hc
      · rename_i g hm
        cases hc
        rw [hq] at hv
        obtain ⟨v', hv', h1⟩ := hv.iface_inv
        obtain ⟨n, w1, hr, hn⟩ := hf _ _ _ _ h κ base w0 w R G (.func g) (v' :: (c.args.toList.map b.eval)) [] (.func g) (.cons h1 (by rw [mapOps_eq]; exact .map hρ _)) (.nil κ)
        refine ⟨n, w1, ?_, hn⟩
        rw [hex]
        unfold resolve
        simp only [hx]
        rw [Sem.run_bind]
        show (invoke (.fn (.method name) #[]) (#[b.eval r] ++ c.args.map b.eval)).run P w = _
        have eA : #[b.eval r] ++ c.args.map b.eval = ⟨b.eval r :: c.args.toList.map b.eval⟩ := by rw [arr_map]; exact app_arr [b.eval r] _
        have e2 : (⟨b.eval r :: c.args.toList.map b.eval⟩ : Array Value).extract 1 (⟨b.eval r :: c.args.toList.map b.eval⟩ : Array Value).size = c.args.map b.eval := by
          rw [arr_map]
          apply Array.ext'
          rw [Array.toList_extract]
          show (b.eval r :: c.args.toList.map b.eval).extract 1 (b.eval r :: c.args.toList.map b.eval).length = _
          rw [List.extract_eq_take_drop]
          simp only [List.drop_succ_cons, List.drop_zero, List.length_cons, Nat.add_sub_cancel]
          exact List.take_of_length_le (Nat.le_refl _)
        have e3 : (invoke (.fn (.method name) #[]) (#[b.eval r] ++ c.args.map b.eval)).run P w = (callMethod (b.eval r) name (c.args.map b.eval)).run P w := by
          rw [eA]
          unfold invoke
          simp only [e2]
          rfl
        rw [e3, hv', ho.meth t name g hm v' _ w]
        have e4 : (#[v'] ++ c.args.map b.eval) = ((⟨v' :: (c.args.toList.map b.eval)⟩ : Array Value) ++ ⟨[]⟩) := by apply Array.ext'; simp
        rw [e4]
        exact hr
      · cases hc
    · cases hc
  · cases hc

/-- An operation, within the calculus. -/
theorem wpIn_of_applies {ro : Option Nat} {o : Oper} {b : Act} {w : World} {R : Value → World → Prop} {next : Act → World → Prop} {Q : Exit → Act → World → Prop} (hnd : ∀ c, o.op ≠ .defer c) (h : AppliesTo P (execOp b.eval o) w R) (hn : ∀ v w', R v w' → next (b.put o.dst v) w') :
    o.wpIn (FN ro) 0 P b w next Q := by
  refine ⟨fun _ _ => trivial, ?_⟩
  rw [Oper.semAt_eq _ _ _ hnd]
  obtain ⟨n, w1, hr, hR⟩ := h
  rw [hr]
  cases n <;> first | exact hR.elim | skip
  · exact hn _ _ hR
  · refine ⟨depthFN ro, ?_⟩
    exact CallsIn.mono (F := FN ro) hR fun e w' he => by cases e <;> first | exact hn _ _ he | exact he.elim
  · refine ⟨depthFN ro, ?_⟩
    exact RoundIn.mono (F := FN ro) hR fun e w' he => by cases e <;> first | exact hn _ _ he | exact he.elim

theorem applies_of_eff {κ : KM} {W' : AW} {base : Nat} {w0 w : World} {s : Sem Next} {v : Value} (h : EffOk P κ W W' base w0 w s v) :
    ∃ n u w1, s.run P w = .ok n w1 ∧ (n = .value u ∨ (n = .skip ∧ u = undef)) ∧ RetR κ W w base w0 v W' u w1 :=
  let ⟨n, u, w1, κ', h1, h2, h3, h4, h5⟩ := h; ⟨n, u, w1, h1, h2, κ', h3, h4, h5⟩

theorem wpIn_of_eff {ro : Option Nat} {o : Oper} {b : Act} {κ : KM} {W' : AW} {base : Nat} {w0 w : World} {v : Value} {next : Act → World → Prop} {Q : Exit → Act → World → Prop} (hnd : ∀ c, o.op ≠ .defer c) (h : EffOk P κ W W' base w0 w (execOp b.eval o) v)
    (hn : ∀ u w', RetR κ W w base w0 v W' u w' → next (b.put o.dst u) w') : o.wpIn (FN ro) 0 P b w next Q := by
  refine ⟨fun _ _ => trivial, ?_⟩
  rw [Oper.semAt_eq _ _ _ hnd]
  obtain ⟨n, u, w1, hr, h2, h3⟩ := applies_of_eff h
  rw [hr]
  rcases h2 with rfl | ⟨rfl, rfl⟩
  · exact hn _ _ h3
  · exact hn _ _ h3

theorem kind_defer {o : Oper} (h : opKind o ≠ .defers) (c : Call) : o.op ≠ .defer c := by
  intro hc
  apply h
  unfold opKind
  rw [hc]

/-- One operation: any but a deferred call. -/
theorem opA_wp (hf : Sound P orc f) (ho : OrcOk P orc) {ro : Option Nat} {o : Oper} {v : Value} {W' : AW} {b : Act} {κ : KM} {base : Nat} {w0 w : World} {next : Act → World → Prop} {Q : Exit → Act → World → Prop} (R : RW κ W base w0 w) (G : GlR κ orc.gl) (hb : FrR κ a b)
    (h : opA P orc f o a W = some (v, W')) (hn : ∀ u w', RetR κ W w base w0 v W' u w' → next (b.put o.dst u) w') : o.wpIn (FN ro) 0 P b w next Q := by
  have hnd : opKind o ≠ .defers := by
    intro hk
    unfold opA at h
    rw [hk] at h
    cases h
  by_cases hk : opKind o = .calls
  · unfold opA at h
    rw [hk] at h
    simp only at h
    split at h
    · rename_i c hop
      split at h
      · rename_i fn args captured hc
        split at h
        · rename_i x1 a1 v1 W1 h1
          cases h
          exact wpIn_of_applies (kind_defer hnd) (callop_ok hf ho hop R G hb hc h1) hn
        · cases h
      · cases h
    · cases h
  · exact wpIn_of_eff (kind_defer hnd) (op_ok R (eval_rel hb G) h hk) hn

end
end Go.Ev
