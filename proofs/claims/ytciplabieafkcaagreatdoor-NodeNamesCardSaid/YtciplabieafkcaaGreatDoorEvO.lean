/-
  What the evaluator's answers say of the machine; the moves of control.
-/
import Derived.Test.YtciplabieafkcaaGreatDoorEvN
set_option linter.unusedSimpArgs false
set_option linter.unusedVariables false
namespace Go.Ev
open Go.RowKit

/-- All machines are let in; the frame may be a round's. -/
def FN (ro : Option Nat) : Fence := { Fence.wide with round := ro }

theorem fencedFN (P : Program) (ro : Option Nat) (m : Machine) : m.fenced P (FN ro) := fenced_wide P m
theorem roomFN (ro : Option Nat) (n : Nat) : (FN ro).room n := fun _ h => by cases h
theorem depthFN (ro : Option Nat) : (FN ro).depth.isSome = true → 1 ≤ 0 := fun h => by cases h
theorem oneFN {P : Program} (ro : Option Nat) {m m' : Machine} (h : step P m = .next m') : StepsIn (Machine.fenced P (FN ro)) P m m' := .one (fencedFN P ro m) h

/-- From these items on, whatever lies behind. -/
def Arr (P : Program) (ro : Option Nat) (pre : List Item) (Q : Exit → Act → World → Prop) (a : Act) (w : World) : Prop :=
  ∀ (b : Frame) (k : List Item) (cs : List Frame), b.roundOf = ro → ∃ e a' w', Q e a' w' ∧ ArrivesIn (Machine.fenced P (FN ro)) P (lone (b.atR a (pre ++ k)) cs w) b k cs e a' w'

section
variable {P : Program} {ro : Option Nat} {Q : Exit → Act → World → Prop} {b : Act} {w : World}

theorem wpIn_arr {c : Code} : c.wpIn (FN ro) 0 P Q b w ↔ Arr P ro [.code c] Q b w :=
  ⟨fun h f k cs hf => h f k cs hf trivial (roomFN ro _), fun h f k cs hf _ _ => h f k cs hf⟩

theorem Arr.mono {pre : List Item} {Q' : Exit → Act → World → Prop} (h : Arr P ro pre Q b w) (hq : ∀ e a w, Q e a w → Q' e a w) : Arr P ro pre Q' b w :=
  fun f k cs hf => let ⟨e, a', w', q, r⟩ := h f k cs hf; ⟨e, a', w', hq _ _ _ q, r⟩

/-- Some items, and behind them others: plain ones. -/
theorem Arr.seq {pre : List Item} {x : Item} {post : List Item} (hx : x.plain = true) (h : Arr P ro pre (fun e a w => match e with | .normal => Arr P ro (x :: post) Q a w | e => Q e a w) b w) (hp : ∀ y ∈ post, y.plain = true) : Arr P ro (pre ++ x :: post) Q b w := by
  intro f k cs hf
  obtain ⟨e, a', w', q, r⟩ := h f ((x :: post) ++ k) cs hf
  rw [List.append_assoc]
  have pass : ∀ (l : List Item), (∀ y ∈ l, y.plain = true) → ∀ (e : Exit) (a' : Act) (w' : World), e ≠ .normal → ∀ {m : Machine}, ArrivesIn (Machine.fenced P (FN ro)) P m f (l ++ k) cs e a' w' → ArrivesIn (Machine.fenced P (FN ro)) P m f k cs e a' w' := by
    intro l
    induction l with
    | nil => intro _ e a' w' _ m h; exact h
    | cons y l ih =>
      intro hl e a' w' hne m h
      exact ih (fun z hz => hl z (List.mem_cons_of_mem _ hz)) e a' w' hne (.pass (hl y List.mem_cons_self) (fun _ _ => .inl hne) h)
  have hall : ∀ y ∈ x :: post, y.plain = true := fun y hy => by
    cases hy with
    | head => exact hx
    | tail _ h => exact hp y h
  cases e with
  | normal =>
    obtain ⟨e2, a2, w2, q2, r2⟩ := q f k cs hf
    exact ⟨e2, a2, w2, q2, .of_steps r r2⟩
  | exit id => exact ⟨_, a', w', q, pass _ hall _ _ _ (by simp) r⟩
  | goto l => exact ⟨_, a', w', q, pass _ hall _ _ _ (by simp) r⟩
  | ret => exact ⟨_, a', w', q, pass _ hall _ _ _ (by simp) r⟩
  | panic ch => exact ⟨_, a', w', q, pass _ hall _ _ _ (by simp) r⟩
  | outgrown => exact ⟨_, a', w', q, pass _ hall _ _ _ (by simp) r⟩

theorem Arr.head {pre pre' : List Item} (hs : ∀ (f : Frame) (k : List Item) (cs : List Frame), step P (lone (f.atR b (pre ++ k)) cs w) = .next (lone (f.atR b (pre' ++ k)) cs w)) (h : Arr P ro pre' Q b w) : Arr P ro pre Q b w := by
  intro f k cs hf
  obtain ⟨e, a', w', q, r⟩ := h f k cs hf
  exact ⟨e, a', w', q, .of_steps (oneFN ro (hs f k cs)) r⟩

theorem Arr.nil (h : Q .normal b w) : Arr P ro [] Q b w := fun f k cs _ => ⟨.normal, b, w, h, .refl _⟩

theorem stepR_scope {f : Frame} {c : Code} {k : List Item} {cs : List Frame} : step P (lone (f.atR b (.code (.scope c) :: k)) cs w) = .next (lone (f.atR b (.code c :: .inScope c :: k)) cs w) :=
  step_lone_go (by simp [stepG, stepG.exec, Frame.atR])
theorem stepR_inScope {f : Frame} {c : Code} {k : List Item} {cs : List Frame} : step P (lone (f.atR b (.inScope c :: k)) cs w) = .next (lone (f.atR b k) cs w) :=
  step_lone_go (by simp [stepG, stepG.exec, Frame.atR])

/-- A scope: some code within it; where it leads to a label of the scope's, on from there. -/
theorem Arr.scope {body cur : Code} (h : Arr P ro [.code cur] (fun e a w => match e with
    | .goto l => (match findLabel body l with | some rest => Arr P ro [.code rest, .inScope body] Q a w | none => Q (.goto l) a w)
    | e => Q e a w) b w) : Arr P ro [.code cur, .inScope body] Q b w := by
  intro f k cs hf
  obtain ⟨e, a', w', q, r⟩ := h f (.inScope body :: k) cs hf
  cases e with
  | normal => exact ⟨.normal, a', w', q, StepsIn.trans r (oneFN ro stepR_inScope)⟩
  | exit id => exact ⟨_, a', w', q, fun k' hk => r.1 k' (by simpa [exitTo] using hk), fun hr hk => r.2 hr (by simpa [exitTo] using hk)⟩
  | goto l =>
    cases hl : findLabel body l with
    | some rest =>
      simp only [hl] at q
      obtain ⟨e2, a2, w2, q2, r2⟩ := q f k cs hf
      exact ⟨e2, a2, w2, q2, .of_steps (r.1 (.code rest :: .inScope body :: k) (by simp [gotoIn, hl])) r2⟩
    | none =>
      simp only [hl] at q
      exact ⟨_, a', w', q, fun k' hk => r.1 k' (by simpa [gotoIn, hl] using hk), fun hr hk => r.2 hr (by simpa [gotoIn, hl] using hk)⟩
  | ret => exact ⟨_, a', w', q, r⟩
  | panic ch => exact ⟨_, a', w', q, r⟩
  | outgrown => exact ⟨_, a', w', q, r⟩

end

def exitOf : AX → Exit
  | .normal => .normal
  | .exit id => .exit id
  | .goto l => .goto l
  | .ret => .ret

section
variable {P : Program} {orc : Orc}

/-- How a piece of code has ended. -/
def After (κ : KM) (W : AW) (w : World) (base : Nat) (w0 : World) (ans : Ans) (rnd : Option Nat) (e : Exit) (b : Act) (w' : World) : Prop :=
  e = exitOf ans.x ∧ ans.a.rnd = rnd ∧ ∃ κ', RW κ' ans.w base w0 w' ∧ Fw κ κ' W ans.w w w' ∧ FrR κ' ans.a b

theorem After.trans {κ κ' : KM} {W W' : AW} {w w1 : World} {base : Nat} {w0 : World} {ans : Ans} {rnd : Option Nat} {e : Exit} {b : Act} {w' : World} (h : Fw κ κ' W W' w w1) (x : After κ' W' w1 base w0 ans rnd e b w') : After κ W w base w0 ans rnd e b w' :=
  let ⟨h1, h2, κ2, h3, h4, h5⟩ := x; ⟨h1, h2, κ2, h3, h.trans h4, h5⟩

/-- What a call has handed back. -/
def RetR (κ : KM) (W : AW) (w : World) (base : Nat) (w0 : World) (ansv : Value) (answ : AW) (v : Value) (w' : World) : Prop :=
  ∃ κ', VR κ' ansv v ∧ RW κ' answ base w0 w' ∧ Fw κ κ' W answ w w'

def retOf (R : Value → World → Prop) : Ending → World → Prop
  | .returned v, w => R v w
  | _, _ => False

/-- What a function's value, called, comes to. -/
def AppliesTo (P : Program) (s : Sem Next) (w : World) (R : Value → World → Prop) : Prop :=
  ∃ n w1, s.run P w = .ok n w1 ∧ match n with
    | .value v => R v w1
    | .enter f as => CallsIn (FN none) 0 P f as w1 (retOf R)
    | .round l f tmps asg body => RoundIn (FN none) 0 P l f tmps asg body w1 (retOf R)
    | _ => False

/-- How a body has ended. -/
def BodyR (κ : KM) (W : AW) (w : World) (base : Nat) (w0 : World) (ans : Ans) (e : Exit) (b : Act) (w' : World) : Prop :=
  (e = .ret ∨ e = .normal) ∧ ∃ κ', RW κ' ans.w base w0 w' ∧ Fw κ κ' W ans.w w w' ∧ FrR κ' ans.a b

/-- What an answer of the evaluator's says. -/
def TaskOk (P : Program) (orc : Orc) (task : Task) (a : AF) (W : AW) (ans : Ans) : Prop :=
  ∀ (κ : KM) (base : Nat) (w0 w : World), RW κ W base w0 w → GlR κ orc.gl → match task with
  | .code c => ∀ (b : Act) (ro : Option Nat), FrR κ a b → RndR κ a.rnd ro → Arr P ro [.code c] (After κ W w base w0 ans a.rnd) b w ∧ ∀ c0, c = .loop c0 → Arr P ro [.code c0, .inLoop c0] (After κ W w base w0 ans a.rnd) b w
  | .scope body cur => ∀ (b : Act) (ro : Option Nat), FrR κ a b → RndR κ a.rnd ro → Arr P ro [.code cur, .inScope body] (After κ W w base w0 ans a.rnd) b w
  | .ops all rest => ∀ (b : Act) (ro : Option Nat), FrR κ a b → RndR κ a.rnd ro → ∀ (ops : Array Oper) (i : Nat), ops.toList = all → rest = all.drop i → i ≤ all.length → wpOpsIn (FN ro) 0 P ops (After κ W w base w0 ans a.rnd) (List.range' i (ops.size - i)) b w
  | .dops .. => True
  | .apply fn args captured => ∀ fn' args' captured', FR κ fn fn' → LR κ args args' → LR κ captured captured' → AppliesTo P (invoke (.fn fn' ⟨captured'⟩) ⟨args'⟩) w (RetR κ W w base w0 ans.v ans.w)
  | .call f args => ∀ args', LR κ args args' → CallsIn (FN none) 0 P f ⟨args'⟩ w (retOf (RetR κ W w base w0 ans.v ans.w))
  | .dcall f args => (∃ fn c, P.funcs[f]? = some fn ∧ fn.body = some c) ∧ ∀ args', LR κ args args' → CallsDIn (FN none) 0 P f ⟨args'⟩ .returning w fun e u w' => u = .returning ∧ retOf (RetR κ W w base w0 ans.v ans.w) e w'
  | .body fn _ args => ∃ c, fn.body = some c ∧ ∀ args', LR κ args args' → c.wpIn (FN none) 0 P (BodyR κ W w base w0 ans) { tmps := (⟨args'⟩ : Array Value) ++ Array.replicate (fn.ntmps - (⟨args'⟩ : Array Value).size) undef, defers := [] } w
  | .unwind ds => ∀ ds', DL κ ds ds' → ∀ (fn : Func) (tmps : Array Value) (R : Ending → World → Prop), (∀ κ' w', RW κ' ans.w base w0 w' → Fw κ κ' W ans.w w w' → ∃ v, (results fn tmps).run P w' = .ok v w' ∧ R (.returned v) w') → LeavesInM (FN none) 0 P fn tmps R ds' .returning w

def Sound (P : Program) (orc : Orc) (f : Task → AF → AW → Option Ans) : Prop := ∀ task a W ans, f task a W = some ans → TaskOk P orc task a W ans

end
end Go.Ev
