/-
  The evaluator's moves of control are the machine's.
-/
import Derived.Test.YtciplabieafkcaaGreatDoorEvO
set_option linter.unusedSimpArgs false
set_option linter.unusedVariables false
namespace Go.Ev
open Go.RowKit

section
variable {P : Program} {orc : Orc} {f : Task → AF → AW → Option Ans} {a : AF} {W : AW} {ans : Ans}

/-- What is asked of code alone. -/
def CodeOk (P : Program) (orc : Orc) (pre : List Item) (a : AF) (W : AW) (ans : Ans) : Prop :=
  ∀ (κ : KM) (base : Nat) (w0 w : World) (b : Act) (ro : Option Nat), RW κ W base w0 w → GlR κ orc.gl → FrR κ a b → RndR κ a.rnd ro → Arr P ro pre (After κ W w base w0 ans a.rnd) b w

theorem codeOk_of {c : Code} (hne : ∀ c0, c ≠ .loop c0) (h : CodeOk P orc [.code c] a W ans) : TaskOk P orc (.code c) a W ans :=
  fun κ base w0 w R G b ro hb hr => ⟨h κ base w0 w b ro R G hb hr, fun c0 e => absurd e (hne c0)⟩

theorem code_of (hf : Sound P orc f) {c : Code} (h : f (.code c) a W = some ans) : CodeOk P orc [.code c] a W ans :=
  fun κ base w0 w b ro R G hb hr => (hf _ _ _ _ h κ base w0 w R G b ro hb hr).1

theorem After.here {κ : KM} {base : Nat} {w0 w : World} {b : Act} {x : AX} {v : Value} (R : RW κ W base w0 w) (hb : FrR κ a b) : After κ W w base w0 ⟨x, a, v, W⟩ a.rnd (exitOf x) b w :=
  ⟨rfl, rfl, κ, R, Fw.refl κ W w, hb⟩

/-- Where a piece has not ended normally, all ends so. -/
theorem After.same {κ : KM} {base : Nat} {w0 w w' : World} {b : Act} {x : AX} {a1 : AF} {v v' : Value} {W1 : AW} {rnd : Option Nat} {e : Exit} (h : After κ W w base w0 ⟨x, a1, v, W1⟩ rnd e b w') : After κ W w base w0 ⟨x, a1, v', W1⟩ rnd e b w' := h

/-- Two pieces of code, one behind the other. -/
theorem seq_ok {x : Code} {it : Item} {post : List Item} {a1 : AF} {v1 : Value} {W1 : AW} (hx : CodeOk P orc [.code x] a W ⟨.normal, a1, v1, W1⟩) (hp : it.plain = true) (hq : ∀ y ∈ post, y.plain = true) (hy : CodeOk P orc (it :: post) a1 W1 ans) : CodeOk P orc (.code x :: it :: post) a W ans := by
  intro κ base w0 w b ro R G hb hr
  refine Arr.seq (pre := [.code x]) hp ((hx κ base w0 w b ro R G hb hr).mono ?_) hq
  rintro e b' w' ⟨rfl, hrn, κ', h1, h2, h3⟩
  have hrn : a1.rnd = a.rnd := hrn
  have := hy κ' base w0 w' b' ro h1 (G.mono h2.le) h3 (by rw [hrn]; exact hr.mono h2.le)
  exact this.mono fun e b2 w2 hA => by rw [← hrn]; exact hA.trans h2

theorem seq_out {x : Code} {it : Item} {post : List Item} (hx : CodeOk P orc [.code x] a W ans) (hn : ans.x ≠ .normal) (hp : it.plain = true) (hq : ∀ y ∈ post, y.plain = true) : CodeOk P orc (.code x :: it :: post) a W ans := by
  intro κ base w0 w b ro R G hb hr
  refine Arr.seq (pre := [.code x]) hp ((hx κ base w0 w b ro R G hb hr).mono ?_) hq
  intro e b' w' hA
  obtain ⟨rfl, h2⟩ := id hA
  cases hx : ans.x with
  | normal => exact absurd hx hn
  | exit id => rw [hx] at hA; exact hA
  | goto l => rw [hx] at hA; exact hA
  | ret => rw [hx] at hA; exact hA

theorem head_ok {pre pre' : List Item} (hs : ∀ (w : World) (b : Act) (f : Frame) (k : List Item) (cs : List Frame), step P (lone (f.atR b (pre ++ k)) cs w) = .next (lone (f.atR b (pre' ++ k)) cs w)) (h : CodeOk P orc pre' a W ans) : CodeOk P orc pre a W ans :=
  fun κ base w0 w b ro R G hb hr => .head (hs w b) (h κ base w0 w b ro R G hb hr)

theorem seqc_ok (hf : Sound P orc f) {x y : Code} (h : stepA P orc f (.code (.seq x y)) a W = some ans) : CodeOk P orc [.code (.seq x y)] a W ans := by
  refine head_ok (pre' := [.code x, .code y]) (fun w b f k cs => stepR_seq) ?_
  unfold stepA at h
  simp only at h
  split at h
  · rename_i a1 v1 W1 h1
    exact seq_ok (code_of hf h1) rfl (by simp) (code_of hf h)
  · rename_i id a1 v1 W1 h1
    cases h
    exact seq_out (code_of hf h1) (by simp) rfl (by simp)
  · rename_i l a1 v1 W1 h1
    cases h
    exact seq_out (code_of hf h1) (by simp) rfl (by simp)
  · rename_i a1 v1 W1 h1
    cases h
    exact seq_out (code_of hf h1) (by simp) rfl (by simp)
  · cases h

theorem cond_ok (hf : Sound P orc f) {c : Operand} {x y : Code} (h : stepA P orc f (.code (.cond c x y)) a W = some ans) : CodeOk P orc [.code (.cond c x y)] a W ans := by
  unfold stepA at h
  simp only at h
  intro κ base w0 w b ro R G hb hr
  have hc := eval_rel hb G c
  split at h
  · rename_i hq
    rw [hq] at hc
    exact .head (fun f k cs => stepR_cond (t := true) hc.bool_inv) (code_of hf h κ base w0 w b ro R G hb hr)
  · rename_i hq
    rw [hq] at hc
    exact .head (fun f k cs => stepR_cond (t := false) hc.bool_inv) (code_of hf h κ base w0 w b ro R G hb hr)
  · cases h

theorem block_ok (hf : Sound P orc f) {id : Nat} {c : Code} (h : stepA P orc f (.code (.block id c)) a W = some ans) : CodeOk P orc [.code (.block id c)] a W ans := by
  unfold stepA at h
  simp only at h
  intro κ base w0 w b ro R G hb hr
  refine wpIn_arr.1 (wpIn_block (wpIn_arr.2 ?_))
  split at h
  · rename_i id' a1 v1 W1 h1
    refine (code_of hf h1 κ base w0 w b ro R G hb hr).mono ?_
    rintro e b' w' ⟨rfl, hA⟩
    show if id' = id then _ else _
    split at h
    · rename_i hid
      rw [if_pos (Nat.eq_of_beq_eq_true hid)]
      cases h
      exact ⟨rfl, hA⟩
    · rename_i hid
      rw [if_neg (fun q => by rw [q, Nat.beq_refl] at hid; cases hid)]
      cases h
      exact ⟨rfl, hA⟩
  · rename_i a1 v1 W1 h1
    cases h
    exact (code_of hf h1 κ base w0 w b ro R G hb hr).mono fun e b' w' ⟨he, hA⟩ => by subst he; exact ⟨rfl, hA⟩
  · rename_i l a1 v1 W1 h1
    cases h
    exact (code_of hf h1 κ base w0 w b ro R G hb hr).mono fun e b' w' ⟨he, hA⟩ => by subst he; exact ⟨rfl, hA⟩
  · rename_i a1 v1 W1 h1
    cases h
    exact (code_of hf h1 κ base w0 w b ro R G hb hr).mono fun e b' w' ⟨he, hA⟩ => by subst he; exact ⟨rfl, hA⟩
  · cases h

theorem loop_ok (hf : Sound P orc f) {c : Code} (h : stepA P orc f (.code (.loop c)) a W = some ans) : CodeOk P orc [.code c, .inLoop c] a W ans := by
  unfold stepA at h
  simp only at h
  split at h
  · rename_i a1 v1 W1 h1
    refine seq_ok (code_of hf h1) rfl (by simp) (head_ok (pre' := [.code c, .inLoop c]) (fun w b f k cs => stepR_inLoop) ?_)
    exact fun κ base w0 w b ro R G hb hr => (hf _ _ _ _ h κ base w0 w R G b ro hb hr).2 c rfl
  · rename_i id a1 v1 W1 h1
    cases h
    exact seq_out (code_of hf h1) (by simp) rfl (by simp)
  · rename_i l a1 v1 W1 h1
    cases h
    exact seq_out (code_of hf h1) (by simp) rfl (by simp)
  · rename_i a1 v1 W1 h1
    cases h
    exact seq_out (code_of hf h1) (by simp) rfl (by simp)
  · cases h

theorem scope_ok (hf : Sound P orc f) {body cur : Code} (h : stepA P orc f (.scope body cur) a W = some ans) : CodeOk P orc [.code cur, .inScope body] a W ans := by
  unfold stepA at h
  simp only at h
  intro κ base w0 w b ro R G hb hr
  refine Arr.scope ?_
  split at h
  · rename_i l a1 v1 W1 h1
    refine (code_of hf h1 κ base w0 w b ro R G hb hr).mono ?_
    rintro e b' w' ⟨rfl, hrn, κ', q1, q2, q3⟩
    have hrn : a1.rnd = a.rnd := hrn
    show match findLabel body l with | some rest => _ | none => _
    split at h
    · rename_i rest hl
      rw [hl]
      have := hf _ _ _ _ h κ' base w0 w' q1 (G.mono q2.le) b' ro q3 (by rw [hrn]; exact hr.mono q2.le)
      exact this.mono fun e b2 w2 hA => by rw [← hrn]; exact hA.trans q2
    · rename_i hl
      rw [hl]
      cases h
      exact ⟨rfl, hrn, κ', q1, q2, q3⟩
  · rename_i a1 v1 W1 h1
    cases h
    exact (code_of hf h1 κ base w0 w b ro R G hb hr).mono fun e b' w' ⟨he, hA⟩ => by subst he; exact ⟨rfl, hA⟩
  · rename_i a1 v1 W1 h1
    cases h
    exact (code_of hf h1 κ base w0 w b ro R G hb hr).mono fun e b' w' ⟨he, hA⟩ => by subst he; exact ⟨rfl, hA⟩
  · rename_i a1 v1 W1 h1
    cases h
    exact (code_of hf h1 κ base w0 w b ro R G hb hr).mono fun e b' w' ⟨he, hA⟩ => by subst he; exact ⟨rfl, hA⟩
  · cases h

end
end Go.Ev
