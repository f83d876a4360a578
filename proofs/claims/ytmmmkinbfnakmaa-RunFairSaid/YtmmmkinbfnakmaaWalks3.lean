/-
  The walk over the program's 'Fair': a map of counts that is cleared for each window.
-/
import Derived.Test.YtmmmkinbfnakmaaWalks2
import Derived.Maps.OwnOps
import Derived.Maps.Views
namespace Go.Proofs.Ytmmmkinbfnakmaa
open Go.ChangeMaps Go.RowKit Go.Maps
open Go.WideElems (Fit)

/-- 'clear(m)' at a map of the call's own: it reads as the empty one. -/
theorem own_cleared {H : Type} {P : Program} {k e t : TypeId} {R : Value → Option (DataW H × List MemPlace)} {w : World} {b n : Nat} {D : DataW H} (h : w.ownsMap P k R b n D) (ht : P.underlying t = some (.map k e)) (ty : TypeId) :
    ∃ w', (Builtin.clear_ #[t] ty #[.map (some b)]).run P w = .ok (.tuple #[]) w' ∧ w'.ownsMap P k R b 0 (.map []) ∧ w.grownBy w' (some b) := by
  obtain ⟨es, clock, hb, _, _, _⟩ := h
  refine ⟨setBlock w b (.map #[] clock), ?_, ⟨#[], clock, heap_setBlock_same hb _, ⟨by simp, MapKept.stamped_empty clock, by simp⟩, Nat.le_refl _, rfl⟩, ⟨rfl, rfl, rfl, by simp [setBlock], fun i _ hi => heap_setBlock_other hb _ (fun e => hi (by rw [e]))⟩⟩
  simp [Builtin.clear_, run_underlying ht, MapKept.run_getObj_map hb, MapKept.run_setObj_map _ hb, Result.andThen, setBlock]

theorem wpList_clear_own {H : Type} {P : Program} (w : World) {ops : Array Oper} {rest : List Oper} {o : Oper} {a : Act} {Q : Exit → Act → World → Prop}
    (hg : o.guard = none) (m : Operand) (t : TypeId) (hop : o.op = Op.call { callee := Callee.builtin Builtin.clear, args := #[m], argTypes := #[t] })
    (k e : TypeId) (ht : P.underlying t = some (.map k e)) (R : Value → Option (DataW H × List MemPlace)) (b n : Nat) (D : DataW H)
    (hm : a.eval m = .map (some b)) (hown : w.ownsMap P k R b n D)
    (hK : ∀ w', w'.ownsMap P k R b 0 (.map []) → w.grownBy w' (some b) → wpList P ops Q rest (a.put o.dst (.tuple #[])) w') :
    wpList P ops Q (o :: rest) a w := by
  refine wpList_plain hg fun K' hK' => ?_
  obtain ⟨w', hrun, r1, r2⟩ := own_cleared hown ht o.type
  unfold Oper.wp
  simp [execOp, hop, resolve, invoke, builtin, hm, hrun, Result.andThen]
  exact hK' _ _ (hK w' r1 r2)

theorem law3 : Keyed Try.prog 3 := int_keyed Try.underlying3
theorem zero3 (w : World) : (zeroValue 3).run Try.prog w = .ok (.int .i64 0) w := by kernel_rfl

/-- D tells of each number how often it stands in l. -/
def Tells (D : DataW Unit) (l : List Int) : Prop := Maps.IsMap D ∧ ∀ n : Int, D.atKey (.int .i64 n) (.lit (.int .i64 0)) = .lit (.int .i64 (l.count n))

theorem tells_nil : Tells (.map []) [] := ⟨Maps.isMap_empty, fun _ => rfl⟩

theorem tells_snoc {D : DataW Unit} {l : List Int} (h : Tells D l) (n c : Int) (hat : D.atKey (.int .i64 n) (.lit (.int .i64 0)) = .lit (.int .i64 c)) : Tells (D.put (.int .i64 n) (.lit (.int .i64 (c + 1)))) (l ++ [n]) := by
  refine ⟨h.1.put _ _, fun m => ?_⟩
  have hc : c = (l.count n : Nat) := by
    have := h.2 n
    rw [hat] at this
    simpa using this
  by_cases hmn : m = n
  · subst hmn
    rw [Maps.atKey_put_same h.1 (by simp [WideAt.IsKeyLit]), hc]
    simp
  · rw [Maps.atKey_put_other (by simpa using hmn), h.2 m, List.count_append]
    have : List.count m [n] = 0 := by
      rw [List.count_eq_zero]; simpa using hmn
    rw [this]; simp

theorem tells_at {D : DataW Unit} {l : List Int} (h : Tells D l) {n c : Int} (hat : D.atKey (.int .i64 n) (.lit (.int .i64 0)) = .lit (.int .i64 c)) : c = (l.count n : Nat) := by
  have := h.2 n
  rw [hat] at this
  simpa using this

theorem count_has (zs : List Int) (k : Nat) (n : Int) : (((zs.take k).count n : Nat) : Int) = 0 ↔ hasB zs k n = false := by
  unfold hasB
  rw [List.contains_eq_mem, decide_eq_false_iff_not, ← List.count_eq_zero]
  omega

end Go.Proofs.Ytmmmkinbfnakmaa
