/-
  Towards regions that draw their order: equal values, trees, frames, plans.
-/
import Derived.Test.YtciplabieafkcaaGreatDoorEvT
set_option linter.unusedSimpArgs false
set_option linter.unusedVariables false
namespace Go.Ev
open Go.RowKit

/-! ### what is surely the same -/
theorem eqO_eq {a b : Option Nat} (h : eqO a b = true) : a = b := by
  cases a <;> cases b <;> first | rfl | (cases h; done) | (rw [Nat.eq_of_beq_eq_true h])

theorem eqA_eq {a b : Addr} (h : eqA a b = true) : a = b := by
  obtain ⟨a, o, s⟩ := a
  obtain ⟨a', o', s'⟩ := b
  simp only [eqA, Bool.and_eq_true] at h
  rw [Nat.eq_of_beq_eq_true h.1, Nat.eq_of_beq_eq_true h.2.1, eqO_eq h.2.2]

theorem eqOA_eq {a b : Option Addr} (h : eqOA a b = true) : a = b := by
  cases a <;> cases b <;> first | rfl | (cases h; done) | (rw [eqA_eq h])

theorem eqV1_eq {a b : Value} (h : eqV1 a b = true) : a = b := by
  unfold eqV1 at h
  split at h
  · rename_i a b
    cases a <;> cases b <;> first | rfl | cases h
  · simp only [Bool.and_eq_true] at h
    rw [kno_inj h.1, eqI_eq.1 h.2]
  · rw [eqOA_eq h]
  · simp only [Bool.and_eq_true] at h
    rw [Nat.eq_of_beq_eq_true h.1, Nat.eq_of_beq_eq_true h.2.1, eqOA_eq h.2.2]
  · rw [eqO_eq h]
  · rfl
  · rfl
  · cases h

theorem eqVs_eq : ∀ {a b : List Value}, eqVs a b = true → a = b
  | [], [], _ => rfl
  | [], _ :: _, h => by
    have h' : false = true := h
    cases h'
  | _ :: _, [], h => by
    have h' : false = true := h
    cases h'
  | x :: a, y :: b, h => by
    have h' : (match eqV1 x y with | true => eqVs a b | false => false) = true := h
    split at h'
    · rename_i h1
      rw [eqV1_eq h1, eqVs_eq h']
    · cases h'

theorem eqV_eq {a b : Value} (h : eqV a b = true) : a = b := by
  unfold eqV at h
  split at h
  · rename_i a b
    have := eqVs_eq h
    obtain ⟨a⟩ := a
    obtain ⟨b⟩ := b
    rw [show a = b from this]
  · simp only [Bool.and_eq_true] at h
    rw [Nat.eq_of_beq_eq_true h.1, eqV1_eq h.2]
  · rename_i f a b g c d
    simp only [Bool.and_eq_true] at h
    have h1 := eqVs_eq h.2.1
    have h2 := eqVs_eq h.2.2
    obtain ⟨a⟩ := a
    obtain ⟨b⟩ := b
    obtain ⟨c⟩ := c
    obtain ⟨d⟩ := d
    rw [Nat.eq_of_beq_eq_true h.1, show a = c from h1, show b = d from h2]
  · rename_i f a b g c d
    simp only [Bool.and_eq_true] at h
    have h1 := eqVs_eq h.2.1
    have h2 := eqVs_eq h.2.2
    obtain ⟨a⟩ := a
    obtain ⟨b⟩ := b
    obtain ⟨c⟩ := c
    obtain ⟨d⟩ := d
    rw [Nat.eq_of_beq_eq_true h.1, show a = c from h1, show b = d from h2]
  · exact eqV1_eq h

/-! ### trees -/
theorem Tr.set_any {α : Type} (x : α) : ∀ (n : Nat) (t : Tr α), ∃ t' : Tr α, ∀ m, t'.get m = if m = n then some x else t.get m := by
  intro n
  induction n using Nat.strongRecOn with
  | _ n ih =>
    intro t
    cases n with
    | zero =>
      cases t with
      | nil =>
        refine ⟨.node (some x) .nil .nil, fun m => ?_⟩
        cases m with
        | zero => rfl
        | succ m => rw [Tr.get_node_succ]; simp [Tr.get_nil]
      | node v l r =>
        refine ⟨.node (some x) l r, fun m => ?_⟩
        cases m with
        | zero => rfl
        | succ m => rw [Tr.get_node_succ, Tr.get_node_succ]; simp
    | succ n =>
      obtain ⟨v, l, r, ht⟩ : ∃ v l r, ∀ m, t.get m = (Tr.node v l r).get m := by
        cases t with
        | nil => exact ⟨none, .nil, .nil, fun m => by cases m with | zero => rfl | succ m => rw [Tr.get_node_succ]; simp [Tr.get_nil]⟩
        | node v l r => exact ⟨v, l, r, fun _ => rfl⟩
      rcases Nat.mod_two_eq_zero_or_one n with e | e
      · obtain ⟨l', hl⟩ := ih (n / 2) (by omega) l
        refine ⟨.node v l' r, fun m => ?_⟩
        rw [ht]
        cases m with
        | zero => simp [Tr.get_node_zero]
        | succ m =>
          rw [Tr.get_node_succ, Tr.get_node_succ]
          by_cases hm : m % 2 = 0
          · rw [if_pos hm, if_pos hm, hl]
            by_cases e2 : m = n
            · subst e2; simp
            · rw [if_neg (by omega), if_neg (by omega)]
          · rw [if_neg hm, if_neg hm, if_neg (by omega)]
      · obtain ⟨r', hr⟩ := ih (n / 2) (by omega) r
        refine ⟨.node v l r', fun m => ?_⟩
        rw [ht]
        cases m with
        | zero => simp [Tr.get_node_zero]
        | succ m =>
          rw [Tr.get_node_succ, Tr.get_node_succ]
          by_cases hm : m % 2 = 0
          · rw [if_pos hm, if_pos hm, if_neg (by omega)]
          · rw [if_neg hm, if_neg hm, hr]
            by_cases e2 : m = n
            · subst e2; simp
            · rw [if_neg (by omega), if_neg (by omega)]

theorem Tr.of_fn {α : Type} (g : Nat → α) : ∀ n, ∃ t : Tr α, ∀ m, t.get m = if m < n then some (g m) else none
  | 0 => ⟨.nil, fun m => by simp [Tr.get_nil]⟩
  | n + 1 => by
    obtain ⟨t, ht⟩ := Tr.of_fn g n
    obtain ⟨t', ht'⟩ := Tr.set_any (g n) n t
    refine ⟨t', fun m => ?_⟩
    rw [ht', ht]
    by_cases h : m = n
    · subst h; simp
    · rw [if_neg h]
      by_cases h2 : m < n
      · rw [if_pos h2, if_pos (by omega)]
      · rw [if_neg h2, if_neg (by omega)]

/-! ### a frame of which just some slots are told -/
section
variable {P : Program} {orc : Orc} {κ : KM}

theorem list_bound (l : List Nat) : ∃ N, ∀ t ∈ l, t < N := by
  induction l with
  | nil => exact ⟨0, fun t h => by cases h⟩
  | cons x l ih =>
    obtain ⟨N, h⟩ := ih
    refine ⟨N + x + 1, fun t ht => ?_⟩
    cases ht with
    | head => omega
    | tail _ h' => have := h t h'; omega

theorem some_slots {a : AF} {b : Act} (looked : List Nat) (hs : b.tmps.size = a.nt) (hd : DL κ a.defers b.defers) (h : ∀ t ∈ looked, VR κ (a.get t) (b.tmps.getD t undef)) :
    ∃ a2 : AF, FrR κ a2 b ∧ a2.rnd = a.rnd ∧ a2.nt = a.nt ∧ a2.defers = a.defers ∧ ∀ t ∈ looked, a2.get t = a.get t := by
  obtain ⟨N, hN⟩ := list_bound looked
  obtain ⟨t, ht⟩ := Tr.of_fn (fun i => if i ∈ looked then a.get i else if i < a.nt then junk else undef) (N + a.nt)
  refine ⟨{ a with tmps := t }, ⟨⟨hs, fun i => ?_⟩, hd⟩, rfl, rfl, rfl, fun i hi => ?_⟩
  · rw [ht]
    have hout : ¬ i < a.nt → b.tmps.getD i undef = undef := fun hi => by
      rw [Array.getD_eq_getD_getElem?, Array.getElem?_eq_none (by omega)]; rfl
    by_cases hi : i < N + a.nt
    · rw [if_pos hi]
      show VR κ (if i ∈ looked then a.get i else if i < a.nt then junk else undef) _
      by_cases hl : i ∈ looked
      · rw [if_pos hl]; exact h i hl
      · rw [if_neg hl]
        by_cases hn : i < a.nt
        · rw [if_pos hn]; exact .junk _
        · rw [if_neg hn, hout hn]; exact VR.tuple' (.nil κ)
    · rw [if_neg hi, hout (by omega)]
      exact VR.tuple' (.nil κ)
  · unfold AF.get
    show (match t.get i with | some v => v | none => undef) = _
    have := hN i hi
    rw [ht, if_pos (by omega)]
    show (if i ∈ looked then a.get i else _) = _
    rw [if_pos hi]
    rfl

theorem eval_congr {a a2 : AF} {gl : Nat → Bool} {x : Operand} (h : ∀ t, x = .tmp t → a2.get t = a.get t) : a2.eval gl x = a.eval gl x := by
  cases x with
  | tmp t => exact h t rfl
  | const v => rfl
  | global g => rfl
  | func f => rfl

theorem opA_congr {f : Task → AF → AW → Option Ans} {o : Oper} {a a2 : AF} {W : AW} (h : ∀ x ∈ o.op.operands, a2.eval orc.gl x = a.eval orc.gl x) : opA P orc f o a2 W = opA P orc f o a W := by
  unfold opA
  split
  · rw [stillA_congr h]
  · rw [readA_congr h]
  · rw [floatA_congr h]
  · rw [effectA_congr h]
  · split
    · rename_i c hop
      rw [calleeA_congr fun x hx => h x (by rw [hop]; exact hx)]
    · rfl
  · rfl
  · rfl

theorem wantedA_congr {all : List Oper} {o : Oper} {a a2 : AF} (h : ∀ j want g d, o.guard = some (j, want) → lget all j = some g → g.dst = some d → a2.get d = a.get d) : wantedA all o a2 = wantedA all o a := by
  unfold wantedA
  split
  · rfl
  · rename_i j want hg
    split
    · rename_i g hg2
      split
      · rename_i d hd
        rw [h j want g d hg hg2 hd]
      · rfl
    · rfl

/-! ### plans -/
theorem mem_keepL {α : Type} {p : α → Bool} {x : α} : ∀ {l : List α}, x ∈ keepL p l ↔ x ∈ l ∧ p x = true
  | [] => by simp [keepL]
  | y :: l => by
    unfold keepL
    split
    · rename_i h
      rw [List.mem_cons, List.mem_cons, mem_keepL]
      constructor
      · rintro (rfl | ⟨h1, h2⟩)
        · exact ⟨.inl rfl, h⟩
        · exact ⟨.inr h1, h2⟩
      · rintro ⟨rfl | h1, h2⟩
        · exact .inl rfl
        · exact .inr ⟨h1, h2⟩
    · rename_i h
      rw [List.mem_cons, mem_keepL]
      constructor
      · rintro ⟨h1, h2⟩; exact ⟨.inr h1, h2⟩
      · rintro ⟨rfl | h1, h2⟩
        · rw [h] at h2; cases h2
        · exact ⟨h1, h2⟩

theorem mem_planB {x : Item'} : ∀ {es ne : List Item'}, x ∈ planB es ne ↔ x ∈ es ∨ x ∈ ne
  | [], ne => by simp [planB]
  | e :: es, ne => by
    unfold planB
    rw [List.mem_append, List.mem_cons, mem_planB, mem_keepL, mem_keepL, List.mem_cons]
    constructor
    · rintro (⟨h1, _⟩ | rfl | h1 | ⟨h1, _⟩)
      · exact .inr h1
      · exact .inl (.inl rfl)
      · exact .inl (.inr h1)
      · exact .inr h1
    · rintro ((rfl | h1) | h1)
      · exact .inr (.inl rfl)
      · exact .inr (.inr (.inl h1))
      · cases ht : Nat.testBit x.m e.i with
        | true => exact .inr (.inr (.inr ⟨h1, rfl⟩))
        | false => exact .inl ⟨h1, rfl⟩

theorem mem_itemsA : ∀ {all : List Oper} {ms : List Nat} {n : Nat} {x : Item'}, x ∈ itemsA n all ms → ∃ j, x.i = n + j ∧ all[j]? = some x.o ∧ ms[j]? = some x.m
  | [], _, _, _, h => by cases h
  | _ :: _, [], _, _, h => by cases h
  | o :: r, m :: s, n, x, h => by
    unfold itemsA at h
    cases h with
    | head => exact ⟨0, rfl, rfl, rfl⟩
    | tail _ h =>
      obtain ⟨j, h1, h2, h3⟩ := mem_itemsA h
      exact ⟨j + 1, by rw [h1]; show n + 1 + j = _; omega, by simpa using h2, by simpa using h3⟩

theorem itemsA_mem : ∀ {all : List Oper} {ms : List Nat} {n j : Nat} {o : Oper}, all.length = ms.length → all[j]? = some o → ∃ m, (⟨n + j, o, m⟩ : Item') ∈ itemsA n all ms
  | [], _, _, _, _, _, h => by simp at h
  | _ :: _, [], _, _, _, hl, _ => by simp at hl
  | o :: r, m :: s, n, j, o', hl, h => by
    unfold itemsA
    cases j with
    | zero =>
      simp at h
      subst h
      exact ⟨m, List.mem_cons_self⟩
    | succ j =>
      obtain ⟨m', hm⟩ := itemsA_mem (n := n + 1) (by simpa using hl) (show r[j]? = some o' by simpa using h)
      exact ⟨m', List.mem_cons_of_mem _ (by rw [show n + (j + 1) = n + 1 + j by omega]; exact hm)⟩

/-- What comes ahead: by one edge or more. -/
theorem maskA_some : ∀ {es : List Edge} {acc : List Nat} {m0 m : Nat}, maskA es acc m0 = some m → (∀ e ∈ es, Region.binds .any e = true → e.on < acc.length) ∧
    ∀ j, Nat.testBit m j = true → Nat.testBit m0 j = true ∨ ∃ e ∈ es, Region.binds .any e = true ∧ (j = e.on ∨ ∃ k, acc[e.on]? = some k ∧ Nat.testBit k j = true)
  | [], acc, m0, m, h => by
    cases h
    exact ⟨fun e he => (by cases he), fun j hj => .inl hj⟩
  | e :: es, acc, m0, m, h => by
    unfold maskA at h
    split at h
    · rename_i hb
      split at h
      · rename_i k hk
        rw [lget_eq] at hk
        obtain ⟨h1, h2⟩ := maskA_some h
        refine ⟨fun e' he hb' => ?_, fun j hj => ?_⟩
        · cases he with
          | head => exact (List.getElem?_eq_some_iff.1 hk).1
          | tail _ he => exact h1 e' he hb'
        · rcases h2 j hj with h3 | ⟨e', he, h3⟩
          · have h3 : Nat.testBit ((m0 ||| 2 ^ e.on) ||| k) j = true := h3
            rw [Nat.testBit_or, Nat.testBit_or, Bool.or_eq_true, Bool.or_eq_true] at h3
            rcases h3 with (h3 | h3) | h3
            · exact .inl h3
            · refine .inr ⟨e, List.mem_cons_self, hb, .inl ?_⟩
              rw [Nat.testBit_two_pow] at h3
              exact (of_decide_eq_true h3).symm
            · exact .inr ⟨e, List.mem_cons_self, hb, .inr ⟨k, hk, h3⟩⟩
          · exact .inr ⟨e', List.mem_cons_of_mem _ he, h3⟩
      · cases h
    · rename_i hb
      obtain ⟨h1, h2⟩ := maskA_some h
      refine ⟨fun e' he hb' => ?_, fun j hj => ?_⟩
      · cases he with
        | head => rw [hb] at hb'; cases hb'
        | tail _ he => exact h1 e' he hb'
      · rcases h2 j hj with h3 | ⟨e', he, h3⟩
        · exact .inl h3
        · exact .inr ⟨e', List.mem_cons_of_mem _ he, h3⟩

theorem masksA_some : ∀ {os : List Oper} {acc ms : List Nat}, masksA os acc = some ms → (∃ r, ms = acc ++ r) ∧ ms.length = acc.length + os.length ∧
    ∀ (i : Nat) (o : Oper), os[i]? = some o → (∀ e ∈ o.after.toList, Region.binds .any e = true → e.on < acc.length + i) ∧ ∀ (m j : Nat), ms[acc.length + i]? = some m → Nat.testBit m j = true → ∃ e ∈ o.after.toList, Region.binds .any e = true ∧ (j = e.on ∨ ∃ k, ms[e.on]? = some k ∧ Nat.testBit k j = true)
  | [], acc, ms, h => by
    cases h
    exact ⟨⟨[], by simp⟩, by simp, fun i o hi => by simp at hi⟩
  | o :: os, acc, ms, h => by
    unfold masksA at h
    split at h
    · rename_i m hm
      rw [appO_eq] at h
      simp only at h
      obtain ⟨⟨r, hr⟩, h2, h3⟩ := masksA_some h
      obtain ⟨k1, k2⟩ := maskA_some hm
      refine ⟨⟨[m] ++ r, by rw [hr]; simp⟩, by rw [h2]; simp; omega, fun i o' hi => ?_⟩
      cases i with
      | zero =>
        simp at hi
        subst hi
        refine ⟨fun e he hb => by have := k1 e he hb; omega, fun m' j hm' hj => ?_⟩
        have : m' = m := by
          rw [hr, List.append_assoc, List.getElem?_append_right (by omega)] at hm'
          simpa using hm'.symm
        subst this
        rcases k2 j hj with h4 | ⟨e, he, hb, h4⟩
        · simp at h4
        · refine ⟨e, he, hb, h4.imp id ?_⟩
          rintro ⟨k, hk, hkj⟩
          refine ⟨k, ?_, hkj⟩
          rw [hr, List.append_assoc, List.getElem?_append_left (List.getElem?_eq_some_iff.1 hk).1]
          exact hk
      | succ i =>
        obtain ⟨q1, q2⟩ := h3 i o' (by simpa using hi)
        simp only [List.length_append, List.length_cons, List.length_nil] at q1 q2
        exact ⟨fun e he hb => by have := q1 e he hb; omega, fun m' j hm' hj => q2 m' j (by rw [← hm']; congr 1; omega) hj⟩
    · cases h

/-- A pair is ordered, or may come either way round. -/
def PairOk (all : List Oper) (x y : Item') : Prop := x.i ≠ y.i ∧ (Nat.testBit y.m x.i = true ∨ (isEff x.o = false ∧ apartA all x.o y.o = true))

theorem pairsOk_some {all : List Oper} : ∀ {l : List Item'}, pairsOk all l = true → l.Pairwise (PairOk all)
  | [], _ => .nil
  | x :: l, h => by
    unfold pairsOk at h
    rw [Bool.and_eq_true, allL_eq, List.all_eq_true] at h
    refine .cons (fun y hy => ?_) (pairsOk_some h.2)
    have := h.1 y hy
    unfold pairOk at this
    rw [Bool.and_eq_true] at this
    refine ⟨fun q => (by rw [q, Nat.beq_refl] at this; cases this.1), ?_⟩
    have h2 := this.2
    split at h2
    · rename_i ht; exact .inl ht
    · rw [Bool.and_eq_true] at h2
      exact .inr ⟨by simpa using h2.1, h2.2⟩

/-- A plan, and what it rests on. -/
structure Plan (all : List Oper) (ms : List Nat) (plan : List Item') : Prop where
  item : ∀ x ∈ plan, all[x.i]? = some x.o ∧ ms[x.i]? = some x.m
  cover : ∀ i, i < all.length → ∃ x ∈ plan, x.i = i
  pairs : plan.Pairwise (PairOk all)
  edges : ∀ (i : Nat) (o : Oper), all[i]? = some o → ∀ e ∈ o.after.toList, Region.binds .any e = true → e.on < i
  ahead : ∀ (i : Nat) (o : Oper) (m j : Nat), all[i]? = some o → ms[i]? = some m → Nat.testBit m j = true → ∃ e ∈ o.after.toList, Region.binds .any e = true ∧ (j = e.on ∨ ∃ k, ms[e.on]? = some k ∧ Nat.testBit k j = true)

theorem planA_some {all : List Oper} {plan : List Item'} (h : planA all = some plan) : ∃ ms, Plan all ms plan := by
  unfold planA at h
  split at h
  · rename_i ms hms
    simp only at h
    split at h
    · rename_i hp
      cases h
      obtain ⟨-, h2, h3⟩ := masksA_some hms
      simp only [List.length_nil, Nat.zero_add] at h2 h3
      refine ⟨ms, fun x hx => ?_, fun i hi => ?_, pairsOk_some hp, fun i o hi e he hb => ?_, fun i o m j hi hm hj => (h3 i o hi).2 m j hm hj⟩
      · have : x ∈ itemsA 0 all ms := by
          rcases mem_planB.1 hx with h | h
          · exact (mem_keepL.1 h).1
          · exact (mem_keepL.1 h).1
        obtain ⟨j, q1, q2, q3⟩ := mem_itemsA this
        rw [Nat.zero_add] at q1
        rw [q1]
        exact ⟨q2, q3⟩
      · obtain ⟨m, hm⟩ := itemsA_mem (n := 0) h2.symm (List.getElem?_eq_getElem hi)
        refine ⟨⟨0 + i, all[i], m⟩, mem_planB.2 ?_, Nat.zero_add i⟩
        cases he : isEff all[i] with
        | true => exact .inl (mem_keepL.2 ⟨hm, he⟩)
        | false => exact .inr (mem_keepL.2 ⟨hm, by simp [he]⟩)
      · exact (h3 i o hi).1 e he hb
    · cases h
  · cases h

end
end Go.Ev
