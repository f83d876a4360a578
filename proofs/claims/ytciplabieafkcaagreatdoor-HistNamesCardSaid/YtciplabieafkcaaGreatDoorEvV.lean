/-
  Regions that draw their order: what stands while they are under way.
-/
import Derived.Test.YtciplabieafkcaaGreatDoorEvU
set_option linter.unusedSimpArgs false
set_option linter.unusedVariables false
namespace Go.Ev
open Go.RowKit

/-- An operation that has been reckoned: itself, what it tells, the frame ahead of it, the number of blocks ahead of it; has it made a block? -/
structure TE where
  x : Item'
  v : Value
  a : AF
  b : Nat
  fl : Bool

def upd (g : Nat → Value) : Option Tmp → Value → Nat → Value
  | some t, v => fun s => if s = t then v else g s
  | none, _ => g

/-- The slots, where just the listed ones have been carried out. -/
def sl (L : Nat → Bool) : (Nat → Value) → List TE → (Nat → Value)
  | g, [] => g
  | g, te :: T => sl L (if L te.x.i = true then upd g te.x.o.dst te.v else g) T

def FT (a0 : AF) : List TE → AF → Prop
  | [], a => a = a0
  | te :: T, a => te.a = a0 ∧ ∃ a1, a0.putd te.x.o.dst te.v = some a1 ∧ FT a1 T a

theorem put_get {a a1 : AF} {d : Option Tmp} {v : Value} (h : a.putd d v = some a1) : a1.get = upd a.get d v ∧ a1.nt = a.nt ∧ a1.defers = a.defers ∧ a1.rnd = a.rnd := by
  cases d with
  | none => cases h; exact ⟨rfl, rfl, rfl, rfl⟩
  | some d =>
    have h : a.put d v = some a1 := h
    unfold AF.put at h
    split at h
    · split at h
      · rename_i t ht
        cases h
        refine ⟨?_, rfl, rfl, rfl⟩
        funext s
        unfold AF.get
        show (match t.get s with | some v => v | none => undef) = if s = d then v else (match a.tmps.get s with | some v => v | none => undef)
        rw [Tr.put_get ht]
        by_cases hs : s = d
        · rw [if_pos hs, if_pos hs]
        · rw [if_neg hs, if_neg hs]
      · cases h
    · cases h

theorem FT.get : ∀ {T : List TE} {a0 a : AF}, FT a0 T a → a.get = sl (fun _ => true) a0.get T ∧ a.nt = a0.nt ∧ a.defers = a0.defers ∧ a.rnd = a0.rnd
  | [], a0, a, h => by
    have h : a = a0 := h
    subst h; exact ⟨rfl, rfl, rfl, rfl⟩
  | te :: T, a0, a, h => by
    obtain ⟨h1, a1, h2, h3⟩ := h
    obtain ⟨q1, q2, q3, q4⟩ := FT.get h3
    obtain ⟨p1, p2, p3, p4⟩ := put_get h2
    refine ⟨?_, by rw [q2, p2], by rw [q3, p3], by rw [q4, p4]⟩
    rw [q1, p1]
    rfl

theorem FT.split : ∀ {T1 T2 : List TE} {te : TE} {a0 a : AF}, FT a0 (T1 ++ te :: T2) a → te.a.get = sl (fun _ => true) a0.get T1 ∧ te.a.nt = a0.nt ∧ te.a.defers = a0.defers ∧ te.a.rnd = a0.rnd
  | [], T2, te, a0, a, h => by
    obtain ⟨h1, -⟩ := h
    subst h1; exact ⟨rfl, rfl, rfl, rfl⟩
  | t :: T1, T2, te, a0, a, h => by
    obtain ⟨h1, a1, h2, h3⟩ := h
    obtain ⟨q1, q2, q3, q4⟩ := FT.split h3
    obtain ⟨p1, p2, p3, p4⟩ := put_get h2
    refine ⟨?_, by rw [q2, p2], by rw [q3, p3], by rw [q4, p4]⟩
    rw [q1, p1]
    rfl

theorem FT.append : ∀ {T : List TE} {te : TE} {a0 a a1 : AF}, FT a0 T a → te.a = a → a.putd te.x.o.dst te.v = some a1 → FT a0 (T ++ [te]) a1
  | [], te, a0, a, a1, h, h1, h2 => by
    have h : a = a0 := h
    subst h
    exact ⟨h1, a1, h2, rfl⟩
  | t :: T, te, a0, a, a1, h, h1, h2 => by
    obtain ⟨q1, a2, q2, q3⟩ := h
    exact ⟨q1, a2, q2, FT.append q3 h1 h2⟩

theorem sl_append (L : Nat → Bool) : ∀ (T1 T2 : List TE) (g : Nat → Value), sl L g (T1 ++ T2) = sl L (sl L g T1) T2
  | [], _, _ => rfl
  | _ :: T1, T2, _ => sl_append L T1 T2 _

theorem upd_other {g : Nat → Value} {d : Option Tmp} {v : Value} {t : Nat} (h : d ≠ some t) : upd g d v t = g t := by
  cases d with
  | none => rfl
  | some d => exact if_neg fun q => h (by rw [q])

theorem upd_same {g : Nat → Value} {v : Value} {t : Nat} : upd g (some t) v t = v := if_pos rfl

theorem sl_congr {L L' : Nat → Bool} {t : Nat} : ∀ {T : List TE} {g g' : Nat → Value}, (∀ te ∈ T, te.x.o.dst = some t → L te.x.i = L' te.x.i) → g t = g' t → sl L g T t = sl L' g' T t
  | [], _, _, _, h => h
  | te :: T, g, g', hl, h => by
    refine sl_congr (T := T) (fun e he => hl e (List.mem_cons_of_mem _ he)) ?_
    by_cases hd : te.x.o.dst = some t
    · rw [hl te List.mem_cons_self hd]
      split
      · rw [hd, upd_same, upd_same]
      · exact h
    · have e1 : (if L te.x.i = true then upd g te.x.o.dst te.v else g) t = g t := by split <;> first | exact upd_other hd | rfl
      have e2 : (if L' te.x.i = true then upd g' te.x.o.dst te.v else g') t = g' t := by split <;> first | exact upd_other hd | rfl
      rw [e1, e2, h]

theorem sl_none {L : Nat → Bool} {t : Nat} {T : List TE} {g : Nat → Value} (h : ∀ te ∈ T, te.x.o.dst = some t → L te.x.i = false) : sl L g T t = g t := by
  induction T generalizing g with
  | nil => rfl
  | cons te T ih =>
    show sl L _ T t = _
    rw [ih fun e he => h e (List.mem_cons_of_mem _ he)]
    by_cases hd : te.x.o.dst = some t
    · rw [h te List.mem_cons_self hd]; rfl
    · split
      · exact upd_other hd
      · rfl

/-- The slots that an operation looks at. -/
noncomputable def lookL (all : List Oper) (o : Oper) : List Nat :=
  o.op.operands.toList.filterMap tmpOf ++ (match o.guard with
    | some (g, _) => (match lget all g with | some q => q.dst.toList | none => [])
    | none => [])

theorem lookL_looks {all : List Oper} {o : Oper} {t : Nat} (h : t ∈ lookL all o) : looksA all o (some t) = true := by
  unfold lookL at h
  unfold looksA
  rw [List.mem_append] at h
  rw [Bool.or_eq_true, anyL_eq, List.any_eq_true]
  rcases h with h | h
  · obtain ⟨x, hx, hxt⟩ := List.mem_filterMap.1 h
    exact .inl ⟨x, hx, by rw [hxt]; exact Nat.beq_refl t⟩
  · refine .inr ?_
    cases hg : o.guard with
    | none => rw [hg] at h; cases h
    | some gw =>
      obtain ⟨g, wnt⟩ := gw
      rw [hg] at h
      simp only at h ⊢
      cases hq : lget all g with
      | none => rw [hq] at h; cases h
      | some q =>
        rw [hq] at h
        simp only at h ⊢
        cases hd : q.dst with
        | none => rw [hd] at h; simp at h
        | some d =>
          rw [hd] at h
          have : t = d := by simpa using h
          subst this
          exact Nat.beq_refl t

theorem apart_look {all : List Oper} {x y : Oper} {t : Nat} (h : apartA all x y = true) : (x.dst = some t → t ∉ lookL all y) ∧ (y.dst = some t → t ∉ lookL all x) ∧ (x.dst = some t → y.dst ≠ some t) := by
  unfold apartA at h
  simp only [Bool.and_eq_true, Bool.not_eq_true'] at h
  refine ⟨fun h1 h2 => ?_, fun h1 h2 => ?_, fun h1 h2 => ?_⟩
  · have := lookL_looks h2
    rw [← h1, h.1] at this; cases this
  · have := lookL_looks h2
    rw [← h1, h.2.1] at this; cases this
  · have := h.2.2
    rw [h1, h2] at this
    have h3 : Nat.beq t t = false := this
    rw [Nat.beq_refl] at h3; cases h3

section
variable {all : List Oper} {ms : List Nat} {plan : List Item'} {L : Nat → Bool} {T1 T2 : List TE} {te : TE} {rest : List Item'} {a0 a : AF}

def Closed (ms : List Nat) (L : Nat → Bool) : Prop := ∀ (i m j : Nat), L i = true → ms[i]? = some m → Nat.testBit m j = true → L j = true

theorem pair_before (hp : Plan all ms plan) (hs : plan = (T1 ++ te :: T2).map (·.x) ++ rest) {y : TE} (hy : y ∈ T1) : PairOk all y.x te.x := by
  have h := hp.pairs
  rw [hs, List.map_append, List.append_assoc] at h
  exact (List.pairwise_append.1 h).2.2 y.x (List.mem_map.2 ⟨y, hy, rfl⟩) te.x (by simp)

theorem pair_behind (hp : Plan all ms plan) (hs : plan = (T1 ++ te :: T2).map (·.x) ++ rest) {y : TE} (hy : y ∈ T2) : PairOk all te.x y.x := by
  have h := hp.pairs
  rw [hs, List.map_append, List.append_assoc] at h
  have h2 := (List.pairwise_append.1 h).2.1
  rw [List.map_cons, List.cons_append, List.pairwise_cons] at h2
  exact h2.1 y.x (List.mem_append_left _ (List.mem_map.2 ⟨y, hy, rfl⟩))

theorem item_of (hp : Plan all ms plan) (hs : plan = (T1 ++ te :: T2).map (·.x) ++ rest) {y : TE} (hy : y ∈ T1 ++ te :: T2) : all[y.x.i]? = some y.x.o ∧ ms[y.x.i]? = some y.x.m :=
  hp.item y.x (by rw [hs]; exact List.mem_append_left _ (List.mem_map.2 ⟨y, hy, rfl⟩))

/-- What an operation that is ready looks at is as it was reckoned. -/
theorem agree (hp : Plan all ms plan) (hs : plan = (T1 ++ te :: T2).map (·.x) ++ rest) (hc : Closed ms L) (hun : L te.x.i = false) (hready : ∀ j, Nat.testBit te.x.m j = true → L j = true) (hf : FT a0 (T1 ++ te :: T2) a) {t : Nat} (ht : t ∈ lookL all te.x.o) :
    sl L a0.get (T1 ++ te :: T2) t = te.a.get t := by
  rw [sl_append, (FT.split hf).1]
  show sl L (if L te.x.i = true then _ else sl L a0.get T1) T2 t = _
  rw [hun]
  show sl L (sl L a0.get T1) T2 t = _
  rw [sl_none]
  · refine sl_congr (fun y hy hd => ?_) rfl
    rcases (pair_before hp hs hy).2 with h | ⟨_, h⟩
    · exact hready _ h
    · exact absurd ht ((apart_look h).1 hd)
  · intro y hy hd
    rcases (pair_behind hp hs hy).2 with h | ⟨_, h⟩
    · cases hl : L y.x.i with
      | false => rfl
      | true =>
        have := hc _ _ _ hl (item_of hp hs (List.mem_append_right _ (List.mem_cons_of_mem _ hy))).2 h
        rw [hun] at this; cases this
    · exact absurd ht ((apart_look h).2.1 hd)

def add (L : Nat → Bool) (i : Nat) : Nat → Bool := fun j => if j = i then true else L j

/-- .. and when it has been carried out, its slot is as it was reckoned. -/
theorem after (hp : Plan all ms plan) (hs : plan = (T1 ++ te :: T2).map (·.x) ++ rest) (hc : Closed ms L) (hun : L te.x.i = false) (g : Nat → Value) (t : Nat) :
    sl (add L te.x.i) g (T1 ++ te :: T2) t = upd (sl L g (T1 ++ te :: T2)) te.x.o.dst te.v t := by
  by_cases hd : te.x.o.dst = some t
  · rw [hd, upd_same, sl_append]
    show sl (add L te.x.i) (if add L te.x.i te.x.i = true then upd _ te.x.o.dst te.v else _) T2 t = _
    have : add L te.x.i te.x.i = true := if_pos rfl
    rw [if_pos this, sl_none, hd, upd_same]
    intro y hy hdy
    have hne := (pair_behind hp hs hy).1
    have e1 : add L te.x.i y.x.i = L y.x.i := if_neg (Ne.symm hne)
    rw [e1]
    rcases (pair_behind hp hs hy).2 with h | ⟨_, h⟩
    · cases hl : L y.x.i with
      | false => rfl
      | true =>
        have := hc _ _ _ hl (item_of hp hs (List.mem_append_right _ (List.mem_cons_of_mem _ hy))).2 h
        rw [hun] at this; cases this
    · exact absurd hdy ((apart_look h).2.2 hd)
  · rw [upd_other hd]
    refine sl_congr (fun y hy hdy => ?_) rfl
    unfold add
    by_cases hyi : y.x.i = te.x.i
    · exfalso
      rcases List.mem_append.1 hy with h | h
      · exact (pair_before hp hs h).1 hyi
      · cases h with
        | head => exact hd hdy
        | tail _ h => exact (pair_behind hp hs h).1 hyi.symm
    · rw [if_neg hyi]

theorem closed_add (hp : Plan all ms plan) {i m : Nat} (hc : Closed ms L) (hm : ms[i]? = some m) (hready : ∀ j, Nat.testBit m j = true → L j = true) : Closed ms (add L i) := by
  intro k m' j hk hm' hj
  unfold add at hk ⊢
  split
  · rfl
  · by_cases hki : k = i
    · subst hki
      rw [hm] at hm'
      cases hm'
      exact hready j hj
    · rw [if_neg hki] at hk
      exact hc k m' j hk hm' hj

/-- All that comes ahead of an operation whose edges are listed is listed. -/
theorem ready_ahead (hp : Plan all ms plan) (hc : Closed ms L) {i : Nat} {o : Oper} {m : Nat} (ho : all[i]? = some o) (hm : ms[i]? = some m) (he : ∀ e ∈ o.after.toList, Region.binds .any e = true → L e.on = true) (j : Nat) (hj : Nat.testBit m j = true) : L j = true := by
  obtain ⟨e, he1, hb, h⟩ := hp.ahead i o m j ho hm hj
  rcases h with rfl | ⟨k, hk, hkj⟩
  · exact he e he1 hb
  · exact hc _ _ _ (he e he1 hb) hk hkj

end
end Go.Ev
