/-
  Plain facts on the evaluator's lists and trees.
-/
import Derived.Test.YtciplabieafkcaaGreatDoorEv
set_option linter.unusedSimpArgs false
set_option linter.unusedVariables false
namespace Go.Ev

section
variable {α β : Type}

theorem lget_eq (l : List α) : ∀ n, lget l n = l[n]? := by
  induction l with
  | nil => intro n; rfl
  | cons x l ih => intro n; cases n with
    | zero => rfl
    | succ n => show lget l n = _; rw [ih]; simp

theorem drop_eq (l : List α) : ∀ n, drop l n = l.drop n := by
  induction l with
  | nil => intro n; simp; rfl
  | cons x l ih => intro n; cases n with
    | zero => rfl
    | succ n => show drop l n = _; rw [ih]; simp

theorem takeO_nil_succ (n : Nat) : takeO ([] : List α) (n + 1) = none := rfl
theorem takeO_zero (l : List α) : takeO l 0 = some [] := by cases l <;> rfl
theorem takeO_cons (x : α) (l : List α) (n : Nat) : takeO (x :: l) (n + 1) = (takeO l n).map (x :: ·) := by
  show (Option.rec none (fun r => some (x :: r)) (takeO l n) : Option (List α)) = _
  cases takeO l n <;> rfl

theorem takeO_some : ∀ {l : List α} {n : Nat} {r : List α}, takeO l n = some r → n ≤ l.length ∧ r = l.take n
  | l, 0, r, h => by rw [takeO_zero] at h; cases h; simp
  | [], n + 1, r, h => by rw [takeO_nil_succ] at h; cases h
  | x :: l, n + 1, r, h => by
    rw [takeO_cons, Option.map_eq_some_iff] at h
    obtain ⟨r', h', rfl⟩ := h
    obtain ⟨h1, rfl⟩ := takeO_some h'
    exact ⟨by simp; omega, by simp⟩

theorem len_eq (l : List α) : len l = l.length := by
  induction l with
  | nil => rfl
  | cons x l ih => show Nat.succ (len l) = _; rw [ih]; rfl

theorem anyL_eq (p : α → Bool) (l : List α) : anyL p l = l.any p := by
  induction l with
  | nil => rfl
  | cons x l ih =>
    show (Bool.rec (motive := fun _ => Bool) (anyL p l) true (p x)) = _
    rw [List.any_cons, ← ih]
    cases p x <;> rfl

theorem allL_eq (p : α → Bool) (l : List α) : allL p l = l.all p := by
  unfold allL
  rw [anyL_eq]
  induction l with
  | nil => rfl
  | cons x l ih => simp only [List.any_cons, List.all_cons, Bool.not_or, Bool.not_not, ih]

theorem appO_eq (l m : List α) : appO l m = some (l ++ m) := by
  induction l with
  | nil => rfl
  | cons x l ih =>
    show (Option.rec none (fun r => some (x :: r)) (appO l m) : Option (List α)) = _
    rw [ih]; rfl

theorem spliceO_some : ∀ {l : List α} {n : Nat} {vs r : List α}, spliceO l n vs = some r →
    n + vs.length ≤ l.length ∧ r.length = l.length ∧ ∀ j, r[j]? = if n ≤ j ∧ j < n + vs.length then vs[j - n]? else l[j]?
  | [], 0, [], r, h => by
    have h' : some ([] : List α) = some r := h
    cases h'; simp
  | [], 0, _ :: _, r, h => by
    have h' : (none : Option (List α)) = some r := h
    cases h'
  | [], _ + 1, vs, r, h => by
    have h' : (none : Option (List α)) = some r := h
    cases h'
  | x :: l, 0, [], r, h => by
    have h' : some (x :: l) = some r := h
    cases h'; simp
  | x :: l, 0, v :: vs, r, h => by
    have h' : (Option.rec none (fun r => some (v :: r)) (spliceO l 0 vs) : Option (List α)) = some r := h
    cases hs : spliceO l 0 vs with
    | none => rw [hs] at h'; cases h'
    | some r' =>
      rw [hs] at h'
      have h'' : some (v :: r') = some r := h'
      cases h''
      obtain ⟨h1, h2, h3⟩ := spliceO_some hs
      refine ⟨by simp at h1 ⊢; omega, by simp [h2], fun j => ?_⟩
      cases j with
      | zero => simp
      | succ j => simp only [List.getElem?_cons_succ, h3 j]; simp
  | x :: l, n + 1, vs, r, h => by
    have h' : (Option.rec none (fun r => some (x :: r)) (spliceO l n vs) : Option (List α)) = some r := h
    cases hs : spliceO l n vs with
    | none => rw [hs] at h'; cases h'
    | some r' =>
      rw [hs] at h'
      have h'' : some (x :: r') = some r := h'
      cases h''
      obtain ⟨h1, h2, h3⟩ := spliceO_some hs
      refine ⟨by simp; omega, by simp [h2], fun j => ?_⟩
      cases j with
      | zero => simp
      | succ j =>
        simp only [List.getElem?_cons_succ, h3 j]
        by_cases hc : n ≤ j ∧ j < n + vs.length
        · rw [if_pos hc, if_pos (by omega)]; congr 1; omega
        · rw [if_neg hc, if_neg (by omega)]

theorem repO_eq (z : List α) (n : Nat) : repO z n = some ((List.replicate n z).flatten) := by
  induction n with
  | zero => rfl
  | succ n ih =>
    show (Option.rec none (fun r => appO z r) (repO z n) : Option (List α)) = _
    rw [ih]
    show appO z _ = _
    rw [appO_eq, List.replicate_succ, List.flatten_cons]

theorem mapL_eq (f : α → β) (l : List α) : mapL f l = l.map f := by
  induction l with
  | nil => rfl
  | cons x l ih => show f x :: mapL f l = _; rw [ih]; rfl

theorem upto_eq (m : Nat) : ∀ n, upto n m = List.range' n m := by
  induction m with
  | zero => intro n; rfl
  | succ m ih => intro n; show n :: upto (Nat.succ n) m = _; rw [ih]; rfl

/-! ### trees -/
theorem Tr.get_nil (n : Nat) : (Tr.nil : Tr α).get n = none := rfl
theorem Tr.get_node_zero (v : Option α) (l r : Tr α) : (Tr.node v l r).get 0 = v := rfl
theorem Tr.get_node_succ (v : Option α) (l r : Tr α) (m : Nat) : (Tr.node v l r).get (m + 1) = if m % 2 = 0 then l.get (m / 2) else r.get (m / 2) := by
  show (Nat.rec (motive := fun _ => Option α) (l.get (m / 2)) (fun _ _ => r.get (m / 2)) (m % 2)) = _
  rcases Nat.mod_two_eq_zero_or_one m with h | h <;> rw [h] <;> rfl

theorem Tr.sing_get {x : α} : ∀ {f n : Nat} {t : Tr α}, Tr.sing x f n = some t → ∀ m, t.get m = if m = n then some x else none := by
  intro f
  induction f with
  | zero => intro n t h; cases h
  | succ f ih =>
    intro n t h m
    cases n with
    | zero =>
      have h' : some (Tr.node (some x) .nil .nil) = some t := h
      cases h'
      cases m with
      | zero => rfl
      | succ m => rw [Tr.get_node_succ]; simp [Tr.get_nil]
    | succ n =>
      have h' : (Nat.rec (motive := fun _ => Option (Tr α)) (Option.rec none (fun t => some (.node none t .nil)) (Tr.sing x f (n / 2))) (fun _ _ => Option.rec none (fun t => some (.node none .nil t)) (Tr.sing x f (n / 2))) (n % 2)) = some t := h
      cases hs : Tr.sing x f (n / 2) with
      | none => rw [hs] at h'; rcases Nat.mod_two_eq_zero_or_one n with e | e <;> rw [e] at h' <;> cases h'
      | some t' =>
        rw [hs] at h'
        have h2 := ih hs
        rcases Nat.mod_two_eq_zero_or_one n with e | e <;> rw [e] at h' <;> injection h' with h' <;> subst h'
        · cases m with
          | zero => simp [Tr.get_node_zero]
          | succ m =>
            rw [Tr.get_node_succ]
            by_cases hm : m % 2 = 0
            · rw [if_pos hm, h2]
              by_cases e2 : m = n
              · subst e2; simp
              · rw [if_neg (by omega), if_neg (by omega)]
            · rw [if_neg hm, Tr.get_nil, if_neg (by omega)]
        · cases m with
          | zero => simp [Tr.get_node_zero]
          | succ m =>
            rw [Tr.get_node_succ]
            by_cases hm : m % 2 = 0
            · rw [if_pos hm, Tr.get_nil, if_neg (by omega)]
            · rw [if_neg hm, h2]
              by_cases e2 : m = n
              · subst e2; simp
              · rw [if_neg (by omega), if_neg (by omega)]

theorem Tr.put_get {x : α} : ∀ {t : Tr α} {n : Nat} {t' : Tr α}, t.put x n = some t' → ∀ m, t'.get m = if m = n then some x else t.get m := by
  intro t
  induction t with
  | nil => intro n t' h m; rw [Tr.sing_get (show Tr.sing x 40 n = some t' from h), Tr.get_nil]
  | node v l r ihl ihr =>
    intro n t' h m
    cases n with
    | zero =>
      have h' : some (Tr.node (some x) l r) = some t' := h
      cases h'
      cases m with
      | zero => rfl
      | succ m => rw [Tr.get_node_succ, Tr.get_node_succ]; simp
    | succ n =>
      have h' : (Nat.rec (motive := fun _ => Option (Tr α)) (Option.rec none (fun t => some (.node v t r)) (l.put x (n / 2))) (fun _ _ => Option.rec none (fun t => some (.node v l t)) (r.put x (n / 2))) (n % 2)) = some t' := h
      rcases Nat.mod_two_eq_zero_or_one n with e | e <;> rw [e] at h'
      · cases hs : l.put x (n / 2) with
        | none => rw [hs] at h'; cases h'
        | some t'' =>
          rw [hs] at h'
          injection h' with h'
          subst h'
          cases m with
          | zero => simp [Tr.get_node_zero]
          | succ m =>
            rw [Tr.get_node_succ, Tr.get_node_succ]
            by_cases hm : m % 2 = 0
            · rw [if_pos hm, if_pos hm, ihl hs]
              by_cases e2 : m = n
              · subst e2; simp
              · rw [if_neg (by omega), if_neg (by omega)]
            · rw [if_neg hm, if_neg hm, if_neg (by omega)]
      · cases hs : r.put x (n / 2) with
        | none => rw [hs] at h'; cases h'
        | some t'' =>
          rw [hs] at h'
          injection h' with h'
          subst h'
          cases m with
          | zero => simp [Tr.get_node_zero]
          | succ m =>
            rw [Tr.get_node_succ, Tr.get_node_succ]
            by_cases hm : m % 2 = 0
            · rw [if_pos hm, if_pos hm, if_neg (by omega)]
            · rw [if_neg hm, if_neg hm, ihr hs]
              by_cases e2 : m = n
              · subst e2; simp
              · rw [if_neg (by omega), if_neg (by omega)]
end

end Go.Ev
