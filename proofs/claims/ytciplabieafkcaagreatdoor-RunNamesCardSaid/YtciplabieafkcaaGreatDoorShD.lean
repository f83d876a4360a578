/-
  SHA's block: the evaluator's word for it, taken apart.
-/
import Derived.Test.YtciplabieafkcaaGreatDoorShC
set_option linter.unusedSimpArgs false
set_option linter.unusedVariables false
namespace Go.Proofs.YtciplabieafkcaaGreatDoor
open Go.RowKit
open Go.Ev

theorem forceN_eq {β : Type} (n : Nat) (k : Nat → β) : forceN n k = k n := by cases n <;> rfl

theorem lget_getD (l : List Nat) (n : Nat) (x : Nat) (h : lget l n = some x) : l.getD n 0 = x := by
  rw [lget_eq'] at h
  simp [List.getD, h]
where
  lget_eq' {l : List Nat} : ∀ {n : Nat}, lget l n = l[n]? := by
    induction l with
    | nil => intro n; rfl
    | cons y r ih =>
      intro n
      cases n with
      | zero => rfl
      | succ m => exact ih

theorem wordsOf_spec : ∀ (n : Nat) (b acc r : List Nat), b.length = 4 * n → wordsOf b acc = some r →
    r.length = acc.length + n ∧ (∀ i, i < n → r.getD (n - 1 - i) 0 = b.getD (4 * i) 0 * 16777216 + b.getD (4 * i + 1) 0 * 65536 + b.getD (4 * i + 2) 0 * 256 + b.getD (4 * i + 3) 0) ∧ (∀ i, r.getD (n + i) 0 = acc.getD i 0) := by
  intro n
  induction n with
  | zero =>
    intro b acc r hb h
    have : b = [] := List.length_eq_zero_iff.1 (by omega)
    subst this
    cases h
    exact ⟨rfl, fun i hi => absurd hi (Nat.not_lt_zero _), fun i => by rw [Nat.zero_add]⟩
  | succ n ih =>
    intro b acc r hb h
    match b, hb, h with
    | x :: y :: z :: u :: b', hb, h =>
      unfold wordsOf at h
      rw [forceN_eq] at h
      obtain ⟨h1, h2, h3⟩ := ih b' _ r (by simp at hb; omega) h
      refine ⟨by rw [h1]; simp; omega, fun i hi => ?_, fun i => ?_⟩
      · cases i with
        | zero =>
          have := h3 0
          rw [show n + 1 - 1 - 0 = n + 0 by omega, this]; rfl
        | succ i =>
          have := h2 i (by omega)
          rw [show n + 1 - 1 - (i + 1) = n - 1 - i by omega, this]
          rfl
      · have := h3 (i + 1)
        rw [show n + 1 + i = n + (i + 1) by omega, this]; rfl

def Good (l : List Nat) : Prop := ∀ i, i + 16 < l.length → l.getD i 0 = m32 (l.getD (i + 16) 0 + sig0 (l.getD (i + 15) 0) + l.getD (i + 7) 0 + sig1 (l.getD (i + 2) 0))

theorem words_spec : ∀ (n : Nat) (l r : List Nat), Good l → (∀ x ∈ l, x < 4294967296) → words n l = some r → Good r ∧ (∀ x ∈ r, x < 4294967296) ∧ r.length = l.length + n ∧ ∀ i, r.getD (n + i) 0 = l.getD i 0 := by
  intro n
  induction n with
  | zero =>
    intro l r hg hl h
    cases h
    exact ⟨hg, hl, rfl, fun i => by rw [Nat.zero_add]⟩
  | succ n ih =>
    intro l r hg hl h
    unfold words at h
    split at h
    · rename_i w hw
      rw [forceN_eq] at h
      unfold word at hw
      split at hw
      · rename_i a b c d ha hb hc hd
        cases hw
        have hg' : Good (m32 (a + sig0 b + c + sig1 d) :: l) := by
          intro i hi
          cases i with
          | zero =>
            show m32 (a + sig0 b + c + sig1 d) = m32 (l.getD 15 0 + sig0 (l.getD 14 0) + l.getD 6 0 + sig1 (l.getD 1 0))
            rw [lget_getD l 15 a ha, lget_getD l 14 b hb, lget_getD l 6 c hc, lget_getD l 1 d hd]
          | succ i => exact hg i (by simp only [List.length_cons] at hi; omega)
        obtain ⟨q1, q2, q3, q4⟩ := ih _ r hg' (by
          intro x hx
          cases hx with
          | head => exact m32_lt _
          | tail _ hx => exact hl x hx) h
        refine ⟨q1, q2, by rw [q3]; simp; omega, fun i => ?_⟩
        rw [show n + 1 + i = n + (i + 1) by omega, q4]; rfl
      · cases hw
    · cases h

/-- so many rounds -/
def it8 (K w : Nat → Nat) : Nat → S8 → S8
  | 0, s => s
  | n + 1, s => round8 (it8 K w n s) (K n) (w n)

theorem it8_shift (K w : Nat → Nat) : ∀ (n : Nat) (s : S8), it8 K w (n + 1) s = it8 (fun i => K (i + 1)) (fun i => w (i + 1)) n (round8 s (K 0) (w 0))
  | 0, s => rfl
  | n + 1, s => by
    show round8 (it8 K w (n + 1) s) (K (n + 1)) (w (n + 1)) = _
    rw [it8_shift K w n s]
    rfl

theorem rounds8_eq : ∀ (ks ws : List Nat) (s : S8), ks.length = ws.length → rounds8 ks ws s = it8 (fun i => ks.getD i 0) (fun i => ws.getD i 0) ks.length s
  | [], [], s, _ => rfl
  | k :: ks, w :: ws, s, h => by
    rw [List.length_cons, it8_shift]
    show rounds8 ks ws (round8 s k w) = _
    rw [rounds8_eq ks ws _ (by simpa using h)]
    rfl

theorem round8_eq (s : S8) (k w : Nat) : round8 s k w = ⟨m32 (m32 (s.h + sum1 s.e + chF s.e s.f s.g + k + w) + m32 (sum0 s.a + majF s.a s.b s.c)), s.a, s.b, s.c, m32 (s.d + m32 (s.h + sum1 s.e + chF s.e s.f s.g + k + w)), s.e, s.f, s.g⟩ := by
  cases s
  simp only [round8, forceN_eq]

def S8.at (s : S8) : Nat → Nat
  | 0 => s.a | 1 => s.b | 2 => s.c | 3 => s.d | 4 => s.e | 5 => s.f | 6 => s.g | 7 => s.h | _ => 0

def S8.small (s : S8) : Prop := s.a < 4294967296 ∧ s.b < 4294967296 ∧ s.c < 4294967296 ∧ s.d < 4294967296 ∧ s.e < 4294967296 ∧ s.f < 4294967296 ∧ s.g < 4294967296 ∧ s.h < 4294967296

theorem it8_small (K w : Nat → Nat) : ∀ (n : Nat) (s : S8), S8.small s → S8.small (it8 K w n s)
  | 0, _, h => h
  | n + 1, s, h => by
    obtain ⟨h1, h2, h3, h4, h5, h6, h7, h8⟩ := it8_small K w n s h
    show S8.small (round8 _ _ _)
    rw [round8_eq]
    exact ⟨m32_lt _, h1, h2, h3, m32_lt _, h5, h6, h7⟩

theorem S8.small.at {s : S8} (h : S8.small s) (j : Nat) : S8.at s j < 4294967296 := by
  obtain ⟨h1, h2, h3, h4, h5, h6, h7, h8⟩ := h
  match j with
  | 0 | 1 | 2 | 3 | 4 | 5 | 6 | 7 => assumption
  | j + 8 => show 0 < 4294967296; decide

theorem rounds_of {K w : Nat → Nat} {s : S8} (hs : S8.small s) (hK : ∀ j, K j < 4294967296) : Rounds K w (fun k j => S8.at (it8 K w k s) j) := by
  have step : ∀ k, it8 K w (k + 1) s = round8 (it8 K w k s) (K k) (w k) := fun _ => rfl
  refine ⟨fun k j => (it8_small K w k s hs).at j, hK, fun k _ => ?_, fun k _ => ?_, fun k _ => ?_, fun k _ => ?_, fun k _ => ?_, fun k _ => ?_, fun k _ => ?_, fun k _ => ?_⟩
  all_goals
    show S8.at (it8 K w (k + 1) s) _ = _
    rw [step, round8_eq]
    rfl

theorem revL_eq : ∀ (l acc : List Nat), revL l acc = l.reverse ++ acc
  | [], acc => rfl
  | x :: r, acc => by rw [revL, revL_eq r]; simp

/-- What the evaluator's word for the block says. -/
theorem shaBlock_spec {K bl : List Nat} {s s' : S8} (h : shaBlock K s bl = some s') (hK : K.length = 64) (hKs : ∀ x ∈ K, x < 4294967296) (hb : bl.length = 64) (hbs : ∀ x ∈ bl, x < 256) (hs : S8.small s) :
    ∃ ws, Words (fun j => bl.getD j 0) ws ∧ Rounds (fun j => K.getD j 0) ws (fun k j => S8.at (it8 (fun j => K.getD j 0) ws k s) j) ∧
      ∀ j, j < 8 → S8.at s' j = m32 (S8.at s j + S8.at (it8 (fun j => K.getD j 0) ws 64 s) j) := by
  have getD_lt : ∀ {l : List Nat} {m : Nat} (j : Nat), 0 < m → (∀ x ∈ l, x < m) → l.getD j 0 < m := by
    intro l m j hm hl
    rw [List.getD]
    cases hg : l[j]? with
    | none => exact hm
    | some x => exact hl x (List.mem_of_getElem? hg)
  unfold shaBlock at h
  split at h
  · cases h
  · rename_i l hl
    split at h
    · cases h
    · rename_i l2 hl2
      obtain ⟨a1, a2, a3⟩ := wordsOf_spec 16 bl [] l hb hl
      have hlen : l.length = 16 := by simpa using a1
      have hls : ∀ x ∈ l, x < 4294967296 := by
        intro x hx
        obtain ⟨i, hi, rfl⟩ := List.getElem_of_mem hx
        have := a2 (15 - i) (by omega)
        rw [show 16 - 1 - (15 - i) = i by omega] at this
        have e : l[i] = l.getD i 0 := by simp [List.getD, hi]
        rw [e, this]
        have b0 := getD_lt (4 * (15 - i)) (by decide) hbs
        have b1 := getD_lt (4 * (15 - i) + 1) (by decide) hbs
        have b2 := getD_lt (4 * (15 - i) + 2) (by decide) hbs
        have b3 := getD_lt (4 * (15 - i) + 3) (by decide) hbs
        omega
      obtain ⟨g1, g2, g3, g4⟩ := words_spec 48 l l2 (fun i hi => by omega) hls hl2
      have hlen2 : l2.length = 64 := by omega
      refine ⟨fun t => l2.reverse.getD t 0, ⟨fun j => getD_lt j (by decide) hbs, fun t ht => ?_, fun t h1 h2 => ?_, fun t => getD_lt t (by decide) (fun x hx => g2 x (List.mem_reverse.1 hx))⟩, rounds_of hs (fun j => getD_lt j (by decide) hKs), ?_⟩
      · have rev : ∀ t, t < 64 → l2.reverse.getD t 0 = l2.getD (63 - t) 0 := fun t ht => by
          rw [List.getD, List.getD, List.getElem?_reverse (by omega), hlen2]
        show l2.reverse.getD t 0 = _
        rw [rev t (by omega)]
        have := g4 (15 - t)
        rw [show 63 - t = 48 + (15 - t) by omega, this]
        have := a2 t ht
        rw [show 16 - 1 - t = 15 - t by omega] at this
        exact this
      · have rev : ∀ t, t < 64 → l2.reverse.getD t 0 = l2.getD (63 - t) 0 := fun t ht => by
          rw [List.getD, List.getD, List.getElem?_reverse (by omega), hlen2]
        show l2.reverse.getD t 0 = _
        rw [rev t h2, g1 (63 - t) (by omega)]
        show _ = m32 (l2.reverse.getD (t - 16) 0 + sig0 (l2.reverse.getD (t - 15) 0) + l2.reverse.getD (t - 7) 0 + sig1 (l2.reverse.getD (t - 2) 0))
        rw [rev (t - 16) (by omega), rev (t - 15) (by omega), rev (t - 7) (by omega), rev (t - 2) (by omega)]
        rw [show 63 - (t - 16) = 63 - t + 16 by omega, show 63 - (t - 15) = 63 - t + 15 by omega, show 63 - (t - 7) = 63 - t + 7 by omega, show 63 - (t - 2) = 63 - t + 2 by omega]
      · rw [revL_eq, List.append_nil, rounds8_eq K l2.reverse s (by simp [hK, hlen2]), hK] at h
        generalize it8 (fun i => K.getD i 0) (fun i => l2.reverse.getD i 0) 64 s = v at h
        cases v
        cases s
        simp only [Option.some.injEq] at h
        subst h
        intro j hj
        match j, hj with
        | 0, _ | 1, _ | 2, _ | 3, _ | 4, _ | 5, _ | 6, _ | 7, _ => rfl
theorem shaBlock_spec2 {K bl : List Nat} {s s' : S8} (h : shaBlock K s bl = some s') (hK : K.length = 64) (hKs : ∀ x ∈ K, x < 4294967296) (hb : bl.length = 64) (hbs : ∀ x ∈ bl, x < 256) (hs : S8.small s) :
    ∃ (ws : Nat → Nat) (vs : Nat → Nat → Nat), Words (fun j => bl.getD j 0) ws ∧ Rounds (fun j => K.getD j 0) ws vs ∧ (∀ j, vs 0 j = S8.at s j) ∧ ∀ j, j < 8 → S8.at s' j = m32 (S8.at s j + vs 64 j) := by
  obtain ⟨ws, h1, h2, h3⟩ := shaBlock_spec h hK hKs hb hbs hs
  exact ⟨ws, _, h1, h2, fun j => rfl, h3⟩
end Go.Proofs.YtciplabieafkcaaGreatDoor
