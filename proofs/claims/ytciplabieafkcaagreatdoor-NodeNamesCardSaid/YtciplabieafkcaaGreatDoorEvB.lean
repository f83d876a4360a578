/-
  How an abstract memory stands to the machine's: which block lies where; values; worlds; what a piece of work may change.
-/
import Derived.Test.YtciplabieafkcaaGreatDoorEvA
import Derived.WalkKit
set_option linter.unusedSimpArgs false
set_option linter.unusedVariables false
namespace Go.Ev
open Go.RowKit

/-- Where an abstract block lies: the machine's block, from which cell on; how many cells it has; how many the machine's block has. -/
structure KE where
  blk : Nat
  off : Nat
  n : Nat
  len : Nat

abbrev KM := Nat → Option KE

/-- The address of a cell. -/
def AR (κ : KM) (a b : Addr) : Prop := ∃ e, κ a.block = some e ∧ b = ⟨e.blk, e.off + a.off, none⟩

inductive FR (κ : KM) : Fn → Fn → Prop
  | func (f : FuncId) : FR κ (.func f) (.func f)
  | yield (l : Nat) (e : KE) (h : κ l = some e) : FR κ (.yield l) (.yield e.blk)

/-- An abstract value, and the machine's. -/
inductive VR (κ : KM) : Value → Value → Prop
  | junk (v : Value) : VR κ junk v
  | flat (v : Value) (h : flat1 v = true) : VR κ v v
  | ptr (a b : Addr) (hs : a.spot = none) (h : AR κ a b) : VR κ (.pointer (some a)) (.pointer (some b))
  | slice (a b : Addr) (n c c' : Nat) (h : n ≤ c) (hc : c ≤ c') (ha : AR κ a b ∨ c' = 0)
      (hx : (a.spot = none ∧ c = c') ∨ ∃ z e, a.spot = some z ∧ z ≠ 0 ∧ κ a.block = some e ∧ a.off + c * z = e.n ∧ (c' = 0 ∨ b.off + c' * z ≤ e.len)) :
      VR κ (.slice (some a) n c) (.slice (some b) n c')
  | map (r : Nat) (e : KE) (h : κ r = some e) : VR κ (.map (some r)) (.map (some e.blk))
  | func (fn fn' : Fn) (a a' b b' : List Value) (h : FR κ fn fn') (la : a.length = a'.length) (ha : ∀ (i : Nat) (v v' : Value), a[i]? = some v → a'[i]? = some v' → VR κ v v')
      (lb : b.length = b'.length) (hb : ∀ (i : Nat) (v v' : Value), b[i]? = some v → b'[i]? = some v' → VR κ v v') : VR κ (.func fn ⟨a⟩ ⟨b⟩) (.func fn' ⟨a'⟩ ⟨b'⟩)
  | iface (t : TypeId) (v v' : Value) (h : VR κ v v') : VR κ (.iface t v) (.iface t v')
  | agg (l l' : List Value) (hl : l.length = l'.length) (h : ∀ (i : Nat) (v v' : Value), l[i]? = some v → l'[i]? = some v' → VR κ v v') (h1 : ∀ (i : Nat) (v' : Value), l'[i]? = some v' → v'.oneCell' = true) : VR κ (.agg ⟨l⟩) (.agg ⟨l'⟩)
  | tuple (l l' : List Value) (hl : l.length = l'.length) (h : ∀ (i : Nat) (v v' : Value), l[i]? = some v → l'[i]? = some v' → VR κ v v') : VR κ (.tuple ⟨l⟩) (.tuple ⟨l'⟩)

def KM.le (κ κ' : KM) : Prop := ∀ i e, κ i = some e → κ' i = some e

theorem AR.mono {κ κ' : KM} (h : κ.le κ') {a b : Addr} (x : AR κ a b) : AR κ' a b := let ⟨e, h1, h2⟩ := x; ⟨e, h _ _ h1, h2⟩

theorem FR.mono {κ κ' : KM} (h : κ.le κ') {f g : Fn} (x : FR κ f g) : FR κ' f g := by
  cases x with
  | func f => exact .func f
  | yield l e he => exact .yield l e (h _ _ he)

theorem VR.mono {κ κ' : KM} (h : κ.le κ') {v v' : Value} (x : VR κ v v') : VR κ' v v' := by
  induction x with
  | junk v => exact .junk v
  | flat v hv => exact .flat v hv
  | ptr a b hs ha => exact .ptr a b hs (ha.mono h)
  | slice a b n c c' h1 h2 ha hx =>
    refine .slice a b n c c' h1 h2 (ha.imp (·.mono h) id) (hx.imp id ?_)
    rintro ⟨z, e, q1, q2, q3, q4⟩
    exact ⟨z, e, q1, q2, h _ _ q3, q4⟩
  | map r e he => exact .map r e (h _ _ he)
  | func fn fn' a a' b b' hf la _ lb _ iha ihb => exact .func fn fn' a a' b b' (hf.mono h) la iha lb ihb
  | iface t v v' _ ih => exact .iface t v v' ih
  | agg l l' hl _ h1 ih => exact .agg l l' hl ih h1
  | tuple l l' hl _ ih => exact .tuple l l' hl ih

/-- Two lists of values, one by one. -/
def LR (κ : KM) (l l' : List Value) : Prop := l.length = l'.length ∧ ∀ (i : Nat) (v v' : Value), l[i]? = some v → l'[i]? = some v' → VR κ v v'

/-- .. of cells. -/
def CL (κ : KM) (l l' : List Value) : Prop := LR κ l l' ∧ ∀ v' ∈ l', v'.oneCell' = true

theorem LR.mono {κ κ' : KM} (h : κ.le κ') {l l' : List Value} (x : LR κ l l') : LR κ' l l' := ⟨x.1, fun i v v' a b => (x.2 i v v' a b).mono h⟩
theorem CL.mono {κ κ' : KM} (h : κ.le κ') {l l' : List Value} (x : CL κ l l') : CL κ' l l' := ⟨x.1.mono h, x.2⟩

theorem LR.nil (κ : KM) : LR κ [] [] := ⟨rfl, fun i v v' h => by simp at h⟩
theorem LR.cons {κ : KM} {v v' : Value} {l l' : List Value} (h : VR κ v v') (x : LR κ l l') : LR κ (v :: l) (v' :: l') := by
  refine ⟨by simp [x.1], fun i a b ha hb => ?_⟩
  cases i with
  | zero => simp at ha hb; subst ha; subst hb; exact h
  | succ i => exact x.2 i a b (by simpa using ha) (by simpa using hb)

theorem LR.nil_inv {κ : KM} {l' : List Value} (x : LR κ [] l') : l' = [] := by
  have := x.1; cases l' with | nil => rfl | cons => simp at this

theorem LR.cons_inv {κ : KM} {v : Value} {l l' : List Value} (x : LR κ (v :: l) l') : ∃ v' r', l' = v' :: r' ∧ VR κ v v' ∧ LR κ l r' := by
  cases l' with
  | nil => have := x.1; simp at this
  | cons v' r' => exact ⟨v', r', rfl, x.2 0 v v' (by simp) (by simp), by have := x.1; simpa using this, fun i a b ha hb => x.2 (i + 1) a b (by simpa using ha) (by simpa using hb)⟩

theorem LR.append {κ : KM} {l l' m m' : List Value} (x : LR κ l l') (y : LR κ m m') : LR κ (l ++ m) (l' ++ m') := by
  refine ⟨by simp [x.1, y.1], fun i a b ha hb => ?_⟩
  by_cases hi : i < l.length
  · rw [List.getElem?_append_left hi] at ha
    rw [List.getElem?_append_left (by rw [← x.1]; exact hi)] at hb
    exact x.2 i a b ha hb
  · rw [List.getElem?_append_right (by omega)] at ha
    rw [List.getElem?_append_right (by rw [← x.1]; omega), ← x.1] at hb
    exact y.2 _ a b ha hb

theorem LR.drop {κ : KM} {l l' : List Value} (x : LR κ l l') (n : Nat) : LR κ (l.drop n) (l'.drop n) :=
  ⟨by simp [x.1], fun i a b ha hb => x.2 (n + i) a b (by simpa using ha) (by simpa using hb)⟩

theorem LR.take {κ : KM} {l l' : List Value} (x : LR κ l l') (n : Nat) : LR κ (l.take n) (l'.take n) := by
  refine ⟨by simp [x.1], fun i a b ha hb => ?_⟩
  rw [List.getElem?_take] at ha hb
  split at ha
  · rename_i hi; rw [if_pos hi] at hb; exact x.2 i a b ha hb
  · cases ha

theorem LR.get {κ : KM} {l l' : List Value} (x : LR κ l l') {i : Nat} {v : Value} (h : l[i]? = some v) : ∃ v', l'[i]? = some v' ∧ VR κ v v' := by
  have hi : i < l.length := (List.getElem?_eq_some_iff.1 h).1
  have hi' : i < l'.length := by rw [← x.1]; exact hi
  exact ⟨l'[i], by simp [hi'], x.2 i v _ h (by simp [hi'])⟩

theorem LR.map {κ : KM} {α : Type} {ρ ρ' : α → Value} (h : ∀ x, VR κ (ρ x) (ρ' x)) (l : List α) : LR κ (l.map ρ) (l.map ρ') := by
  induction l with
  | nil => exact .nil κ
  | cons x l ih => exact .cons (h x) ih

theorem LR.replicate {κ : KM} {z z' : List Value} (h : LR κ z z') (n : Nat) : LR κ ((List.replicate n z).flatten) ((List.replicate n z').flatten) := by
  induction n with
  | zero => exact .nil κ
  | succ n ih => rw [List.replicate_succ, List.replicate_succ, List.flatten_cons, List.flatten_cons]; exact h.append ih

theorem VR.agg' {κ : KM} {l l' : List Value} (h : CL κ l l') : VR κ (.agg ⟨l⟩) (.agg ⟨l'⟩) :=
  .agg l l' h.1.1 h.1.2 fun i v' hi => h.2 v' (List.mem_of_getElem? hi)
theorem VR.tuple' {κ : KM} {l l' : List Value} (h : LR κ l l') : VR κ (.tuple ⟨l⟩) (.tuple ⟨l'⟩) := .tuple l l' h.1 h.2
theorem VR.func' {κ : KM} {fn fn' : Fn} {a a' b b' : List Value} (h : FR κ fn fn') (ha : LR κ a a') (hb : LR κ b b') : VR κ (.func fn ⟨a⟩ ⟨b⟩) (.func fn' ⟨a'⟩ ⟨b'⟩) :=
  .func fn fn' a a' b b' h ha.1 ha.2 hb.1 hb.2

theorem VR.agg_inv {κ : KM} {l : List Value} {v' : Value} (h : VR κ (.agg ⟨l⟩) v') : ∃ l', v' = .agg ⟨l'⟩ ∧ CL κ l l' := by
  cases h with
  | flat _ hv => simp [flat1] at hv
  | agg _ l' hl h h1 => exact ⟨l', rfl, ⟨hl, h⟩, fun x hx => by obtain ⟨i, hi⟩ := List.getElem?_of_mem hx; exact h1 i x hi⟩
theorem VR.tuple_inv {κ : KM} {l : List Value} {v' : Value} (h : VR κ (.tuple ⟨l⟩) v') : ∃ l', v' = .tuple ⟨l'⟩ ∧ LR κ l l' := by
  cases h with
  | flat _ hv => simp [flat1] at hv
  | tuple _ l' hl h => exact ⟨l', rfl, hl, h⟩
theorem VR.int_inv {κ : KM} {k : IntKind} {n : Int} {v' : Value} (h : VR κ (.int k n) v') : v' = .int k n := by cases h; rfl
theorem VR.bool_inv {κ : KM} {b : Bool} {v' : Value} (h : VR κ (.bool b) v') : v' = .bool b := by cases h; rfl
theorem VR.string_inv {κ : KM} {b : ByteArray} {v' : Value} (h : VR κ (.string b) v') : v' = .string b := by cases h; rfl
theorem VR.ptr_inv {κ : KM} {a : Addr} {v' : Value} (h : VR κ (.pointer (some a)) v') : ∃ b, v' = .pointer (some b) ∧ a.spot = none ∧ AR κ a b := by
  cases h with
  | flat _ hv => simp [flat1] at hv
  | ptr _ b hs h => exact ⟨b, rfl, hs, h⟩
theorem VR.func_inv {κ : KM} {fn : Fn} {a b : List Value} {v' : Value} (h : VR κ (.func fn ⟨a⟩ ⟨b⟩) v') : ∃ fn' a' b', v' = .func fn' ⟨a'⟩ ⟨b'⟩ ∧ FR κ fn fn' ∧ LR κ a a' ∧ LR κ b b' := by
  cases h with
  | flat _ hv => simp [flat1] at hv
  | func _ fn' _ a' _ b' hf la ha lb hb => exact ⟨fn', a', b', rfl, hf, ⟨la, ha⟩, lb, hb⟩
theorem VR.iface_inv {κ : KM} {t : TypeId} {v : Value} {v' : Value} (h : VR κ (.iface t v) v') : ∃ u, v' = .iface t u ∧ VR κ v u := by
  cases h with
  | flat _ hv => simp [flat1] at hv
  | iface _ _ u h => exact ⟨u, rfl, h⟩
theorem VR.map_inv {κ : KM} {r : Nat} {v' : Value} (h : VR κ (.map (some r)) v') : ∃ e, v' = .map (some e.blk) ∧ κ r = some e := by
  cases h with
  | flat _ hv => simp [flat1] at hv
  | map _ e h => exact ⟨e, rfl, h⟩
theorem VR.nilIface_inv {κ : KM} {v' : Value} (h : VR κ .nilIface v') : v' = .nilIface := by cases h; rfl
theorem VR.nilFunc_inv {κ : KM} {v' : Value} (h : VR κ .nilFunc v') : v' = .nilFunc := by cases h; rfl
theorem VR.nilPtr_inv {κ : KM} {v' : Value} (h : VR κ (.pointer none) v') : v' = .pointer none := by cases h; rfl
theorem VR.nilSlice_inv {κ : KM} {n c : Nat} {v' : Value} (h : VR κ (.slice none n c) v') : n = 0 ∧ c = 0 ∧ v' = .slice none 0 0 := by
  cases h with
  | flat _ hv =>
    unfold flat1 at hv
    split at hv <;> first | (cases hv; done) | skip
    all_goals (rename_i e; first | (cases e; done) | (injection e with _ e1 e2; subst e1; subst e2; exact ⟨rfl, rfl, rfl⟩))

theorem VR.flatV {κ : KM} {v : Value} (h : flatV v = true) : VR κ v v := by
  unfold Go.Ev.flatV at h
  split at h
  · rename_i cs
    rw [allL_eq, List.all_eq_true] at h
    obtain ⟨l⟩ := cs
    refine .agg l l rfl (fun i v v' a b => ?_) (fun i v' a => ?_)
    · rw [a] at b; cases b; exact .flat v (h v (List.mem_of_getElem? a))
    · have := h v' (List.mem_of_getElem? a)
      cases v' <;> first | rfl | (simp [flat1] at this)
  · exact .flat v h

theorem flat1_one {v : Value} (h : flat1 v = true) : v.oneCell' = true := by
  cases v <;> first | rfl | (simp [flat1] at h)

theorem cellsO_flat {v : Value} {l : List Value} (hf : Go.Ev.flatV v = true) (h : cellsO v = some l) (κ : KM) : v.cells = ⟨l⟩ ∧ CL κ l l := by
  have hv : VR κ v v := VR.flatV hf
  unfold cellsO at h
  split at h
  · rename_i l0
    cases h
    obtain ⟨l', e, hc⟩ := hv.agg_inv
    cases e
    exact ⟨rfl, hc⟩
  · cases h
  · cases h
  · rename_i hn1 hn2 hn3
    cases h
    have h1 : v.oneCell' = true := by
      cases v with
      | agg cs => exact absurd rfl (hn1 cs.toList)
      | tuple vs => exact absurd rfl (hn2 vs)
      | _ => rfl
    refine ⟨?_, .cons hv (.nil κ), ?_⟩
    · cases v <;> first | rfl | (simp [Value.oneCell'] at h1)
    · intro x hx; simp at hx; subst hx; exact h1

theorem cellsO_rel {κ : KM} {v v' : Value} {l : List Value} (h : cellsO v = some l) (hv : VR κ v v') : ∃ l', v'.cells = ⟨l'⟩ ∧ CL κ l l' := by
  cases hv with
  | junk => cases h
  | flat _ hf =>
    obtain ⟨h1, h2⟩ := cellsO_flat (κ := κ) (v := v) (by
      unfold Go.Ev.flatV; split
      · simp [flat1] at hf
      · exact hf) h
    exact ⟨l, h1, h2⟩
  | ptr a b hs ha => cases h; exact ⟨_, rfl, .cons (.ptr a b hs ha) (.nil κ), by intro x hx; simp at hx; subst hx; rfl⟩
  | slice a b n c c' h1 h2 h3 h4 => cases h; exact ⟨_, rfl, .cons (.slice a b n c c' h1 h2 h3 h4) (.nil κ), by intro x hx; simp at hx; subst hx; rfl⟩
  | map r e he => cases h; exact ⟨_, rfl, .cons (.map r e he) (.nil κ), by intro x hx; simp at hx; subst hx; rfl⟩
  | func fn fn' a a' b b' hf la ha lb hb => cases h; exact ⟨_, rfl, .cons (.func fn fn' a a' b b' hf la ha lb hb) (.nil κ), by intro x hx; simp at hx; subst hx; rfl⟩
  | iface t u u' hu => cases h; exact ⟨_, rfl, .cons (.iface t u u' hu) (.nil κ), by intro x hx; simp at hx; subst hx; rfl⟩
  | agg l0 l' hl h0 h1 =>
    cases h
    exact ⟨l', rfl, ⟨hl, h0⟩, fun x hx => by obtain ⟨i, hi⟩ := List.getElem?_of_mem hx; exact h1 i x hi⟩
  | tuple => cases h

end Go.Ev
