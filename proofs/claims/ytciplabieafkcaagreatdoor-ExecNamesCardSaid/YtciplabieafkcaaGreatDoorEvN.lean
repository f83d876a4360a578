/-
  Frames.
-/
import Derived.Test.YtciplabieafkcaaGreatDoorEvM
import Derived.RangeFuncLeaves
import Derived.RangeFuncRecord
import Derived.OrdersIn
set_option linter.unusedSimpArgs false
set_option linter.unusedVariables false
namespace Go.Ev
open Go.RowKit

/-- A frame, and the machine's. -/
structure FrR (κ : KM) (a : AF) (b : Act) : Prop where
  tmps : TR κ a.tmps a.nt b.tmps
  defers : DL κ a.defers b.defers

theorem FrR.mono {κ κ' : KM} (h : κ.le κ') {a : AF} {b : Act} (x : FrR κ a b) : FrR κ' a b := ⟨x.tmps.mono h, x.defers.mono h⟩

/-- In which round a frame is. -/
def RndR (κ : KM) : Option Nat → Option Nat → Prop
  | none, none => True
  | some l, some b => ∃ e, κ l = some e ∧ b = e.blk
  | _, _ => False

theorem RndR.mono {κ κ' : KM} (h : κ.le κ') {a b : Option Nat} (x : RndR κ a b) : RndR κ' a b := by
  cases a <;> cases b <;> first | exact x | (obtain ⟨e, h1, h2⟩ := x; exact ⟨e, h _ _ h1, h2⟩)

/-- The variables that are told of. -/
def GlR (κ : KM) (gl : Nat → Bool) : Prop := ∀ g, gl g = true → ∃ e, κ g = some e ∧ e.blk = g ∧ e.off = 0

theorem GlR.mono {κ κ' : KM} (h : κ.le κ') {gl : Nat → Bool} (x : GlR κ gl) : GlR κ' gl := fun g hg => let ⟨e, h1, h2⟩ := x g hg; ⟨e, h _ _ h1, h2⟩

section
variable {P : Program} {κ : KM} {a a' : AF} {b : Act} {gl : Nat → Bool}

theorem get_rel (h : FrR κ a b) (t : Tmp) : VR κ (a.get t) (b.tmps.getD t undef) := h.tmps.2 t

theorem eval_rel (h : FrR κ a b) (hg : GlR κ gl) (x : Operand) : VR κ (a.eval gl x) (b.eval x) := by
  cases x with
  | tmp t => exact get_rel h t
  | const v =>
    unfold AF.eval
    simp only
    split
    · rename_i hf; exact VR.flatV hf
    · exact .junk _
  | global g =>
    unfold AF.eval
    simp only
    split
    · rename_i hq
      obtain ⟨e, h1, h2, h3⟩ := hg g hq
      exact .ptr _ _ rfl ⟨e, h1, by rw [h2, h3]; simp⟩
    · exact .junk _
  | func f => exact VR.func' (.func f) (.nil κ) (.nil κ)

theorem TR.put {t t1 : Tr Value} {n p : Nat} {arr : Array Value} {v v' : Value} (ht : TR κ t n arr) (hlt : p < n) (h : t.put v p = some t1) (hv : VR κ v v') : TR κ t1 n (arr.setIfInBounds p v') :=
  ⟨by simpa using ht.1, fun i => by
    rw [Tr.put_get h]
    have hs := ht.1
    by_cases hi : i = p
    · subst hi
      rw [if_pos rfl]
      simp [hs, hlt]
      exact hv
    · rw [if_neg hi]
      have := ht.2 i
      simp only [Array.getD_eq_getD_getElem?, Array.getElem?_setIfInBounds_ne (Ne.symm hi)]
      simpa only [Array.getD_eq_getD_getElem?] using this⟩

theorem put_rel {d : Tmp} {v v' : Value} (h : FrR κ a b) (hp : a.put d v = some a') (hv : VR κ v v') : FrR κ a' { b with tmps := b.tmps.setIfInBounds d v' } ∧ a'.rnd = a.rnd := by
  unfold AF.put at hp
  split at hp
  · rename_i hlt
    split at hp
    · rename_i t ht
      cases hp
      exact ⟨⟨h.tmps.put (blt_lt hlt) ht hv, h.defers⟩, rfl⟩
    · cases hp
  · cases hp

theorem putd_rel {d : Option Tmp} {v v' : Value} (h : FrR κ a b) (hp : a.putd d v = some a') (hv : VR κ v v') : FrR κ a' (b.put d v') ∧ a'.rnd = a.rnd := by
  cases d with
  | none => cases hp; exact ⟨h, rfl⟩
  | some d => exact put_rel h hp hv

theorem bind_rel : ∀ {ps : List Nat} {vs vs' : List Value} {t t' : Tr Value} {n : Nat} {arr : Array Value}, bindA ps vs t n = some t' → LR κ vs vs' → TR κ t n arr →
    ps.length = vs'.length ∧ TR κ t' n ((ps.zip vs').foldl (fun tmps x => tmps.setIfInBounds x.1 x.2) arr)
  | [], vs, vs', t, t', n, arr, h, hv, ht => by
    cases vs with
    | nil =>
      have h' : some t = some t' := h
      cases h'
      rw [hv.nil_inv]
      exact ⟨rfl, ht⟩
    | cons v vs =>
      have h' : none = some t' := h
      cases h'
  | p :: ps, vs, vs', t, t', n, arr, h, hv, ht => by
    cases vs with
    | nil =>
      have h' : none = some t' := h
      cases h'
    | cons v vs =>
      obtain ⟨v', r', rfl, h1, h2⟩ := hv.cons_inv
      have h' : (match Nat.blt p n with
        | true => (match t.put v p with
          | some t => bindA ps vs t n
          | none => none)
        | false => none) = some t' := h
      split at h'
      · rename_i hlt
        have hlt := blt_lt hlt
        split at h'
        · rename_i t1 ht1
          have := bind_rel (arr := arr.setIfInBounds p v') h' h2 (ht.put hlt ht1 h1)
          exact ⟨by simp [this.1], this.2⟩
        · cases h'
      · cases h'

theorem fold_upto : ∀ (vs : List Value) (k : Nat) (arr : Array Value), k + vs.length ≤ arr.size →
    (((List.range' k vs.length).zip vs).foldl (fun (tmps : Array Value) (x : Nat × Value) => tmps.setIfInBounds x.1 x.2) arr).size = arr.size ∧
    ∀ m, (((List.range' k vs.length).zip vs).foldl (fun (tmps : Array Value) (x : Nat × Value) => tmps.setIfInBounds x.1 x.2) arr)[m]? = if k ≤ m ∧ m < k + vs.length then vs[m - k]? else arr[m]?
  | [], k, arr, _ => by
    refine ⟨rfl, fun m => ?_⟩
    rw [if_neg (by simp)]; rfl
  | v :: vs, k, arr, h => by
    simp only [List.length_cons] at h
    obtain ⟨h1, h2⟩ := fold_upto vs (k + 1) (arr.setIfInBounds k v) (by simp; omega)
    refine ⟨by rw [List.length_cons, List.range'_succ, List.zip_cons_cons, List.foldl_cons, h1]; simp, fun m => ?_⟩
    rw [List.length_cons, List.range'_succ, List.zip_cons_cons, List.foldl_cons, h2 m]
    by_cases hm : m = k
    · subst hm
      rw [if_neg (by omega), if_pos (by omega), Array.getElem?_setIfInBounds_self_of_lt (by omega)]
      simp
    · rw [Array.getElem?_setIfInBounds_ne (Ne.symm hm)]
      by_cases hc : k < m ∧ m < k + (vs.length + 1)
      · rw [if_pos (by omega), if_pos (by omega), show m - k = m - (k + 1) + 1 from by omega, List.getElem?_cons_succ]
      · rw [if_neg (by omega), if_neg (by omega)]

/-- The slots of a function that is entered. -/
theorem enter_rel {args args' : List Value} {t : Tr Value} {nt : Nat} (h : bindA (upto 0 (len args)) args .nil (Nat.max nt (len args)) = some t) (hv : LR κ args args') :
    TR κ t (Nat.max nt (len args)) ((⟨args'⟩ : Array Value) ++ Array.replicate (nt - (⟨args'⟩ : Array Value).size) undef) := by
  rw [len_eq, upto_eq] at h
  rw [len_eq]
  have hl := hv.1
  obtain ⟨-, h2, h3⟩ := bind_rel (arr := Array.replicate (Nat.max nt args.length) undef) h hv ⟨by simp, fun i => by
    simp only [Tr.get_nil, Array.getD_eq_getD_getElem?, Array.getElem?_replicate]
    split <;> exact VR.tuple' (.nil κ)⟩
  have hmax : Nat.max nt args.length = args'.length + (nt - args'.length) := by rw [hl]; show max nt _ = _; omega
  obtain ⟨k1, k2⟩ := fold_upto args' 0 (Array.replicate (Nat.max nt args.length) undef) (by simp; rw [hmax]; omega)
  rw [← hl] at k1 k2
  refine ⟨by simp [hmax], fun i => ?_⟩
  have := h3 i
  rw [Array.getD_eq_getD_getElem?, k2 i] at this
  rw [Array.getD_eq_getD_getElem?]
  have e : ((⟨args'⟩ : Array Value) ++ Array.replicate (nt - (⟨args'⟩ : Array Value).size) undef)[i]?.getD undef = (if 0 ≤ i ∧ i < 0 + args.length then args'[i - 0]? else (Array.replicate (Nat.max nt args.length) undef)[i]?).getD undef := by
    rw [Array.getElem?_append]
    by_cases hi : i < args.length
    · rw [if_pos (show i < (⟨args'⟩ : Array Value).size from (by omega : i < args'.length)), if_pos (by omega)]
      simp
    · rw [if_neg (show ¬ i < (⟨args'⟩ : Array Value).size from (by omega : ¬ i < args'.length)), if_neg (by omega)]
      simp only [Array.getElem?_replicate]
      split <;> split <;> rfl
  rw [e]
  exact this

theorem not_bool {x u : Value} (h : VR κ x u) (n1 : x = .bool true → False) (n2 : x = .bool false → False) (n3 : ∀ c, x = .chan c → False) (bb : Bool) (hu : u = .bool bb) : False := by
  subst hu
  cases h with
  | junk => exact n3 _ rfl
  | flat => cases bb <;> first | exact n1 rfl | exact n2 rfl

theorem wanted_rel {all : List Oper} {ops : Array Oper} {o : Oper} {r : Bool} (h : wantedA all o a = some r) (hf : FrR κ a b) (ho : ops.toList = all) : Region.wanted o (yielded ops b.tmps) = r := by
  unfold wantedA at h
  unfold Region.wanted
  split at h
  · rename_i hg
    cases h
    rw [hg]
  · rename_i j want hg
    rw [hg]
    have hj : lget all j = ops[j]? := by rw [lget_eq, ← ho]; simp
    rw [hj] at h
    unfold yielded
    split at h
    · rename_i g hg2
      split at h
      · rename_i d hd
        have hv := get_rel hf d
        simp only [hg2, hd, Option.bind_some]
        rw [Array.getD_eq_getD_getElem?] at hv
        split at h
        · rename_i hb
          cases h
          rw [hb] at hv
          have hv := hv.bool_inv
          cases ht : b.tmps[d]? with
          | none => rw [ht] at hv; cases hv
          | some u =>
            rw [ht] at hv
            have hv : u = .bool true := hv
            subst hv
            cases r <;> rfl
        · rename_i hb
          cases h
          rw [hb] at hv
          have hv := hv.bool_inv
          cases ht : b.tmps[d]? with
          | none => rw [ht] at hv; cases hv
          | some u =>
            rw [ht] at hv
            have hv : u = .bool false := hv
            subst hv
            cases want <;> rfl
        · cases h
        · rename_i n1 n2 n3
          cases h
          cases ht : b.tmps[d]? with
          | none => rfl
          | some u =>
            rw [ht] at hv
            have hv : VR κ (a.get d) u := hv
            cases u <;> try rfl
            exact (not_bool hv n1 n2 n3 _ rfl).elim
      · rename_i hd
        cases h
        simp [hg2, hd]
    · rename_i hg2
      cases h
      simp [hg2]

def resF (tmps : Array Value) : ResultVar → Sem Value
  | .tmp t => pure (tmps.getD t undef)
  | .cell a t => do loadVar t (← asAddr (tmps.getD a undef))

theorem results_eq (fn : Func) (tmps : Array Value) : results fn tmps = (do
    let vs ← fn.results.mapM (resF tmps)
    pure (if h : vs.size = 1 then vs[0] else .tuple vs)) := by
  unfold results
  congr 1

theorem resultsA_rel {W : AW} {base : Nat} {w0 w : World} (R : RW κ W base w0 w) (hf : FrR κ a b) : ∀ {l : List ResultVar} {vs : List Value}, resultsA P a W l = some vs →
    ∃ vs', LR κ vs vs' ∧ (l.mapM (resF b.tmps)).run P w = .ok vs' w
  | [], vs, h => by cases h; exact ⟨[], .nil κ, rfl⟩
  | .tmp t :: l, vs, h => by
    unfold resultsA at h
    split at h
    · rename_i vs1 h1
      cases h
      obtain ⟨vs', k1, k2⟩ := resultsA_rel R hf h1
      refine ⟨_, .cons (get_rel hf t) k1, ?_⟩
      rw [List.mapM_cons, Sem.run_bind, resF]
      simp only [Sem.run_pure, Result.andThen_ok, Sem.run_bind, k2]
    · cases h
  | .cell c t :: l, vs, h => by
    unfold resultsA at h
    split at h
    · rename_i v1 vs1 h0 h1
      cases h
      obtain ⟨vs', k1, k2⟩ := resultsA_rel R hf h1
      obtain ⟨v', q1, -, ad, q3, q4⟩ := loadA_rel R (get_rel hf c) h0
      refine ⟨_, .cons q1 k1, ?_⟩
      rw [List.mapM_cons, Sem.run_bind, resF, Sem.run_bind, q3]
      simp only [asAddr, Sem.run_pure, Result.andThen_ok, Sem.run_bind, k2, q4]
    · cases h

theorem results_rel {W : AW} {base : Nat} {w0 w : World} {fn : Func} {vs : List Value} (R : RW κ W base w0 w) (hf : FrR κ a b) (h : resultsA P a W fn.results.toList = some vs) :
    ∃ v', VR κ (oneA vs) v' ∧ (results fn b.tmps).run P w = .ok v' w := by
  obtain ⟨vs', k1, k2⟩ := resultsA_rel R hf h
  refine ⟨if h : (⟨vs'⟩ : Array Value).size = 1 then (⟨vs'⟩ : Array Value)[0] else .tuple ⟨vs'⟩, ?_, ?_⟩
  · unfold oneA
    split
    · rename_i v
      obtain ⟨v', r', rfl, q1, q2⟩ := k1.cons_inv
      rw [q2.nil_inv]
      exact q1
    · rename_i hno
      have : ¬ (⟨vs'⟩ : Array Value).size = 1 := by
        intro hq
        have hq : vs'.length = 1 := hq
        rw [← k1.1] at hq
        match vs, hq with
        | [v], _ => exact hno v rfl
      rw [dif_neg this]
      exact VR.tuple' k1
  · rw [results_eq, Array.mapM_eq_mapM_toList]
    simp [k2]

end
end Go.Ev
