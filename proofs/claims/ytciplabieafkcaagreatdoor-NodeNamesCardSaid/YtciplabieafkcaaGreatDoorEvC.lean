/-
  How an abstract memory stands to a world; what becomes of it where cells are read, stored, or made.
-/
import Derived.Test.YtciplabieafkcaaGreatDoorEvB
set_option linter.unusedSimpArgs false
set_option linter.unusedVariables false
namespace Go.Ev
open Go.RowKit

/-- A call that waits, on either side. -/
inductive DR (κ : KM) : Deferred → Deferred → Prop
  | fn (fn fn' : Fn) (c c' a a' : List Value) (h : FR κ fn fn') (hc : LR κ c c') (ha : LR κ a a') : DR κ ⟨.fn fn ⟨c⟩, ⟨a⟩⟩ ⟨.fn fn' ⟨c'⟩, ⟨a'⟩⟩
  | collected (r : Nat) (e : KE) (h : κ r = some e) (a : Array Value) : DR κ ⟨.collected r, a⟩ ⟨.collected e.blk, a⟩

theorem DR.mono {κ κ' : KM} (h : κ.le κ') {d d' : Deferred} (x : DR κ d d') : DR κ' d d' := by
  cases x with
  | fn fn fn' c c' a a' hf hc ha => exact .fn fn fn' c c' a a' (hf.mono h) (hc.mono h) (ha.mono h)
  | collected r e he a => exact .collected r e (h _ _ he) a

def DL (κ : KM) (l l' : List Deferred) : Prop := l.length = l'.length ∧ ∀ (i : Nat) (d d' : Deferred), l[i]? = some d → l'[i]? = some d' → DR κ d d'
theorem DL.mono {κ κ' : KM} (h : κ.le κ') {l l' : List Deferred} (x : DL κ l l') : DL κ' l l' := ⟨x.1, fun i a b p q => (x.2 i a b p q).mono h⟩
theorem DL.nil (κ : KM) : DL κ [] [] := ⟨rfl, fun i v v' h => by simp at h⟩
theorem DL.cons {κ : KM} {v v' : Deferred} {l l' : List Deferred} (h : DR κ v v') (x : DL κ l l') : DL κ (v :: l) (v' :: l') := by
  refine ⟨by simp [x.1], fun i a b ha hb => ?_⟩
  cases i with
  | zero => simp at ha hb; subst ha; subst hb; exact h
  | succ i => exact x.2 i a b (by simpa using ha) (by simpa using hb)
theorem DL.nil_inv {κ : KM} {l' : List Deferred} (x : DL κ [] l') : l' = [] := by
  have := x.1; cases l' with | nil => rfl | cons => simp at this
theorem DL.cons_inv {κ : KM} {v : Deferred} {l l' : List Deferred} (x : DL κ (v :: l) l') : ∃ v' r', l' = v' :: r' ∧ DR κ v v' ∧ DL κ l r' := by
  cases l' with
  | nil => have := x.1; simp at this
  | cons v' r' => exact ⟨v', r', rfl, x.2 0 v v' (by simp) (by simp), by have := x.1; simpa using this, fun i a b ha hb => x.2 (i + 1) a b (by simpa using ha) (by simpa using hb)⟩
theorem DL.append {κ : KM} {l l' m m' : List Deferred} (x : DL κ l l') (y : DL κ m m') : DL κ (l ++ m) (l' ++ m') := by
  induction l generalizing l' with
  | nil => rw [x.nil_inv]; exact y
  | cons v l ih => obtain ⟨v', r', rfl, h, hr⟩ := x.cons_inv; exact .cons h (ih hr)

/-- The slots of a frame. -/
def TR (κ : KM) (t : Tr Value) (n : Nat) (a : Array Value) : Prop := a.size = n ∧ ∀ i, VR κ (match t.get i with | some v => v | none => undef) (a.getD i undef)
theorem TR.mono {κ κ' : KM} (h : κ.le κ') {t : Tr Value} {n : Nat} {a : Array Value} (x : TR κ t n a) : TR κ' t n a := ⟨x.1, fun i => (x.2 i).mono h⟩

/-- An entry of a map. -/
def ER (κ : KM) (x : Value × Value × Nat) (y : MapEntry) : Prop := y.key = x.1 ∧ (∃ q n, x.1 = .int q n) ∧ VR κ x.2.1 y.val ∧ y.born = x.2.2
def EL (κ : KM) (l : List (Value × Value × Nat)) (m : List MapEntry) : Prop := l.length = m.length ∧ ∀ (i : Nat) (x : Value × Value × Nat) (y : MapEntry), l[i]? = some x → m[i]? = some y → ER κ x y
theorem EL.mono {κ κ' : KM} (h : κ.le κ') {l : List (Value × Value × Nat)} {m : List MapEntry} (x : EL κ l m) : EL κ' l m :=
  ⟨x.1, fun i a b p q => let ⟨h1, h2, h3, h4⟩ := x.2 i a b p q; ⟨h1, h2, h3.mono h, h4⟩⟩

/-- A block of the abstract memory, and where it lies. -/
def OR (κ : KM) (e : KE) (w : World) : AObj → Prop
  | .cells c lo wr ex => ∃ (cs : Array Value) (el : TypeId) (fr : Nat × Nat), w.heap[e.blk]? = some (.cells cs el fr) ∧ cs.size = e.len ∧ c.length = e.n ∧ e.off + e.n ≤ e.len ∧ lo ≤ e.n ∧ (wr = true → fr = (0, 0)) ∧ (ex = true → wr = true) ∧
      ∀ (j : Nat) (v : Value), c[j]? = some v → ∃ v', cs[e.off + j]? = some v' ∧ VR κ v v' ∧ v'.oneCell' = true
  | .map es clock => ∃ m, w.heap[e.blk]? = some (.map m clock) ∧ EL κ es m.toList
  | .loop st pend fn t n ps asg body d => ∃ (a : Array Value) (f : KE) (fn' : FuncId), w.heap[e.blk]? = some (.loop { state := st, pending := pend, fn := fn', tmps := a, params := ⟨ps⟩, assign := asg, body := body, defers := f.blk }) ∧ TR κ t n a ∧ κ d = some f
  | .deferred none => w.heap[e.blk]? = some (.deferred none)
  | .deferred (some ds) => ∃ ds', w.heap[e.blk]? = some (.deferred (some ds')) ∧ DL κ ds ds'

theorem OR.mono {κ κ' : KM} (h : κ.le κ') {e : KE} {w : World} {o : AObj} (x : OR κ e w o) : OR κ' e w o := by
  cases o with
  | cells c lo wr ex =>
    obtain ⟨cs, el, fr, h1, h2, h3, h4, h5, h6, h7, h8⟩ := x
    exact ⟨cs, el, fr, h1, h2, h3, h4, h5, h6, h7, fun j v hv => let ⟨v', a, b, c⟩ := h8 j v hv; ⟨v', a, b.mono h, c⟩⟩
  | map es clock => obtain ⟨m, h1, h2⟩ := x; exact ⟨m, h1, h2.mono h⟩
  | loop st pend fn t n ps asg body d => obtain ⟨a, f, fn', h1, h2, h3⟩ := x; exact ⟨a, f, fn', h1, h2.mono h, h _ _ h3⟩
  | deferred c =>
    cases c with
    | none => exact x
    | some ds => obtain ⟨ds', h1, h2⟩ := x; exact ⟨ds', h1, h2.mono h⟩

theorem OR.world {κ : KM} {e : KE} {w w' : World} {o : AObj} (x : OR κ e w o) (h : w'.heap[e.blk]? = w.heap[e.blk]?) : OR κ e w' o := by
  cases o with
  | cells c lo wr ex => unfold OR at x ⊢; rw [h]; exact x
  | map es clock => unfold OR at x ⊢; rw [h]; exact x
  | loop => unfold OR at x ⊢; rw [h]; exact x
  | deferred c => cases c <;> (unfold OR at x ⊢; rw [h]; exact x)

def AObj.isCells : AObj → Bool
  | .cells .. => true
  | _ => false

theorem OR.lt {κ : KM} {e : KE} {w : World} {o : AObj} (x : OR κ e w o) : e.blk < w.heap.size := by
  have hlt : ∀ {o : Obj}, w.heap[e.blk]? = some o → e.blk < w.heap.size := fun h => (Array.getElem?_eq_some_iff.1 h).1
  cases o with
  | cells c lo wr ex => obtain ⟨cs, el, fr, h1, _⟩ := x; exact hlt h1
  | map es clock => obtain ⟨m, h1, _⟩ := x; exact hlt h1
  | loop => obtain ⟨a, f, fn', h1, _⟩ := x; exact hlt h1
  | deferred c => cases c with
    | none => exact hlt x
    | some ds => obtain ⟨ds', h1, _⟩ := x; exact hlt h1

/-- May a block be stored to? -/
def AObj.open : AObj → Bool
  | .cells _ _ w _ => w
  | _ => true

/-- From which cell on. -/
def AObj.lo : AObj → Nat
  | .cells _ lo _ _ => lo
  | _ => 0

/-- An abstract memory and a world. 'base': how many blocks there were when the call began; 'w0': that world. Blocks that lie in one of the machine's: what may be stored to, lies behind all others. -/
structure RW (κ : KM) (W : AW) (base : Nat) (w0 w : World) : Prop where
  dom : ∀ i e, κ i = some e → i < W.size
  top : ∀ i, W.size ≤ i → W.heap.get i = none
  has : ∀ i e, κ i = some e → ∃ o, W.heap.get i = some o ∧ OR κ e w o
  apart : ∀ i j e f o, i ≠ j → κ i = some e → κ j = some f → e.blk = f.blk → W.heap.get j = some o → o.isCells = true ∧ (o.open = true → e.off + e.n ≤ f.off + o.lo ∧ ∀ o', W.heap.get i = some o' → o'.open = false)
  own : ∀ i e o, κ i = some e → W.heap.get i = some o → o.open = true → base ≤ e.blk
  below : Below base w0 w
  big : base ≤ w.heap.size

/-- What a piece of work may have changed. -/
structure Fw (κ κ' : KM) (W W' : AW) (w w' : World) : Prop where
  le : κ.le κ'
  new : ∀ i e, κ' i = some e → κ i = some e ∨ (W.size ≤ i ∧ (w.heap.size ≤ e.blk ∨ ∃ j f, κ j = some f ∧ f.blk = e.blk))
  frame : ∀ b, b < w.heap.size → (∀ i e, κ i = some e → e.blk ≠ b) → w'.heap[b]? = w.heap[b]?
  grow : w.heap.size ≤ w'.heap.size
  wsize : W.size ≤ W'.size

theorem Fw.refl (κ : KM) (W : AW) (w : World) : Fw κ κ W W w w := ⟨fun _ _ h => h, fun _ _ h => .inl h, fun _ _ _ => rfl, Nat.le_refl _, Nat.le_refl _⟩

theorem Fw.trans {κ κ' κ'' : KM} {W W' W'' : AW} {w w' w'' : World} (x : Fw κ κ' W W' w w') (y : Fw κ' κ'' W' W'' w' w'') : Fw κ κ'' W W'' w w'' := by
  refine ⟨fun i e h => y.le _ _ (x.le _ _ h), fun i e h => ?_, fun b hb hn => ?_, Nat.le_trans x.grow y.grow, Nat.le_trans x.wsize y.wsize⟩
  · rcases y.new i e h with h1 | ⟨h1, h2⟩
    · exact x.new i e h1
    · refine .inr ⟨Nat.le_trans x.wsize h1, ?_⟩
      rcases h2 with h2 | ⟨j, f, h3, h4⟩
      · exact .inl (Nat.le_trans x.grow h2)
      · rcases x.new j f h3 with h5 | ⟨_, h6⟩
        · exact .inr ⟨j, f, h5, h4⟩
        · rcases h6 with h6 | ⟨j', f', h7, h8⟩
          · exact .inl (by rw [← h4]; exact h6)
          · exact .inr ⟨j', f', h7, by rw [h8, h4]⟩
  · rw [y.frame b (Nat.lt_of_lt_of_le hb x.grow) ?_, x.frame b hb hn]
    intro i e h he
    rcases x.new i e h with h1 | ⟨_, h2⟩
    · exact hn i e h1 he
    · rcases h2 with h2 | ⟨j, f, h3, h4⟩
      · omega
      · exact hn j f h3 (by rw [h4, he])

/-! ### reading -/
theorem cellsAt_some {W : AW} {b off n : Nat} {l : List Value} (h : W.cellsAt b off n = some l) :
    ∃ c lo wr ex, W.heap.get b = some (.cells c lo wr ex) ∧ off + n ≤ c.length + (if n = 0 then off else 0) ∧ l = (c.drop off).take n := by
  unfold AW.cellsAt at h
  split at h
  · rename_i c lo wr ex hg
    rw [drop_eq] at h
    obtain ⟨h1, h2⟩ := takeO_some h
    refine ⟨c, lo, wr, ex, hg, ?_, h2⟩
    rw [List.length_drop] at h1
    split <;> omega
  · cases h

theorem add_at (b o i : Nat) : (⟨b, o, none⟩ : Addr).add i = ⟨b, o + i, none⟩ := by unfold Addr.add; split <;> simp_all

theorem load_cells {κ : KM} {W : AW} {base : Nat} {w0 w : World} (R : RW κ W base w0 w) {b off n : Nat} {l : List Value} (h : W.cellsAt b off n = some l) {e : KE} (he : κ b = some e) (P : Program) :
    ∃ l', l'.length = n ∧ CL κ l l' ∧ (∀ j v, l'[j]? = some v → w.cell? ((⟨e.blk, e.off + off, none⟩ : Addr).add j) = some v) ∧ (loadCells ⟨e.blk, e.off + off, none⟩ n).run P w = .ok l'.toArray w := by
  obtain ⟨c, lo, wr, ex, hg, hn, rfl⟩ := cellsAt_some h
  obtain ⟨o, ho, hO⟩ := R.has b e he
  rw [hg] at ho
  cases ho
  obtain ⟨cs, el, fr, h1, h2, h3, h4, h5, h6, h7, h8⟩ := hO
  have hlen : ((c.drop off).take n).length = n := by
    rw [List.length_take, List.length_drop]
    split at hn <;> omega
  have hcell : ∀ j, j < n → ∃ v', cs[e.off + off + j]? = some v' ∧ VR κ (((c.drop off).take n).getD j undef) v' ∧ v'.oneCell' = true := by
    intro j hj
    have hj' : off + j < c.length := by split at hn <;> omega
    obtain ⟨v', g1, g2, g3⟩ := h8 (off + j) c[off + j] (by simp [hj'])
    refine ⟨v', by rw [Nat.add_assoc]; exact g1, ?_, g3⟩
    have : ((c.drop off).take n).getD j undef = c[off + j] := by
      rw [List.getD, List.getElem?_take, if_pos hj, List.getElem?_drop, List.getElem?_eq_getElem hj']; rfl
    rw [this]; exact g2
  refine ⟨(List.range n).map fun j => cs.getD (e.off + off + j) undef, by simp, ⟨⟨by simp [hlen], fun i v v' a b' => ?_⟩, fun v' hv' => ?_⟩, fun j v hv => ?_, ?_⟩
  · have hi : i < n := by rw [← hlen]; exact (List.getElem?_eq_some_iff.1 a).1
    obtain ⟨u, g1, g2, _⟩ := hcell i hi
    rw [List.getElem?_map, List.getElem?_range hi] at b'
    simp only [Option.map_some] at b'
    cases b'
    rw [List.getD, a] at g2
    simpa [Array.getD, g1, (Array.getElem?_eq_some_iff.1 g1).1, (Array.getElem?_eq_some_iff.1 g1).2] using g2
  · obtain ⟨j, hj, rfl⟩ := List.mem_map.1 hv'
    obtain ⟨u, g1, _, g3⟩ := hcell j (List.mem_range.1 hj)
    simpa [Array.getD, (Array.getElem?_eq_some_iff.1 g1).1, (Array.getElem?_eq_some_iff.1 g1).2] using g3
  · have hj : j < n := by
      have := (List.getElem?_eq_some_iff.1 hv).1
      simpa using this
    obtain ⟨u, g1, _, _⟩ := hcell j hj
    rw [List.getElem?_map, List.getElem?_range hj] at hv
    simp only [Option.map_some] at hv
    cases hv
    rw [add_at]
    simp [World.cell?, h1, g1, Array.getD, (Array.getElem?_eq_some_iff.1 g1).1, (Array.getElem?_eq_some_iff.1 g1).2]
  · refine run_loadCells w ⟨e.blk, e.off + off, none⟩ n (fun j => cs.getD (e.off + off + j) undef) fun j hj => ?_
    obtain ⟨u, g1, _, _⟩ := hcell j hj
    rw [add_at]
    simp [World.cell?, h1, g1, Array.getD, (Array.getElem?_eq_some_iff.1 g1).1, (Array.getElem?_eq_some_iff.1 g1).2]

end Go.Ev
