/-
  What becomes of an abstract memory and its world where cells are stored, blocks are made, or other objects set.
-/
import Derived.Test.YtciplabieafkcaaGreatDoorEvC
import Derived.Laws.CopyRow
set_option linter.unusedSimpArgs false
set_option linter.unusedVariables false
namespace Go.Ev
open Go.RowKit

theorem splice_get (cs : Array Value) (a : Nat) (vs : List Value) (h : a + vs.length ≤ cs.size) (k : Nat) :
    (cs.toList.take a ++ vs ++ cs.toList.drop (a + vs.length)).toArray[k]? = if a ≤ k ∧ k < a + vs.length then vs[k - a]? else cs[k]? := by
  have hl : (cs.toList.take a).length = a := by simp; omega
  rw [List.getElem?_toArray]
  by_cases h1 : k < a
  · rw [if_neg (by omega), List.append_assoc, List.getElem?_append_left (by omega), List.getElem?_take, if_pos h1, Array.getElem?_toList]
  · by_cases h2 : k < a + vs.length
    · rw [if_pos (by omega), List.append_assoc, List.getElem?_append_right (by omega), hl, List.getElem?_append_left (by omega)]
    · rw [if_neg (by omega), List.append_assoc, List.getElem?_append_right (by omega), hl, List.getElem?_append_right (by omega), List.getElem?_drop, Array.getElem?_toList]
      congr 1; omega

theorem splice_size (cs : Array Value) (a : Nat) (vs : List Value) (h : a + vs.length ≤ cs.size) : (cs.toList.take a ++ vs ++ cs.toList.drop (a + vs.length)).toArray.size = cs.size := by
  simp; omega

theorem storeAt_some {W W' : AW} {b off : Nat} {vs : List Value} (h : W.storeAt b off vs = some W') :
    ∃ c lo ex c' hp, W.heap.get b = some (.cells c lo true ex) ∧ lo ≤ off ∧ spliceO c off vs = some c' ∧ W.heap.put (.cells c' lo true ex) b = some hp ∧ W' = { W with heap := hp } := by
  unfold AW.storeAt at h
  split at h
  · rename_i c lo ex hg
    split at h
    · rename_i hle
      split at h
      · rename_i c' hs
        split at h
        · rename_i hp hh
          exact ⟨c, lo, ex, c', hp, hg, Nat.le_of_ble_eq_true hle, hs, hh, (Option.some.inj h).symm⟩
        · cases h
      · cases h
    · cases h
  · cases h

/-- Cells of a block that may be stored to. -/
theorem store_cells {κ : KM} {W W' : AW} {base : Nat} {w0 w : World} (R : RW κ W base w0 w) {b off : Nat} {vs vs' : List Value} (h : W.storeAt b off vs = some W') {e : KE} (he : κ b = some e) (hv : CL κ vs vs') (P : Program) :
    ∃ w', (storeCells ⟨e.blk, e.off + off, none⟩ vs' 0).run P w = .ok () w' ∧ RW κ W' base w0 w' ∧ Fw κ κ W W' w w' := by
  obtain ⟨c, lo, ex, c', hp, hg, hlo, hs, hput, rfl⟩ := storeAt_some h
  obtain ⟨o, ho, hO⟩ := R.has b e he
  rw [hg] at ho
  cases ho
  obtain ⟨cs, el, fr, h1, h2, h3, h4, h5, h6, h7, h8⟩ := hO
  have hfr : fr = (0, 0) := h6 rfl
  subst hfr
  obtain ⟨g1, g2, g3⟩ := spliceO_some hs
  have hvl : vs'.length = vs.length := hv.1.1.symm
  have hfit : e.off + off + 0 + vs'.length ≤ cs.size := by omega
  have hrun := run_storeCells_at P e.blk (e.off + off) el vs' 0 cs w h1 hfit hv.2
  rw [Nat.add_zero] at hrun hfit
  refine ⟨_, hrun, ?_, ?_⟩
  · have hget := Tr.put_get hput
    refine ⟨R.dom, fun i hi => ?_, fun i f hf => ?_, fun i j f g o hij hi hj hb ho => ?_, fun i f o hf ho hopen => ?_, ?_, ?_⟩
    · rw [hget, if_neg (by have := R.dom b e he; exact fun q => by subst q; exact absurd hi (by simpa using this)), R.top i hi]
    · rw [hget]
      by_cases hib : i = b
      · subst hib
        rw [he] at hf; cases hf
        refine ⟨_, if_pos rfl, ⟨_, el, (0, 0), setRow_heap w e.blk cs _ el _ h1, (splice_size cs _ vs' hfit).trans h2, by rw [g2, h3], h4, h5, fun _ => rfl, h7, fun j v hjv => ?_⟩⟩
        rw [g3 j] at hjv
        rw [splice_get cs _ vs' hfit]
        split at hjv
        · rename_i hj
          obtain ⟨v', q1, q2⟩ := hv.1.get hjv
          refine ⟨v', ?_, q2, hv.2 v' (List.mem_of_getElem? q1)⟩
          rw [if_pos (by omega), ← q1]; congr 1; omega
        · rename_i hj
          obtain ⟨v', q1, q2, q3⟩ := h8 j v hjv
          have hjl : j < c.length := (List.getElem?_eq_some_iff.1 hjv).1
          exact ⟨v', by rw [if_neg (by omega)]; exact q1, q2, q3⟩
      · rw [if_neg hib]
        obtain ⟨o, ho, hO⟩ := R.has i f hf
        refine ⟨o, ho, ?_⟩
        by_cases hblk : f.blk = e.blk
        · obtain ⟨hc1, hc2⟩ := R.apart b i e f o (Ne.symm hib) he hf hblk.symm ho
          obtain ⟨_, hc3⟩ := R.apart i b f e _ hib hf he hblk hg
          have hle : f.off + f.n ≤ e.off + lo := (hc3 rfl).1
          cases o with
          | cells ci li wi xi =>
            obtain ⟨cs', el', fr', k1, k2, k3, k4, k5, k6, k7, k8⟩ := hO
            rw [hblk, h1] at k1
            cases k1
            refine ⟨_, el, (0, 0), by rw [hblk]; exact setRow_heap w e.blk cs _ el _ h1, (splice_size cs _ vs' hfit).trans k2, k3, k4, k5, k6, k7, fun j v hjv => ?_⟩
            obtain ⟨v', q1, q2, q3⟩ := k8 j v hjv
            have hjl : j < ci.length := (List.getElem?_eq_some_iff.1 hjv).1
            exact ⟨v', by rw [splice_get cs _ vs' hfit, if_neg (by omega)]; exact q1, q2, q3⟩
          | map => cases hc1
          | loop => cases hc1
          | deferred => cases hc1
        · exact hO.world (setRow_other w e.blk f.blk _ hblk)
    · rw [hget] at ho
      by_cases hjb : j = b
      · subst hjb
        rw [if_pos rfl] at ho; cases ho
        rw [he] at hj; cases hj
        obtain ⟨q1, q2⟩ := (R.apart i j f e _ hij hi he hb hg).2 rfl
        exact ⟨rfl, fun _ => ⟨q1, fun o' ho' => q2 o' (by rw [hget, if_neg hij] at ho'; exact ho')⟩⟩
      · rw [if_neg hjb] at ho
        obtain ⟨q1, q2⟩ := R.apart i j f g o hij hi hj hb ho
        refine ⟨q1, fun hopen => ?_⟩
        obtain ⟨q3, q4⟩ := q2 hopen
        refine ⟨q3, fun o' ho' => ?_⟩
        rw [hget] at ho'
        by_cases hib : i = b
        · subst hib
          exact absurd (q4 _ hg) (by simp [AObj.open])
        · rw [if_neg hib] at ho'
          exact q4 o' ho'
    · rw [hget] at ho
      by_cases hib : i = b
      · subst hib
        rw [he] at hf; cases hf
        exact R.own i e _ he hg rfl
      · rw [if_neg hib] at ho
        exact R.own i f o hf ho hopen
    · have hB := R.own b e _ he hg rfl
      exact R.below.trans ⟨rfl, rfl, rfl, by simp, fun k hk => setRow_other w e.blk k _ (by omega)⟩
    · simpa using R.big
  · refine ⟨fun _ _ h => h, fun _ _ h => .inl h, fun k _ hn => setRow_other w e.blk k _ (fun q => hn b e he q.symm), by simp, Nat.le_refl _⟩

/-- κ with one block more. -/
def KM.ext (κ : KM) (i : Nat) (e : KE) : KM := fun k => if k = i then some e else κ k

theorem KM.le_ext {κ : KM} {W : AW} {base : Nat} {w0 w : World} (R : RW κ W base w0 w) (e : KE) {i : Nat} (hi : W.size ≤ i) : κ.le (κ.ext i e) := by
  intro k f hf
  unfold KM.ext
  rw [if_neg (fun q => by subst q; have := R.dom k f hf; omega)]
  exact hf

/-- A new block. -/
theorem alloc_obj {κ : KM} {W : AW} {base : Nat} {w0 w : World} (R : RW κ W base w0 w) {o : AObj} {hp : Tr AObj} (hput : W.heap.put o W.size = some hp) {obj : Obj} {n len : Nat}
    (hO : OR (κ.ext W.size ⟨w.heap.size, 0, n, len⟩) ⟨w.heap.size, 0, n, len⟩ (w.alloc obj) o) :
    RW (κ.ext W.size ⟨w.heap.size, 0, n, len⟩) { heap := hp, size := W.size + 1 } base w0 (w.alloc obj) ∧ Fw κ (κ.ext W.size ⟨w.heap.size, 0, n, len⟩) W { heap := hp, size := W.size + 1 } w (w.alloc obj) := by
  have hle := KM.le_ext R ⟨w.heap.size, 0, n, len⟩ (Nat.le_refl W.size)
  have hget := Tr.put_get hput
  have hlt : ∀ i e, κ i = some e → e.blk < w.heap.size := fun i e h => let ⟨o, _, h2⟩ := R.has i e h; h2.lt
  have hsz : (w.alloc obj).heap.size = w.heap.size + 1 := Array.size_push _
  refine ⟨⟨fun i e h => ?_, fun i hi => ?_, fun i f hf => ?_, fun i j f g o' hij hi hj hb ho => ?_, fun i f o' hf ho hopen => ?_, ?_, ?_⟩, hle, fun i e h => ?_, fun b hb _ => ?_, ?_, ?_⟩
  · unfold KM.ext at h
    show i < W.size + 1
    split at h
    · omega
    · have := R.dom i e h; omega
  · have hi' : W.size + 1 ≤ i := hi
    show hp.get i = none
    rw [hget, if_neg (by omega)]
    exact R.top i (by omega)
  · show ∃ o, hp.get i = some o ∧ _
    rw [hget]
    unfold KM.ext at hf
    by_cases hi : i = W.size
    · rw [if_pos hi] at hf ⊢
      cases hf
      exact ⟨o, rfl, hO⟩
    · rw [if_neg hi] at hf ⊢
      obtain ⟨o', h1, h2⟩ := R.has i f hf
      refine ⟨o', h1, (h2.mono hle).world ?_⟩
      have := hlt i f hf
      show (w.heap.push obj)[f.blk]? = _
      rw [Array.getElem?_push, if_neg (by omega)]
  · have ho' : hp.get j = some o' := ho
    rw [hget] at ho'
    unfold KM.ext at hi hj
    by_cases h1 : i = W.size
    · rw [if_pos h1] at hi
      cases hi
      rw [if_neg (by omega)] at hj
      have := hlt j g hj
      have hb' : w.heap.size = g.blk := hb
      omega
    · rw [if_neg h1] at hi
      by_cases h2 : j = W.size
      · rw [if_pos h2] at hj
        cases hj
        have := hlt i f hi
        have hb' : f.blk = w.heap.size := hb
        omega
      · rw [if_neg h2] at hj ho'
        obtain ⟨q1, q2⟩ := R.apart i j f g o' hij hi hj hb ho'
        refine ⟨q1, fun hopen => ⟨(q2 hopen).1, fun o'' ho'' => ?_⟩⟩
        have ho3 : hp.get i = some o'' := ho''
        rw [hget, if_neg h1] at ho3
        exact (q2 hopen).2 o'' ho3
  · have ho' : hp.get i = some o' := ho
    rw [hget] at ho'
    unfold KM.ext at hf
    by_cases h1 : i = W.size
    · rw [if_pos h1] at hf
      cases hf
      exact R.big
    · rw [if_neg h1] at hf ho'
      exact R.own i f o' hf ho' hopen
  · exact R.below.alloc R.big obj
  · rw [hsz]; have := R.big; omega
  · unfold KM.ext at h
    split at h
    · rename_i hi
      cases h
      exact .inr ⟨by omega, .inl (Nat.le_refl _)⟩
    · exact .inl h
  · show (w.heap.push obj)[b]? = _
    rw [Array.getElem?_push, if_neg (by omega)]
  · rw [hsz]; omega
  · show W.size ≤ W.size + 1; omega

theorem alloc_new (w : World) (o : Obj) : (w.alloc o).heap[w.heap.size]? = some o := by
  show (w.heap.push o)[w.heap.size]? = _
  rw [Array.getElem?_push, if_pos rfl]

theorem new_some {W W' : AW} {c : List Value} {lo b : Nat} {ex : Bool} (h : W.new c lo ex = some (b, W')) : b = W.size ∧ ∃ hp, W.heap.put (.cells c lo true ex) W.size = some hp ∧ W' = { heap := hp, size := W.size + 1 } := by
  unfold AW.new at h
  split at h
  · rename_i hp hh; cases h; exact ⟨rfl, hp, hh, rfl⟩
  · cases h

/-- A new block of cells: the machine's may have more. -/
theorem new_cells {κ : KM} {W W' : AW} {base : Nat} {w0 w : World} (R : RW κ W base w0 w) {c : List Value} {lo b : Nat} {ex : Bool} (h : W.new c lo ex = some (b, W')) (hlo : lo ≤ c.length) {c' : List Value} (hc : CL κ c c') (rest : List Value) (el : TypeId) :
    ∃ κ', κ' b = some ⟨w.heap.size, 0, c.length, (c' ++ rest).length⟩ ∧ RW κ' W' base w0 (w.alloc (.cells (c' ++ rest).toArray el)) ∧ Fw κ κ' W W' w (w.alloc (.cells (c' ++ rest).toArray el)) := by
  obtain ⟨rfl, hp, hput, rfl⟩ := new_some h
  have hle := KM.le_ext R ⟨w.heap.size, 0, c.length, (c' ++ rest).length⟩ (Nat.le_refl W.size)
  refine ⟨κ.ext W.size ⟨w.heap.size, 0, c.length, (c' ++ rest).length⟩, if_pos rfl, alloc_obj R hput ⟨(c' ++ rest).toArray, el, (0, 0), alloc_new w _, by simp, rfl, ?_, hlo, fun _ => rfl, fun _ => rfl, fun j v hj => ?_⟩⟩
  · have := hc.1.1; simp; omega
  · obtain ⟨v', h1, h2⟩ := hc.1.get hj
    refine ⟨v', ?_, h2.mono hle, hc.2 v' (List.mem_of_getElem? h1)⟩
    have hj' : j < c'.length := (List.getElem?_eq_some_iff.1 h1).1
    rw [Nat.zero_add, List.getElem?_toArray, List.getElem?_append_left hj']
    exact h1

end Go.Ev
