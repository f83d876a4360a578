/-
  What becomes of an abstract memory and its world where another object is set, or a slice grows in its place.
-/
import Derived.Test.YtciplabieafkcaaGreatDoorEvD
set_option linter.unusedSimpArgs false
set_option linter.unusedVariables false
namespace Go.Ev
open Go.RowKit

theorem setObj_heap_same {w : World} {r : Nat} (h : r < w.heap.size) (o : Obj) : ({ w with heap := w.heap.setIfInBounds r o } : World).heap[r]? = some o := by
  show (w.heap.setIfInBounds r o)[r]? = _
  rw [Array.getElem?_setIfInBounds_self_of_lt h]

theorem setObj_heap_other {w : World} {r k : Nat} (h : k ≠ r) (o : Obj) : ({ w with heap := w.heap.setIfInBounds r o } : World).heap[k]? = w.heap[k]? := by
  show (w.heap.setIfInBounds r o)[k]? = _
  rw [Array.getElem?_setIfInBounds_ne (Ne.symm h)]

/-- Another object than cells, set. -/
theorem set_obj {κ : KM} {W : AW} {base : Nat} {w0 w : World} (R : RW κ W base w0 w) {i : Nat} {e : KE} {o o' : AObj} (he : κ i = some e) (hg : W.heap.get i = some o) (hc : o.isCells = false) (hc' : o'.isCells = false) {hp : Tr AObj} (hput : W.heap.put o' i = some hp) {obj : Obj}
    (hO : OR κ e { w with heap := w.heap.setIfInBounds e.blk obj } o') :
    RW κ { W with heap := hp } base w0 { w with heap := w.heap.setIfInBounds e.blk obj } ∧ Fw κ κ W { W with heap := hp } w { w with heap := w.heap.setIfInBounds e.blk obj } := by
  have hget := Tr.put_get hput
  have hi := R.dom i e he
  have hopen : o.open = true := by cases o <;> first | rfl | cases hc
  have hB := R.own i e o he hg hopen
  have hdiff : ∀ j f, j ≠ i → κ j = some f → f.blk ≠ e.blk := fun j f hj hf hb => by
    have := (R.apart j i f e o hj hf he hb hg).1
    rw [hc] at this; cases this
  refine ⟨⟨R.dom, fun j hj => ?_, fun j f hf => ?_, fun j k f g o2 hjk hj hk hb ho => ?_, fun j f o2 hf ho hop => ?_, ?_, ?_⟩, fun _ _ h => h, fun _ _ h => .inl h, fun k _ hn => ?_, ?_, Nat.le_refl _⟩
  · show hp.get j = none
    have hj' : W.size ≤ j := hj
    rw [hget, if_neg (by omega), R.top j hj]
  · show ∃ o, hp.get j = some o ∧ _
    rw [hget]
    by_cases h : j = i
    · subst h
      rw [he] at hf; cases hf
      exact ⟨o', if_pos rfl, hO⟩
    · rw [if_neg h]
      obtain ⟨o2, h1, h2⟩ := R.has j f hf
      exact ⟨o2, h1, h2.world (setObj_heap_other (hdiff j f h hf) _)⟩
  · have ho' : hp.get k = some o2 := ho
    rw [hget] at ho'
    by_cases h : k = i
    · subst h
      rw [he] at hk; cases hk
      exact absurd hb (hdiff j f hjk hj)
    · rw [if_neg h] at ho'
      obtain ⟨q1, q2⟩ := R.apart j k f g o2 hjk hj hk hb ho'
      refine ⟨q1, fun hop => ⟨(q2 hop).1, fun o3 ho3 => ?_⟩⟩
      have ho4 : hp.get j = some o3 := ho3
      rw [hget] at ho4
      by_cases h' : j = i
      · subst h'
        rw [he] at hj; cases hj
        exact absurd hb.symm (hdiff k g h hk)
      · rw [if_neg h'] at ho4
        exact (q2 hop).2 o3 ho4
  · have ho' : hp.get j = some o2 := ho
    rw [hget] at ho'
    by_cases h : j = i
    · subst h
      rw [he] at hf; cases hf
      exact hB
    · rw [if_neg h] at ho'
      exact R.own j f o2 hf ho' hop
  · exact R.below.trans ⟨rfl, rfl, rfl, by simp, fun k hk => setObj_heap_other (by omega) _⟩
  · simpa using R.big
  · exact setObj_heap_other (fun q => hn i e he q.symm) _
  · simp

/-- A slice that grows in its place: what is told of is a new block, that lies where the elder one lies. -/
theorem grow_place {κ : KM} {W : AW} {base : Nat} {w0 w : World} (R : RW κ W base w0 w) {b o : Nat} {e : KE} {cs : List Value} {lo : Nat} (he : κ b = some e) (hg : W.heap.get b = some (.cells cs lo true true))
    (ho : o ≤ cs.length) {new new' : List Value} (hn : CL κ new new') (hroom : e.off + e.n + new.length ≤ e.len) {h1 : Tr AObj} (hput : W.heap.put (.cells cs lo false false) b = some h1) {i : Nat} {W' : AW}
    (hnew : ({ W with heap := h1 } : AW).new (cs.drop o ++ new) (cs.length - o) true = some (i, W')) (P : Program) :
    ∃ w' κ', (storeCells ⟨e.blk, e.off + e.n, none⟩ new' 0).run P w = .ok () w' ∧ κ' i = some ⟨e.blk, e.off + o, (cs.drop o ++ new).length, e.len⟩ ∧ RW κ' W' base w0 w' ∧ Fw κ κ' W W' w w' := by
  obtain ⟨rfl, hp, hput2, rfl⟩ := new_some hnew
  obtain ⟨ob, hob, hO⟩ := R.has b e he
  rw [hg] at hob
  cases hob
  obtain ⟨ca, el, fr, k1, k2, k3, k4, k5, k6, k7, k8⟩ := hO
  have hfr : fr = (0, 0) := k6 rfl
  subst hfr
  have hvl : new'.length = new.length := hn.1.1.symm
  have hfit : e.off + e.n + 0 + new'.length ≤ ca.size := by omega
  have hrun := run_storeCells_at P e.blk (e.off + e.n) el new' 0 ca w k1 hfit hn.2
  rw [Nat.add_zero] at hrun hfit
  have hbW := R.dom b e he
  have hget1 := Tr.put_get hput
  have hget2 : ∀ m, hp.get m = if m = W.size then some (.cells (cs.drop o ++ new) (cs.length - o) true true) else if m = b then some (.cells cs lo false false) else W.heap.get m := fun m => by
    rw [Tr.put_get hput2 m, hget1 m]
  have hle := KM.le_ext R ⟨e.blk, e.off + o, (cs.drop o ++ new).length, e.len⟩ (Nat.le_refl W.size)
  have hB := R.own b e _ he hg rfl
  have helen : (cs.drop o ++ new).length = cs.length - o + new.length := by simp
  have hend : ∀ j f, j ≠ b → κ j = some f → f.blk = e.blk → f.off + f.n ≤ e.off + lo ∧ ∀ o', W.heap.get j = some o' → o'.open = false := fun j f hj hf hb => (R.apart j b f e _ hj hf he hb hg).2 rfl
  refine ⟨_, κ.ext W.size ⟨e.blk, e.off + o, (cs.drop o ++ new).length, e.len⟩, hrun, if_pos rfl, ⟨fun j f h => ?_, fun j hj => ?_, fun j f hf => ?_, fun j k f g o2 hjk hj hk hb ho2 => ?_, fun j f o2 hf ho2 hop => ?_, ?_, ?_⟩, hle, fun j f h => ?_, fun k hk hnk => ?_, ?_, ?_⟩
  · unfold KM.ext at h
    show j < W.size + 1
    split at h
    · omega
    · have := R.dom j f h; omega
  · have hj' : W.size + 1 ≤ j := hj
    show hp.get j = none
    rw [hget2, if_neg (by omega), if_neg (by omega), R.top j (by omega)]
  · show ∃ o, hp.get j = some o ∧ _
    rw [hget2]
    unfold KM.ext at hf
    by_cases h1 : j = W.size
    · rw [if_pos h1] at hf ⊢
      cases hf
      refine ⟨_, rfl, ⟨_, el, (0, 0), setRow_heap w e.blk ca _ el _ k1, (splice_size ca _ new' hfit).trans k2, rfl, ?_, ?_, fun _ => rfl, fun _ => rfl, fun m v hm => ?_⟩⟩
      · show e.off + o + (cs.drop o ++ new).length ≤ e.len; rw [helen]; omega
      · show cs.length - o ≤ (cs.drop o ++ new).length; rw [helen]; omega
      · show ∃ v', (_ : Array Value)[e.off + o + m]? = some v' ∧ _
        rw [splice_get ca _ new' hfit]
        by_cases hm2 : m < cs.length - o
        · rw [List.getElem?_append_left (by rw [List.length_drop]; exact hm2), List.getElem?_drop] at hm
          obtain ⟨v', q1, q2, q3⟩ := k8 (o + m) v hm
          exact ⟨v', by rw [if_neg (by omega), Nat.add_assoc]; exact q1, q2.mono hle, q3⟩
        · rw [List.getElem?_append_right (by rw [List.length_drop]; omega), List.length_drop] at hm
          obtain ⟨v', q1, q2⟩ := hn.1.get hm
          have hml : m - (cs.length - o) < new.length := (List.getElem?_eq_some_iff.1 hm).1
          exact ⟨v', by rw [if_pos (by omega), ← q1]; congr 1; omega, q2.mono hle, hn.2 v' (List.mem_of_getElem? q1)⟩
    · rw [if_neg h1] at hf ⊢
      by_cases h2 : j = b
      · subst h2
        rw [he] at hf; cases hf
        rw [if_pos rfl]
        refine ⟨_, rfl, ⟨_, el, (0, 0), setRow_heap w e.blk ca _ el _ k1, (splice_size ca _ new' hfit).trans k2, k3, k4, k5, fun _ => rfl, fun h => (by cases h), fun m v hm => ?_⟩⟩
        obtain ⟨v', q1, q2, q3⟩ := k8 m v hm
        have hml : m < cs.length := (List.getElem?_eq_some_iff.1 hm).1
        exact ⟨v', by rw [splice_get ca _ new' hfit, if_neg (by omega)]; exact q1, q2.mono hle, q3⟩
      · rw [if_neg h2]
        obtain ⟨oj, hoj, hOj⟩ := R.has j f hf
        refine ⟨oj, hoj, ?_⟩
        by_cases hblk : f.blk = e.blk
        · have hq := (hend j f h2 hf hblk).1
          have hcj := (R.apart b j e f oj (Ne.symm h2) he hf hblk.symm hoj).1
          cases oj with
          | cells ci li wi xi =>
            obtain ⟨cs', el', fr', m1, m2, m3, m4, m5, m6, m7, m8⟩ := hOj
            rw [hblk, k1] at m1
            cases m1
            refine ⟨_, el, (0, 0), by rw [hblk]; exact setRow_heap w e.blk ca _ el _ k1, (splice_size ca _ new' hfit).trans m2, m3, m4, m5, m6, m7, fun m v hm => ?_⟩
            obtain ⟨v', q1, q2, q3⟩ := m8 m v hm
            have hml : m < ci.length := (List.getElem?_eq_some_iff.1 hm).1
            exact ⟨v', by rw [splice_get ca _ new' hfit, if_neg (by omega)]; exact q1, q2.mono hle, q3⟩
          | map => cases hcj
          | loop => cases hcj
          | deferred => cases hcj
        · exact (hOj.mono hle).world (setRow_other w e.blk f.blk _ hblk)
  · have ho3 : hp.get k = some o2 := ho2
    rw [hget2] at ho3
    unfold KM.ext at hj hk
    by_cases h1 : k = W.size
    · rw [if_pos h1] at hk ho3
      cases hk; cases ho3
      rw [if_neg (by omega)] at hj
      refine ⟨rfl, fun _ => ?_⟩
      show f.off + f.n ≤ e.off + o + (cs.length - o) ∧ _
      by_cases h2 : j = b
      · subst h2
        rw [he] at hj; cases hj
        refine ⟨by omega, fun o' ho' => ?_⟩
        have : hp.get j = some o' := ho'
        rw [hget2, if_neg (by omega), if_pos rfl] at this
        cases this; rfl
      · obtain ⟨q1, q2⟩ := hend j f h2 hj hb
        refine ⟨by omega, fun o' ho' => ?_⟩
        have : hp.get j = some o' := ho'
        rw [hget2, if_neg (by have := R.dom j f hj; omega), if_neg h2] at this
        exact q2 o' this
    · rw [if_neg h1] at hk ho3
      by_cases h2 : k = b
      · subst h2
        rw [if_pos rfl] at ho3
        cases ho3
        exact ⟨rfl, fun h => by cases h⟩
      · rw [if_neg h2] at ho3
        by_cases h3 : j = W.size
        · rw [if_pos h3] at hj
          cases hj
          have hb' : g.blk = e.blk := hb.symm
          refine ⟨(R.apart b k e g o2 (Ne.symm h2) he hk hb'.symm ho3).1, fun hop => ?_⟩
          have := (hend k g h2 hk hb').2 o2 ho3
          rw [hop] at this; cases this
        · rw [if_neg h3] at hj
          obtain ⟨q1, q2⟩ := R.apart j k f g o2 hjk hj hk hb ho3
          refine ⟨q1, fun hop => ⟨(q2 hop).1, fun o' ho' => ?_⟩⟩
          have : hp.get j = some o' := ho'
          rw [hget2, if_neg h3] at this
          by_cases h4 : j = b
          · rw [if_pos h4] at this; cases this; rfl
          · rw [if_neg h4] at this
            exact (q2 hop).2 o' this
  · have ho3 : hp.get j = some o2 := ho2
    rw [hget2] at ho3
    unfold KM.ext at hf
    by_cases h1 : j = W.size
    · rw [if_pos h1] at hf; cases hf; exact hB
    · rw [if_neg h1] at hf ho3
      by_cases h2 : j = b
      · subst h2; rw [if_pos rfl] at ho3; cases ho3; cases hop
      · rw [if_neg h2] at ho3
        exact R.own j f o2 hf ho3 hop
  · exact R.below.trans ⟨rfl, rfl, rfl, by simp, fun k hk => setRow_other w e.blk k _ (by omega)⟩
  · simpa using R.big
  · unfold KM.ext at h
    split at h
    · cases h; exact .inr ⟨by omega, .inr ⟨b, e, he, rfl⟩⟩
    · exact .inl h
  · exact setRow_other w e.blk k _ (fun q => hnk b e he q.symm)
  · simp
  · show W.size ≤ W.size + 1; omega

end Go.Ev
