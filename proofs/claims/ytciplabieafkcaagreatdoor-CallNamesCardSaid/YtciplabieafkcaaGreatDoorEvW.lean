/-
  Regions that draw their order: each operation, whenever it comes.
-/
import Derived.Test.YtciplabieafkcaaGreatDoorEvV
set_option linter.unusedSimpArgs false
set_option linter.unusedVariables false
namespace Go.Ev
open Go.RowKit

section
variable {P : Program} {orc : Orc} {all : List Oper} {ms : List Nat} {plan : List Item'} {ans : Ans} {κ0 : KM} {base : Nat} {w0 : World} {W0 : AW} {wS : World} {a0 : AF}

/-- An operation that has been reckoned and not yet carried out. -/
def Pend (P : Program) (orc : Orc) (all : List Oper) (recs : List (Nat × (AW → Bool))) (κ : KM) (W0 : AW) (te : TE) : Prop :=
  (wantedA all te.x.o te.a = some false ∧ te.v = undef ∧ te.fl = false) ∨
  (wantedA all te.x.o te.a = some true ∧
    ((opKind te.x.o = .still ∧ te.fl = false ∧ stillA P te.x.o (te.a.eval orc.gl) = some te.v) ∨
     ((te.x.i, recOf P te.x.o (te.a.eval orc.gl) te.v te.b) ∈ recs ∧
      ((opKind te.x.o = .read ∧ te.fl = false) ∨
       (opKind te.x.o = .float ∧ te.fl = true ∧ (∃ c vf, floatA P te.x.o (te.a.eval orc.gl) = some (c, vf) ∧ te.v = vf te.b) ∧ W0.size ≤ te.b ∧ κ te.b = none)))))

/-- What stands while a region is under way: these are listed, those reckoned, those not yet. -/
structure DInv (P : Program) (orc : Orc) (all : List Oper) (ms : List Nat) (plan : List Item') (ans : Ans) (κ0 : KM) (base : Nat) (w0 : World) (W0 : AW) (wS : World) (a0 : AF)
    (L : Nat → Bool) (m : Nat) (T : List TE) (rest : List Item') (recs : List (Nat × (AW → Bool))) (a : AF) (W : AW) (κ : KM) (b : Act) (w : World) : Prop where
  run : ev P orc m (.dops all rest recs) a W = some ans
  split : plan = T.map (·.x) ++ rest
  R : RW κ W base w0 w
  F : Fw κ0 κ W0 W wS w
  todo : ∀ y ∈ rest, L y.i = false
  effs : ∀ te ∈ T, isEff te.x.o = true → L te.x.i = true
  chain : FT a0 T a
  pend : ∀ te ∈ T, L te.x.i = false → Pend P orc all recs κ W0 te
  bs : T.Pairwise fun t t' => t.fl = true → t.b < t'.b
  bW : ∀ te ∈ T, (te.fl = true → te.b < W.size)
  size : b.tmps.size = a0.nt
  slots : ∀ t, VR κ (sl L a0.get T t) (b.tmps.getD t undef)
  defers : DL κ a0.defers b.defers
  closed : Closed ms L

/-- A block that is reckoned ahead of its being made. -/
theorem RW.more {κ : KM} {W : AW} {w : World} {o : AObj} {hp : Tr AObj} (R : RW κ W base w0 w) (hput : W.heap.put o W.size = some hp) : RW κ { heap := hp, size := W.size + 1 } base w0 w := by
  have hget := Tr.put_get hput
  refine ⟨fun i e h => ?_, fun i hi => ?_, fun i e he => ?_, fun i j e f o' hij hi hj hb ho => ?_, fun i e o' he ho hop => ?_, R.below, R.big⟩
  · have := R.dom i e h
    show i < W.size + 1
    omega
  · have hi' : W.size + 1 ≤ i := hi
    show hp.get i = none
    rw [hget, if_neg (by omega)]
    exact R.top i (by omega)
  · show ∃ o, hp.get i = some o ∧ _
    have := R.dom i e he
    rw [hget, if_neg (by omega)]
    exact R.has i e he
  · have h1 := R.dom i e hi
    have h2 := R.dom j f hj
    have ho' : hp.get j = some o' := ho
    rw [hget, if_neg (by omega)] at ho'
    obtain ⟨q1, q2⟩ := R.apart i j e f o' hij hi hj hb ho'
    refine ⟨q1, fun hop => ⟨(q2 hop).1, fun o2 ho2 => ?_⟩⟩
    have ho3 : hp.get i = some o2 := ho2
    rw [hget, if_neg (by omega)] at ho3
    exact (q2 hop).2 o2 ho3
  · have h1 := R.dom i e he
    have ho' : hp.get i = some o' := ho
    rw [hget, if_neg (by omega)] at ho'
    exact R.own i e o' he ho' hop

theorem Fw.more {κ : KM} {W : AW} {w : World} {hp : Tr AObj} (F : Fw κ0 κ W0 W wS w) : Fw κ0 κ W0 { heap := hp, size := W.size + 1 } wS w :=
  ⟨F.le, F.new, F.frame, F.grow, by have := F.wsize; show W0.size ≤ W.size + 1; omega⟩

theorem Pend.recs {recs recs' : List (Nat × (AW → Bool))} {κ : KM} {te : TE} (h : Pend P orc all recs κ W0 te) (hr : ∀ f, (te.x.i, f) ∈ recs → (te.x.i, f) ∈ recs') : Pend P orc all recs' κ W0 te := by
  rcases h with h | ⟨h1, h | ⟨h2, h3⟩⟩
  · exact .inl h
  · exact .inr ⟨h1, .inl h⟩
  · exact .inr ⟨h1, .inr ⟨hr _ h2, h3⟩⟩

theorem kind_noneff {o : Oper} (h : isEff o = false) : opKind o ≠ .effect ∧ opKind o ≠ .calls := by
  unfold isEff at h
  constructor <;> intro q <;> rw [q] at h <;> cases h

/-- The evaluator reckons one operation more that is no effect. -/
theorem advance_one {L : Nat → Bool} {m : Nat} {T : List TE} {y : Item'} {rest : List Item'} {recs : List (Nat × (AW → Bool))} {a : AF} {W : AW} {κ : KM} {b : Act} {w : World}
    (I : DInv P orc all ms plan ans κ0 base w0 W0 wS a0 L m T (y :: rest) recs a W κ b w) (hy : isEff y.o = false) :
    ∃ m' T' recs' a' W', m' < m ∧ DInv P orc all ms plan ans κ0 base w0 W0 wS a0 L m' T' rest recs' a' W' κ b w := by
  cases m with
  | zero => have := I.run; cases this
  | succ m =>
    have hrun : stepA P orc (ev P orc m) (.dops all (y :: rest) recs) a W = some ans := I.run
    have hyl := I.todo y List.mem_cons_self
    unfold stepA at hrun
    obtain ⟨yi, yo, ym⟩ := y
    simp only [hy] at hrun
    -- what stands behind it
    have mk : ∀ {v : Value} {fl : Bool} {a' : AF} {W' : AW} {recs' : List (Nat × (AW → Bool))}, ev P orc m (.dops all rest recs') a' W' = some ans → a.putd yo.dst v = some a' →
        RW κ W' base w0 w → Fw κ0 κ W0 W' wS w → (∀ (i : Nat) (f : AW → Bool), (i, f) ∈ recs → (i, f) ∈ recs') → W.size ≤ W'.size → (fl = true → W.size < W'.size) → Pend P orc all recs' κ W0 ⟨⟨yi, yo, ym⟩, v, a, W.size, fl⟩ →
        ∃ m' T' recs' a' W', m' < m + 1 ∧ DInv P orc all ms plan ans κ0 base w0 W0 wS a0 L m' T' rest recs' a' W' κ b w := by
      intro v fl a' W' recs' h1 h2 h3 h4 h5 h6 h7 h8
      refine ⟨m, T ++ [⟨⟨yi, yo, ym⟩, v, a, W.size, fl⟩], recs', a', W', Nat.lt_succ_self m, h1, ?_, h3, h4, fun z hz => I.todo z (List.mem_cons_of_mem _ hz), ?_, I.chain.append rfl h2, ?_, ?_, ?_, I.size, ?_, I.defers, I.closed⟩
      · rw [I.split]; simp
      · intro te hte he
        rcases List.mem_append.1 hte with h | h
        · exact I.effs te h he
        · rw [List.mem_singleton] at h
          subst h
          rw [hy] at he; cases he
      · intro te hte hl
        rcases List.mem_append.1 hte with h | h
        · exact (I.pend te h hl).recs fun f => h5 _ f
        · rw [List.mem_singleton] at h
          subst h
          exact h8
      · refine List.pairwise_append.2 ⟨I.bs, List.pairwise_singleton _ _, fun t ht t' ht' hfl => ?_⟩
        rw [List.mem_singleton] at ht'
        subst ht'
        exact I.bW t ht hfl
      · intro te hte hfl
        rcases List.mem_append.1 hte with h | h
        · exact Nat.lt_of_lt_of_le (I.bW te h hfl) h6
        · rw [List.mem_singleton] at h
          subst h
          exact h7 hfl
      · intro t
        rw [sl_append]
        show VR κ (sl L (if L yi = true then _ else sl L a0.get T) [] t) _
        have hyl : L yi = false := hyl
        rw [hyl]
        exact I.slots t
    split at hrun
    · cases hrun
    · rename_i hw
      split at hrun
      · rename_i a' hput
        exact mk (v := undef) (fl := false) hrun hput I.R I.F (fun _ _ h => h) (Nat.le_refl _) (fun h => by cases h) (.inl ⟨hw, rfl, rfl⟩)
      · cases hrun
    · rename_i hw
      split at hrun
      · rename_i v W' hop
        split at hrun
        · rename_i a' hput
          obtain ⟨k1, k2⟩ := kind_noneff hy
          unfold opA at hop
          split at hop
          · rename_i hk
            split at hop
            · rename_i v1 hs
              cases hop
              have hrec : recd yo = false := by unfold recd; rw [hk]
              rw [hrec] at hrun
              exact mk (fl := false) hrun hput I.R I.F (fun _ _ h => h) (Nat.le_refl _) (fun h => by cases h) (.inr ⟨hw, .inl ⟨hk, rfl, hs⟩⟩)
            · cases hop
          · rename_i hk
            split at hop
            · rename_i v1 hs
              cases hop
              have hrec : recd yo = true := by unfold recd; rw [hk]
              rw [hrec] at hrun
              exact mk (fl := false) hrun hput I.R I.F (fun _ _ h => List.mem_cons_of_mem _ h) (Nat.le_refl _) (fun h => by cases h) (.inr ⟨hw, .inr ⟨List.mem_cons_self, .inl ⟨hk, rfl⟩⟩⟩)
            · cases hop
          · rename_i hk
            split at hop
            · rename_i c vf hf
              split at hop
              · rename_i bk W1 hnew
                cases hop
                obtain ⟨rfl, hp, hput2, rfl⟩ := new_some hnew
                have hrec : recd yo = true := by unfold recd; rw [hk]
                rw [hrec] at hrun
                have hnone : κ W.size = none := by
                  cases hh : κ W.size with
                  | none => rfl
                  | some e => have := I.R.dom _ _ hh; omega
                exact mk (fl := true) hrun hput (I.R.more hput2) I.F.more (fun _ _ h => List.mem_cons_of_mem _ h) (Nat.le_succ _) (fun _ => Nat.lt_succ_self _)
                  (.inr ⟨hw, .inr ⟨List.mem_cons_self, .inr ⟨hk, rfl, ⟨c, vf, hf, rfl⟩, I.F.wsize, hnone⟩⟩⟩)
              · cases hop
            · cases hop
          · rename_i hk; exact absurd hk k1
          · rename_i hk; exact absurd hk k2
          · cases hop
          · cases hop
        · cases hrun
      · cases hrun

/-- .. and all that may come ahead of the next effect. -/
theorem advance {L : Nat → Bool} : ∀ {rest : List Item'} {m : Nat} {T : List TE} {recs : List (Nat × (AW → Bool))} {a : AF} {W : AW} {κ : KM} {b : Act} {w : World}, DInv P orc all ms plan ans κ0 base w0 W0 wS a0 L m T rest recs a W κ b w →
    ∃ m' T' rest' recs' a' W', m' ≤ m ∧ DInv P orc all ms plan ans κ0 base w0 W0 wS a0 L m' T' rest' recs' a' W' κ b w ∧ (rest' = [] ∨ ∃ e r, rest' = e :: r ∧ isEff e.o = true)
  | [], m, T, recs, a, W, κ, b, w, I => ⟨m, T, [], recs, a, W, Nat.le_refl _, I, .inl rfl⟩
  | y :: rest, m, T, recs, a, W, κ, b, w, I => by
    cases hy : isEff y.o with
    | true => exact ⟨m, T, y :: rest, recs, a, W, Nat.le_refl _, I, .inr ⟨y, rest, rfl, hy⟩⟩
    | false =>
      obtain ⟨m1, T1, recs1, a1, W1, h1, I1⟩ := advance_one I hy
      obtain ⟨m2, T2, r2, recs2, a2, W2, h2, I2⟩ := advance I1
      exact ⟨m2, T2, r2, recs2, a2, W2, by omega, I2⟩

theorem recsOk_mem {w : AW} : ∀ {recs : List (Nat × (AW → Bool))}, recsOk w recs = true → ∀ i f, (i, f) ∈ recs → f w = true
  | [], _, _, _, h => by cases h
  | (j, g) :: recs, hr, i, f, h => by
    unfold recsOk at hr
    split at hr
    · rename_i hg
      cases h with
      | head => exact hg
      | tail _ h => exact recsOk_mem hr i f h
    · cases hr

/-- Where the next is an effect, or none, what has been told to hold still does. -/
theorem still_recs {m : Nat} {rest : List Item'} {recs : List (Nat × (AW → Bool))} {a : AF} {W : AW} (hrun : ev P orc m (.dops all rest recs) a W = some ans) (hh : rest = [] ∨ ∃ e r, rest = e :: r ∧ isEff e.o = true) : recsOk W recs = true := by
  cases m with
  | zero => cases hrun
  | succ m =>
    have hrun : stepA P orc (ev P orc m) (.dops all rest recs) a W = some ans := hrun
    unfold stepA at hrun
    rcases hh with rfl | ⟨e, r, rfl, he⟩
    · simp only at hrun
      split at hrun
      · assumption
      · cases hrun
    · obtain ⟨ei, eo, em⟩ := e
      simp only [show isEff eo = true from he] at hrun
      split at hrun
      · cases hrun
      · rename_i h; exact h

end
end Go.Ev
