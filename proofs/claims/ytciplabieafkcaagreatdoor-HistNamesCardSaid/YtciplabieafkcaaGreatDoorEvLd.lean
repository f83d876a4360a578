/-
  The cells of a variable that reads as a known plain datum.
-/
import Derived.Test.YtciplabieafkcaaGreatDoorEvZ
import Derived.LaidLaws
set_option linter.unusedSimpArgs false
set_option linter.unusedVariables false
namespace Go.Ev
open Go.RowKit

theorem mapM_at {α β : Type} {f : α → Option β} : ∀ {l : List α} {r : List β}, l.mapM f = some r → r.length = l.length ∧ ∀ (i : Nat) (x : α) (y : β), l[i]? = some x → r[i]? = some y → f x = some y
  | [], r, h => by
    simp only [List.mapM_nil, Option.pure_def, Option.some.injEq] at h
    subst h
    exact ⟨rfl, fun i x y hx => by simp at hx⟩
  | a :: l, r, h => by
    simp only [List.mapM_cons, Option.bind_eq_bind, Option.bind_eq_some_iff, Option.pure_def, Option.some.injEq] at h
    obtain ⟨b, hb, s, hs, rfl⟩ := h
    obtain ⟨h1, h2⟩ := mapM_at hs
    refine ⟨by simp [h1], fun i x y hx hy => ?_⟩
    cases i with
    | zero => simp at hx hy; subst hx; subst hy; exact hb
    | succ i => exact h2 i x y (by simpa using hx) (by simpa using hy)

def tiles (P : Program) : List Field → Nat → Nat → Bool
  | [], acc, total => acc == total
  | f :: r, acc, total => f.offset == acc && tiles P r (acc + P.cellsOf f.type) total

theorem tiles_eq {P : Program} {cs : List Value} : ∀ {fs : List Field} {acc : Nat}, tiles P fs acc cs.length = true → cs.drop acc = fs.flatMap fun f => (cs.drop f.offset).take (P.cellsOf f.type)
  | [], acc, h => by
    have : acc = cs.length := by simpa [tiles] using h
    subst this; simp
  | f :: r, acc, h => by
    simp only [tiles, Bool.and_eq_true, beq_iff_eq] at h
    obtain ⟨rfl, h2⟩ := h
    rw [List.flatMap_cons, ← tiles_eq h2]
    rw [← List.drop_drop, List.take_append_drop]

theorem rows_eq (s : Nat) : ∀ (n : Nat) (cs : List Value), cs.length = n * s → cs = (List.range n).flatMap fun i => (cs.drop (i * s)).take s
  | 0, cs, h => by
    have : cs = [] := List.length_eq_zero_iff.1 (by simpa using h)
    subst this; rfl
  | n + 1, cs, h => by
    have h' : (cs.drop s).length = n * s := by rw [List.length_drop, h, Nat.add_mul]; omega
    have ih := rows_eq s n (cs.drop s) h'
    rw [List.range_succ_eq_map, List.flatMap_cons, Nat.zero_mul, List.drop_zero, List.flatMap_map]
    have e : (fun i => (cs.drop ((i + 1) * s)).take s) = fun i => ((cs.drop s).drop (i * s)).take s := by
      funext i
      rw [List.drop_drop, Nat.add_mul, Nat.one_mul, Nat.add_comm]
    rw [e, ← ih, List.take_append_drop]

/-- The cells of a datum that bears no address. -/
def flatD (P : Program) : Nat → TypeId → DataW Unit → Option (List Value)
  | 0, _, _ => none
  | k + 1, t, d => match P.underlying t, d with
    | some .bool, .lit (.bool b) => some [.bool b]
    | some (.int q), .lit (.int _ n) => some [.int q n]
    | some (.array n e), .agg ds => if ds.length = n ∧ P.cellsOf t = n * P.cellsOf e then (ds.mapM (flatD P k e)).map List.flatten else none
    | some (.struct fs), .agg ds => if ds.length = fs.size ∧ tiles P fs.toList 0 (P.cellsOf t) = true then ((fs.toList.zip ds).mapM fun x => flatD P k x.1.type x.2).map List.flatten else none
    | _, _ => none

theorem flatMap_eq_flatten {α β : Type} {g : α → List β} : ∀ {l : List α} {r : List (List β)}, r.length = l.length → (∀ (i : Nat) (x : α) (y : List β), l[i]? = some x → r[i]? = some y → g x = y) → l.flatMap g = r.flatten
  | [], [], _, _ => rfl
  | a :: l, b :: r, h, hh => by
    rw [List.flatMap_cons, List.flatten_cons, hh 0 a b rfl rfl, flatMap_eq_flatten (by simpa using h) fun i x y hx hy => hh (i + 1) x y (by simpa using hx) (by simpa using hy)]

theorem cells_of_trod {P : Program} {w : World} {base : Nat} {sp : Nat → Bool} {held : Bool} : ∀ {fuel k : Nat} {t : TypeId} {cs : List Value} {d : DataW Unit} {p : List MemPlace} {l : List Value},
    DataW.trod (fun _ => ()) P w base sp held fuel t cs = some (d, p) → flatD P k t d = some l → cs = l
  | 0, _, _, _, _, _, _, h, _ => by simp [DataW.trod] at h
  | _ + 1, 0, _, _, _, _, _, _, hf => by simp [flatD] at hf
  | fuel + 1, k + 1, t, cs, d, p, l, h, hf => by
    unfold flatD at hf
    split at hf
    · rename_i b hu
      cases hf
      simp only [DataW.trod, hu] at h
      split at h
      all_goals first
        | (cases h; done)
        | simp_all
    · rename_i q q' n hu
      cases hf
      simp only [DataW.trod, hu] at h
      split at h
      all_goals first
        | (cases h; done)
        | simp_all
    · rename_i n e ds hu
      split at hf
      · rename_i hn
        obtain ⟨hn, hc⟩ := hn
        obtain ⟨ls, hls, rfl⟩ := Option.map_eq_some_iff.1 hf
        simp only [DataW.trod, hu] at h
        split at h
        · rename_i hlen
          obtain ⟨xs, hxs, hx⟩ := Option.map_eq_some_iff.1 h
          simp only [Prod.mk.injEq, DataW.agg.injEq] at hx
          obtain ⟨rfl, -⟩ := hx
          obtain ⟨a1, a2⟩ := mapM_at hxs
          obtain ⟨b1, b2⟩ := mapM_at hls
          rw [rows_eq (P.cellsOf e) n cs (by rw [hlen, hc])]
          refine flatMap_eq_flatten (by rw [b1]; simpa using hn) fun i x y hx hy => ?_
          have hi : i < n := by
            have := (List.getElem?_eq_some_iff.1 hx).1
            simpa using this
          obtain rfl : i = x := by
            rw [List.getElem?_range hi] at hx
            exact Option.some.inj hx
          have hix : i < xs.length := by rw [a1]; simpa using hi
          have h1 := a2 i i xs[i] (List.getElem?_range hi) (List.getElem?_eq_getElem hix)
          have h2 := b2 i xs[i].1 y (by rw [List.getElem?_map, List.getElem?_eq_getElem hix]; rfl) hy
          exact cells_of_trod h1 h2
        · cases h
      · cases hf
    · rename_i fs ds hu
      split at hf
      · rename_i hn
        obtain ⟨hn, hc⟩ := hn
        obtain ⟨ls, hls, rfl⟩ := Option.map_eq_some_iff.1 hf
        simp only [DataW.trod, hu] at h
        split at h
        · rename_i hlen
          obtain ⟨xs, hxs, hx⟩ := Option.map_eq_some_iff.1 h
          simp only [Prod.mk.injEq, DataW.agg.injEq] at hx
          obtain ⟨rfl, -⟩ := hx
          obtain ⟨a1, a2⟩ := mapM_at hxs
          obtain ⟨b1, b2⟩ := mapM_at hls
          have := tiles_eq (cs := cs) (by rw [hlen]; exact hc)
          rw [List.drop_zero] at this
          rw [this]
          have hlz : (fs.toList.zip (xs.map (·.1))).length = fs.toList.length := by
            rw [List.length_zip, List.length_map, a1, Nat.min_self]
          refine flatMap_eq_flatten (by rw [b1, hlz]) fun i x y hx hy => ?_
          have hi : i < fs.toList.length := (List.getElem?_eq_some_iff.1 hx).1
          have hix : i < xs.length := by rw [a1]; exact hi
          have h1 := a2 i x xs[i] hx (List.getElem?_eq_getElem hix)
          have h2 := b2 i (x, xs[i].1) y (by
            rw [List.getElem?_zip_eq_some]
            exact ⟨hx, by rw [List.getElem?_map, List.getElem?_eq_getElem hix]; rfl⟩) hy
          exact cells_of_trod h1 h2
        · cases h
      · cases hf
    · cases hf

/-- A variable that reads as such a datum: its cells. -/
theorem laidAt_of {P : Program} {w : World} {name : String} {d : DataW Unit} {g t fuel k : Nat} {cs : Array Value} {p : List MemPlace} {sp : Nat → Bool} {held : Bool} {l : List Value} (hg : P.globalNamed name = some g)
    (hv : w.var? P name = some cs) (hd : DataW.trod (fun _ => ()) P w 0 sp held fuel t cs.toList = some (d, p)) (hf : flatD P k t d = some l) (hl : l ≠ []) (h1 : allL flat1 l = true) : LaidAt w g l := by
  have e := cells_of_trod hd hf
  rw [allL_eq, List.all_eq_true] at h1
  refine ⟨hl, h1, fun j v hj => ?_⟩
  have := World.var?_cell hg hv j
  rw [this, ← hj, ← e]
  simp
end Go.Ev
