/-
  What the evaluator holds for SHA's block, bytealg.MakeNoZero and bits.Add64 is so.
-/
import Derived.Test.YtciplabieafkcaaGreatDoorShD
import Derived.Test.YtciplabieafkcaaGreatDoorEvBl
import Derived.Test.YtciplabieafkcaaGreatDoorEvZ
import Derived.Room.MakeNoZero
set_option linter.unusedSimpArgs false
set_option linter.unusedVariables false
namespace Go.Proofs.YtciplabieafkcaaGreatDoor
open Go.RowKit
open Go.Ev

theorem natsOf_some {k : IntKind} : ∀ {l : List Value} {ns : List Nat}, natsOf k l = some ns → l = ns.map fun (n : Nat) => Value.int k (n : Int)
  | [], ns, h => by cases h; rfl
  | v :: r, ns, h => by
    cases v with
    | int q n =>
      cases n with
      | ofNat n =>
        simp only [natsOf] at h
        split at h
        · rename_i l hq hl
          cases h
          rw [natsOf_some hl, kno_inj hq]
          rfl
        · cases h
      | negSucc n => cases h
    | _ => cases h

theorem LR_ints {κ : KM} {k : IntKind} : ∀ {ns : List Nat} {l' : List Value}, LR κ (ns.map fun (n : Nat) => Value.int k (n : Int)) l' → l' = ns.map fun (n : Nat) => Value.int k (n : Int)
  | [], l', h => h.nil_inv
  | n :: r, l', h => by
    obtain ⟨v', r', rfl, h1, h2⟩ := h.cons_inv
    rw [h1.int_inv, LR_ints h2]; rfl

theorem CL_ints (κ : KM) (k : IntKind) (ns : List Nat) : CL κ (ns.map fun (n : Nat) => Value.int k (n : Int)) (ns.map fun (n : Nat) => Value.int k (n : Int)) :=
  ⟨⟨rfl, fun i v v' h1 h2 => by
    rw [h1] at h2; cases h2
    rw [List.getElem?_map] at h1
    cases hn : ns[i]? with
    | none => rw [hn] at h1; cases h1
    | some n => rw [hn] at h1; cases h1; exact .flat _ rfl⟩, fun v hv => by
    obtain ⟨n, _, rfl⟩ := List.mem_map.1 hv; rfl⟩

theorem below_all {m : Nat} {l : List Nat} (h : below m l = true) : ∀ x ∈ l, x < m := by
  unfold below at h
  rw [allL_eq, List.all_eq_true] at h
  exact fun x hx => blt_lt (h x hx)

/-- The cells of numbers. -/
theorem int_cells {κ : KM} {W : AW} {base : Nat} {w0 w : World} (R : RW κ W base w0 w) {b off n : Nat} {l : List Value} (h : W.cellsAt b off n = some l) {e : KE} (he : κ b = some e) {k : IntKind} {ns : List Nat} (hn : natsOf k l = some ns) :
    ns.length = n ∧ ∀ j, j < n → w.cell? ⟨e.blk, e.off + off + j, none⟩ = some (.int k (ns.getD j 0 : Nat)) := by
  obtain ⟨l', h1, h2, h3, -⟩ := load_cells R h he Tryz.prog
  have e1 := natsOf_some hn
  subst e1
  have e2 := LR_ints h2.1
  subst e2
  rw [List.length_map] at h1
  refine ⟨h1, fun j hj => ?_⟩
  have := h3 j (.int k (ns.getD j 0 : Nat)) (by rw [List.getElem?_map, List.getD]; rw [List.getElem?_eq_getElem (by omega)]; rfl)
  rwa [add_at] at this

theorem RW.below {κ : KM} {W : AW} {base : Nat} {w0 w w' : World} (R : RW κ W base w0 w) (h : Below w.heap.size w w') : RW κ W base w0 w' := by
  refine ⟨R.dom, R.top, fun i e he => ?_, R.apart, R.own, ?_, Nat.le_trans R.big h.size⟩
  · obtain ⟨o, ho, hO⟩ := R.has i e he
    exact ⟨o, ho, hO.world (h.block _ hO.lt)⟩
  · exact R.below.trans (h.mono R.big)

theorem Fw.below {κ κ' : KM} {W W' : AW} {w w1 w' : World} (F : Fw κ κ' W W' w w1) (h : Below w1.heap.size w1 w') : Fw κ κ' W W' w w' :=
  ⟨F.le, F.new, fun b hb hn => (h.block b (Nat.lt_of_lt_of_le hb F.grow)).trans (F.frame b hb hn), Nat.le_trans F.grow h.size, F.wsize⟩

/-- A row of numbers stored: cell by cell. -/
theorem run_storeCells_setCells (P : Program) (b o : Nat) : ∀ (vs : List Value) (i : Nat) (w : World), (∀ v ∈ vs, v.oneCell' = true) → (∀ j, j < vs.length → ∃ v, w.cell? ⟨b, o + i + j, none⟩ = some v) → (∀ j, j < vs.length → w.frozen? ⟨b, o + i + j, none⟩ = false) →
    (storeCells ⟨b, o, none⟩ vs i).run P w = .ok () (w.setCells b (o + i) vs)
  | [], i, w, _, _, _ => rfl
  | v :: r, i, w, h1, h2, h3 => by
    obtain ⟨u, hu⟩ := h2 0 (by simp)
    have hf := h3 0 (by simp)
    rw [Nat.add_zero] at hu hf
    have hst : (store ((⟨b, o, none⟩ : Addr).add i) v).run P w = .ok () (w.setCell ⟨b, o + i, none⟩ v) := by
      rw [add_at, run_store P w _ v _ (h1 v (by simp)), hu]
      simp [hf]
    simp only [storeCells, Sem.run_bind, hst, Result.andThen_ok]
    rw [run_storeCells_setCells P b o r (i + 1) (w.setCell ⟨b, o + i, none⟩ v) (fun x hx => h1 x (by simp [hx])) (fun j hj => ?_) (fun j hj => ?_)]
    · rfl
    · obtain ⟨u, hu⟩ := h2 (j + 1) (by simpa using hj)
      refine ⟨u, ?_⟩
      rw [World.cell?_setCell_other _ _ _ _ (by intro e; simp only [Addr.mk.injEq] at e; omega), ← hu]
      congr 2; omega
    · have := h3 (j + 1) (by simpa using hj)
      rw [show o + (i + 1) + j = o + i + (j + 1) by omega]
      simpa using this

theorem setCells_size (b : Nat) : ∀ (vs : List Value) (o : Nat) (w : World), (w.setCells b o vs).heap.size = w.heap.size
  | [], _, _ => rfl
  | v :: r, o, w => by rw [World.setCells, setCells_size b r]; simp [World.setCell]
end Go.Proofs.YtciplabieafkcaaGreatDoor
