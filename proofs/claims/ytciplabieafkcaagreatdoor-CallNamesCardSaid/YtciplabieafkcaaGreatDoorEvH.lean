/-
  Each operation that leaves the world, and looks at no memory: the rest, and all of them at once.
-/
import Derived.Test.YtciplabieafkcaaGreatDoorEvG
set_option linter.unusedSimpArgs false
set_option linter.unusedVariables false
namespace Go.Ev
open Go.RowKit

section
variable {P : Program} {κ : KM} {ρ ρ' : Operand → Value}

theorem boundA_some {v : Option Value} {d hi n : Nat} (h : boundA v d hi = some n) : (v = none ∧ n = d) ∨ (∃ k, v = some (.int k (n : Int)) ∧ n ≤ hi) := by
  unfold boundA at h
  split at h
  · cases h; exact .inl ⟨rfl, rfl⟩
  · split at h
    · rename_i i hi'
      split at h
      · rename_i m hm
        split at h
        · rename_i hle
          cases h
          obtain ⟨k, rfl⟩ := intAt_some hi'
          rw [natOf_some hm]
          exact .inr ⟨k, rfl, Nat.le_of_ble_eq_true hle⟩
        · cases h
      · cases h
    · cases h

theorem run_bounds {isSlice : Bool} {len cap l h m : Nat} {lo hi mx : Option Value}
    (hm : (mx = none ∧ m = cap) ∨ ∃ k, mx = some (.int k (m : Int)) ∧ m ≤ cap) (hh : (hi = none ∧ mx = none ∧ h = len) ∨ ∃ k, hi = some (.int k (h : Int)) ∧ h ≤ m)
    (hl : (lo = none ∧ l = 0) ∨ ∃ k, lo = some (.int k (l : Int)) ∧ l ≤ h) (w : World) : (Instr.sliceBounds isSlice len cap lo hi mx).run P w = .ok (l, h, m) w := by
  have sb : ∀ (k : IntKind) (i y : Nat) (code : BoundsCode), i ≤ y → (Instr.sliceBound (.int k (i : Int)) y code).run P w = .ok i w := fun k i y code hle => by
    have := run_sliceBound (P := P) (w := w) k (i : Int) y code (by omega) (by omega)
    simpa using this
  rcases hm with ⟨rfl, rfl⟩ | ⟨km, rfl, hm⟩
  · rcases hh with ⟨rfl, _, rfl⟩ | ⟨kh, rfl, hh⟩ <;> rcases hl with ⟨rfl, rfl⟩ | ⟨kl, rfl, hl⟩
    · simp [Instr.sliceBounds]
    · simp [Instr.sliceBounds, sb _ _ _ _ hl]
    · simp [Instr.sliceBounds, sb _ _ _ _ hh]
    · simp [Instr.sliceBounds, sb _ _ _ _ hl, sb _ _ _ _ hh]
  · rcases hh with ⟨rfl, hn, rfl⟩ | ⟨kh, rfl, hh⟩
    · cases hn
    · rcases hl with ⟨rfl, rfl⟩ | ⟨kl, rfl, hl⟩
      · simp [Instr.sliceBounds, sb _ _ _ _ hm, sb _ _ _ _ hh]
      · simp [Instr.sliceBounds, sb _ _ _ _ hl, sb _ _ _ _ hm, sb _ _ _ _ hh]

theorem bound_rel (hρ : ∀ x, VR κ (ρ x) (ρ' x)) {x : Option Operand} {d hi hi' n : Nat} (h : boundA (mapO ρ x) d hi = some n) (hle : hi ≤ hi') :
    (x = none ∧ x.map ρ' = none ∧ n = d) ∨ (x.isSome = true ∧ ∃ k, x.map ρ' = some (.int k (n : Int)) ∧ n ≤ hi ∧ n ≤ hi') := by
  rcases boundA_some h with ⟨h1, h2⟩ | ⟨k, h1, h2⟩
  · cases x with
    | none => exact .inl ⟨rfl, rfl, h2⟩
    | some x => cases h1
  · cases x with
    | none => cases h1
    | some x =>
      have : ρ x = .int k (n : Int) := by simpa [mapO] using h1
      have hx := hρ x
      rw [this] at hx
      exact .inr ⟨rfl, k, by simp [hx.int_inv], h2, Nat.le_trans h2 hle⟩

theorem add_none {a : Addr} (h : a.spot = none) (i : Nat) : a.add i = ⟨a.block, a.off + i, none⟩ := by
  obtain ⟨b, o, s⟩ := a
  cases h
  exact add_at b o i

theorem AR.spot {a b : Addr} (h : AR κ a b) : b.spot = none := by obtain ⟨e, _, rfl⟩ := h; rfl

theorem sliceA_rel {t : TypeId} {x x' : Value} {lo hi mx : Option Operand} {v : Value} (hρ : ∀ x, VR κ (ρ x) (ρ' x)) (hx : VR κ x x') (h : sliceA P t x (mapO ρ lo) (mapO ρ hi) (mapO ρ mx) = some v) :
    ∃ v', VR κ v v' ∧ ∀ w, (Instr.sliceAt t x' (lo.map ρ') (hi.map ρ') (mx.map ρ')).run P w = .ok v' w := by
  unfold sliceA at h
  split at h
  · rename_i e a n c hu
    split at h
    · cases h
    · rename_i s hs
      have key : ∀ {m hh l : Nat}, ((mapO ρ mx) = none ∨ (mapO ρ hi).isSome = true) → boundA (mapO ρ mx) c c = some m → boundA (mapO ρ hi) n m = some hh → boundA (mapO ρ lo) 0 hh = some l →
          ∀ c', c ≤ c' → ∃ m', m ≤ m' ∧ m' ≤ c' ∧ (∀ w, (Instr.sliceBounds true n c' (lo.map ρ') (hi.map ρ') (mx.map ρ')).run P w = .ok (l, hh, m') w) ∧ ((mx = none ∧ m = c ∧ m' = c') ∨ (mx.isSome = true ∧ m' = m ∧ m ≤ c)) ∧
            (l ≤ hh) ∧ (hh ≤ m ∨ (hh = n ∧ hi = none ∧ mx = none)) := by
        intro m hh l hsome hm hh' hl c' hc
        rcases bound_rel hρ hm hc with ⟨m1, m2, m3⟩ | ⟨m1, km, m2, m3, m4⟩
        · subst m3
          rcases bound_rel hρ hh' hc with ⟨q1, q2, q3⟩ | ⟨q1, kh, q2, q3, q4⟩
          · rcases bound_rel hρ hl (Nat.le_refl _) with ⟨r1, r2, r3⟩ | ⟨r1, kl, r2, r3, r4⟩
            · exact ⟨c', hc, Nat.le_refl _, fun w => run_bounds (.inl ⟨m2, rfl⟩) (.inl ⟨q2, m2, q3⟩) (.inl ⟨r2, r3⟩) w, .inl ⟨m1, rfl, rfl⟩, by omega, .inr ⟨q3, q1, m1⟩⟩
            · exact ⟨c', hc, Nat.le_refl _, fun w => run_bounds (.inl ⟨m2, rfl⟩) (.inl ⟨q2, m2, q3⟩) (.inr ⟨kl, r2, r4⟩) w, .inl ⟨m1, rfl, rfl⟩, r3, .inr ⟨q3, q1, m1⟩⟩
          · rcases bound_rel hρ hl (Nat.le_refl _) with ⟨r1, r2, r3⟩ | ⟨r1, kl, r2, r3, r4⟩
            · exact ⟨c', hc, Nat.le_refl _, fun w => run_bounds (.inl ⟨m2, rfl⟩) (.inr ⟨kh, q2, q4⟩) (.inl ⟨r2, r3⟩) w, .inl ⟨m1, rfl, rfl⟩, by omega, .inl q3⟩
            · exact ⟨c', hc, Nat.le_refl _, fun w => run_bounds (.inl ⟨m2, rfl⟩) (.inr ⟨kh, q2, q4⟩) (.inr ⟨kl, r2, r4⟩) w, .inl ⟨m1, rfl, rfl⟩, r3, .inl q3⟩
        · have hhi : hi.isSome = true := by
            rcases hsome with h | h
            · cases mx with | none => cases m1 | some => cases h
            · cases hi with | none => cases h | some => rfl
          rcases bound_rel hρ hh' (Nat.le_refl _) with ⟨q1, q2, q3⟩ | ⟨q1, kh, q2, q3, q4⟩
          · rw [q1] at hhi; cases hhi
          · rcases bound_rel hρ hl (Nat.le_refl _) with ⟨r1, r2, r3⟩ | ⟨r1, kl, r2, r3, r4⟩
            · exact ⟨m, Nat.le_refl _, m4, fun w => run_bounds (.inr ⟨km, m2, m4⟩) (.inr ⟨kh, q2, q3⟩) (.inl ⟨r2, r3⟩) w, .inr ⟨m1, rfl, m3⟩, by omega, .inl q3⟩
            · exact ⟨m, Nat.le_refl _, m4, fun w => run_bounds (.inr ⟨km, m2, m4⟩) (.inr ⟨kh, q2, q3⟩) (.inr ⟨kl, r2, r4⟩) w, .inr ⟨m1, rfl, m3⟩, r3, .inl q3⟩
      have fin : ∀ {m hh l : Nat}, ((mapO ρ mx) = none ∨ (mapO ρ hi).isSome = true) → boundA (mapO ρ mx) c c = some m → boundA (mapO ρ hi) n m = some hh → boundA (mapO ρ lo) 0 hh = some l →
          (match (generalizing := false) a with
              | none => some (.slice none (Nat.sub hh l) (Nat.sub m l))
              | some ⟨b, o, none⟩ => some (.slice (some ⟨b, Nat.add o (Nat.mul l s), none⟩) (Nat.sub hh l) (Nat.sub m l))
              | some ⟨b, o, some z⟩ => match Nat.beq z s with
                | true => some (.slice (some ⟨b, Nat.add o (Nat.mul l s), match (mapO ρ mx) with | none => some z | some _ => none⟩) (Nat.sub hh l) (Nat.sub m l))
                | false => none) = some v → ∃ v', VR κ v v' ∧ ∀ w, (Instr.sliceAt t x' (lo.map ρ') (hi.map ρ') (mx.map ρ')).run P w = .ok v' w := by
        intro m hh l hsome hm hh' hl hv
        have go : ∀ {a' : Option Addr} {c' m' : Nat}, x' = .slice a' n c' → (∀ w, (Instr.sliceBounds true n c' (lo.map ρ') (hi.map ρ') (mx.map ρ')).run P w = .ok (l, hh, m') w) →
            ∀ w, (Instr.sliceAt t x' (lo.map ρ') (hi.map ρ') (mx.map ρ')).run P w = .ok (.slice (if m' = l then a' else a'.map (·.add (l * s))) (hh - l) (m' - l)) w := by
          rintro a' c' m' rfl hb w
          simp [Instr.sliceAt, Instr.slice, run_underlying hu, hb w, run_szOf hs]
        cases a with
        | none =>
          obtain ⟨hn, hc, rfl⟩ := hx.nilSlice_inv
          subst hn; subst hc
          obtain ⟨m', h1, h2, hb, h3, h4, h5⟩ := key hsome hm hh' hl 0 (Nat.le_refl _)
          cases hv
          have e1 : m' = 0 := by omega
          have e2 : m = 0 := by omega
          have e3 : hh = 0 := by omega
          have e4 : l = 0 := by omega
          subst e1; subst e2; subst e3; subst e4
          exact ⟨_, .flat _ rfl, go rfl hb⟩
        | some a =>
          obtain ⟨b', c', rfl, hnc, hcc, har, hsp⟩ := hx.slice_inv
          obtain ⟨m', h1, h2, hb, h3, h4, h5⟩ := key hsome hm hh' hl c' hcc
          have hlm : l ≤ m ∨ (hh = n ∧ m = c) := by
            rcases h5 with h5 | ⟨q1, q2, q3⟩
            · exact .inl (by omega)
            · rcases h3 with ⟨_, q, _⟩ | ⟨q, _⟩
              · exact .inr ⟨q1, q⟩
              · rw [q3] at q; cases q
          have hlm : l ≤ m := by rcases hlm with h | ⟨h, h'⟩ <;> omega
          have hhm : hh ≤ m := by
            rcases h5 with h5 | ⟨q1, q2, q3⟩
            · exact h5
            · rcases h3 with ⟨_, q, _⟩ | ⟨q, _⟩
              · omega
              · rw [q3] at q; cases q
          refine ⟨_, ?_, go rfl hb⟩
          obtain ⟨ab, ao, asp⟩ := a
          have hAR : ∀ sp, AR κ ⟨ab, Nat.add ao (Nat.mul l s), sp⟩ (if m' = l then b' else b'.add (l * s)) ∨ m' - l = 0 := by
            intro sp
            by_cases hml : m' = l
            · exact .inr (by omega)
            · rcases har with ⟨e0, he, rfl⟩ | hc0
              · refine .inl ⟨e0, he, ?_⟩
                rw [if_neg hml, add_at]
                show (⟨_, e0.off + ao + l * s, none⟩ : Addr) = ⟨_, e0.off + (ao + l * s), none⟩
                rw [Nat.add_assoc]
              · exact .inr (by omega)
          have hif : (if m' = l then some b' else (some b').map (·.add (l * s))) = some (if m' = l then b' else b'.add (l * s)) := by split <;> rfl
          rw [hif]
          cases asp with
          | none =>
            cases hv
            refine .slice _ _ _ _ _ (show hh - l ≤ m - l by omega) (show m - l ≤ m' - l by omega) (hAR none) (.inl ⟨rfl, ?_⟩)
            rcases hsp with ⟨_, q⟩ | ⟨z, e, q, _⟩
            · rcases h3 with ⟨_, r1, r2⟩ | ⟨_, r1, _⟩
              · subst r1; subst r2; subst q; rfl
              · rw [r1]; rfl
            · cases q
          | some z =>
            simp only at hv
            split at hv
            · rename_i hz
              have hz := Nat.eq_of_beq_eq_true hz
              subst hz
              cases hv
              refine .slice _ _ _ _ _ (show hh - l ≤ m - l by omega) (show m - l ≤ m' - l by omega) (hAR _) ?_
              rcases hsp with ⟨q, _⟩ | ⟨z', e0, q, hz0, he, hend, hroom⟩
              · cases q
              · cases q
                rcases h3 with ⟨r0, r1, r2⟩ | ⟨r0, r1, _⟩
                · subst r1; subst r2; subst r0
                  refine .inr ⟨z, e0, rfl, hz0, he, ?_, ?_⟩
                  · show ao + l * z + (m - l) * z = e0.n
                    have : l * z + (m - l) * z = m * z := by rw [← Nat.add_mul]; congr 1; omega
                    have hend' : ao + m * z = e0.n := hend
                    omega
                  · by_cases hml : m' = l
                    · exact .inl (by show m' - l = 0; omega)
                    · rcases hroom with hr | hr
                      · exact .inl (by show m' - l = 0; omega)
                      · refine .inr ?_
                        have hbs : b'.spot = none := by
                          rcases har with h | h
                          · exact h.spot
                          · exact absurd h (by omega)
                        rw [if_neg hml, add_none hbs]
                        show b'.off + l * z + (m' - l) * z ≤ e0.len
                        have : l * z + (m' - l) * z = m' * z := by rw [← Nat.add_mul]; congr 1; omega
                        omega
                · cases mx with
                  | none => cases r0
                  | some mx => exact .inl ⟨rfl, by rw [r1]; rfl⟩
            · cases hv
      split at h
      · cases h
      · rename_i hno
        have hsome : (mapO ρ mx) = none ∨ (mapO ρ hi).isSome = true := by
          cases hmx : mapO ρ mx with
          | none => exact .inl rfl
          | some a =>
            cases hhi : mapO ρ hi with
            | none => exact absurd hhi (fun q => hno a hmx q)
            | some b => exact .inr rfl
        split at h
        · cases h
        · rename_i m hm
          split at h
          · cases h
          · rename_i hh hh'
            split at h
            · cases h
            · rename_i l hl
              exact fin hsome hm hh' hl h
  · rename_i n e b o hu
    split at h
    · cases h
    · rename_i s hs
      obtain ⟨b', rfl, -, har⟩ := hx.ptr_inv
      split at h
      · cases h
      · rename_i hno
        split at h
        · cases h
        · rename_i m hm
          split at h
          · cases h
          · rename_i hh hh'
            split at h
            · cases h
            · rename_i l hl
              split at h
              · cases h
              · rename_i hne
                cases h
                have hne : m ≠ l := fun q => by rw [q] at hne; rw [Nat.beq_refl] at hne; cases hne
                have hml : m ≤ n ∧ ((mx.map ρ' = none ∧ m = n) ∨ ∃ k, mx.map ρ' = some (.int k (m : Int)) ∧ m ≤ n) := by
                  rcases bound_rel hρ hm (Nat.le_refl _) with ⟨m1, m2, m3⟩ | ⟨m1, km, m2, m3, m4⟩
                  · exact ⟨by omega, .inl ⟨m2, m3⟩⟩
                  · exact ⟨m3, .inr ⟨km, m2, m4⟩⟩
                have hhl : hh ≤ m ∧ ((hi.map ρ' = none ∧ mx.map ρ' = none ∧ hh = n) ∨ ∃ k, hi.map ρ' = some (.int k (hh : Int)) ∧ hh ≤ m) := by
                  rcases bound_rel hρ hh' (Nat.le_refl _) with ⟨m1, m2, m3⟩ | ⟨m1, km, m2, m3, m4⟩
                  · have hmx : mx = none := by
                      cases mx with
                      | none => rfl
                      | some z => exact absurd (by rw [m1]; rfl) (hno (ρ z) rfl)
                    subst hmx
                    rcases hml.2 with ⟨_, q⟩ | ⟨k, q, _⟩
                    · exact ⟨by omega, .inl ⟨m2, rfl, m3⟩⟩
                    · cases q
                  · exact ⟨m3, .inr ⟨km, m2, m4⟩⟩
                have hll : (lo.map ρ' = none ∧ l = 0) ∨ ∃ k, lo.map ρ' = some (.int k (l : Int)) ∧ l ≤ hh := by
                  rcases bound_rel hρ hl (Nat.le_refl _) with ⟨m1, m2, m3⟩ | ⟨m1, km, m2, m3, m4⟩
                  · exact .inl ⟨m2, m3⟩
                  · exact .inr ⟨km, m2, m4⟩
                refine ⟨.slice (some (if m = l then b' else b'.add (l * s))) (hh - l) (m - l), ?_, fun w => ?_⟩
                · rw [if_neg hne]
                  obtain ⟨e0, he, rfl⟩ := har
                  rw [add_at]
                  refine .slice _ _ _ _ _ (show hh - l ≤ m - l by omega) (Nat.le_refl _) (.inl ⟨e0, he, ?_⟩) (.inl ⟨rfl, rfl⟩)
                  show (⟨_, e0.off + o + l * s, none⟩ : Addr) = ⟨_, e0.off + (o + l * s), none⟩
                  rw [Nat.add_assoc]
                · have hb := run_bounds (P := P) (isSlice := false) (len := n) hml.2 hhl.2 hll w
                  simp [Instr.sliceAt, run_underlying hu, run_asAddr, hb, run_szOf hs]
  · cases h

theorem fieldAddr_rel {t : TypeId} {f : Nat} {fld : Field} {b o k : Nat} {x' : Value} (hx : VR κ (.pointer (some ⟨b, o, none⟩)) x') (hf : fieldOf P t f = some fld) (hs : szOf P fld.type = some (k + 1)) :
    ∃ v', VR κ (.pointer (some ⟨b, Nat.add o fld.offset, none⟩)) v' ∧ ∀ w, (Instr.fieldAt t x' f).run P w = .ok v' w := by
  obtain ⟨fs, hu, hfs⟩ := fieldOf_some hf
  obtain ⟨b', rfl, -, e0, he, rfl⟩ := hx.ptr_inv
  refine ⟨.pointer (some ⟨e0.blk, e0.off + o + fld.offset, none⟩), .ptr _ _ rfl ⟨e0, he, ?_⟩, fun w => ?_⟩
  · show (⟨_, e0.off + o + fld.offset, none⟩ : Addr) = ⟨_, e0.off + (o + fld.offset), none⟩
    rw [Nat.add_assoc]
  · simp [Instr.fieldAt, run_underlying hu, hfs, run_asAddr, fieldPlace, run_szOf hs, add_at]

theorem field_rel {t : TypeId} {f : Nat} {fld : Field} {cs : Array Value} {x' v : Value} (hx : VR κ (.agg cs) x') (hf : fieldOf P t f = some fld) (hp : partA P fld.type cs.toList fld.offset = some v) :
    ∃ v', VR κ v v' ∧ ∀ w, (Instr.field t x' f).run P w = .ok v' w := by
  obtain ⟨fs, hu, hfs⟩ := fieldOf_some hf
  obtain ⟨l⟩ := cs
  obtain ⟨l', rfl, hc⟩ := hx.agg_inv
  obtain ⟨v', h1, h2⟩ := partA_rel hp hc
  exact ⟨v', h2, fun w => by simp [Instr.field, run_underlying hu, hfs, asAgg, h1 w]⟩

theorem indexAddr_rel {t : TypeId} {x i x' i' v : Value} (hx : VR κ x x') (hi : VR κ i i') (h : indexAddrA P t x i = some v) : ∃ v', VR κ v v' ∧ ∀ w, (Instr.indexAt t x' i').run P w = .ok v' w := by
  unfold indexAddrA at h
  split at h
  · cases h
  · rename_i n hn
    obtain ⟨k, rfl⟩ := intAt_some hn
    rw [hi.int_inv]
    split at h
    · cases h
    · rename_i m hm
      rw [natOf_some hm]
      split at h
      · rename_i n e b o hu
        split at h
        · rename_i s hlt hs
          cases h
          have hlt := blt_lt hlt
          obtain ⟨b', rfl, -, e0, he, rfl⟩ := hx.ptr_inv
          refine ⟨.pointer (some ⟨e0.blk, e0.off + o + m * s, none⟩), .ptr _ _ rfl ⟨e0, he, ?_⟩, fun w => ?_⟩
          · show (⟨_, e0.off + o + m * s, none⟩ : Addr) = ⟨_, e0.off + (o + m * s), none⟩
            rw [Nat.add_assoc]
          · have h2 : (m : Int) < n := by omega
            simp [Instr.indexAt, asIntOf, run_underlying hu, run_asAddr, run_szOf hs, add_at, h2]
            intro hle; omega
        · cases h
      · rename_i e b o sp n c hu
        split at h
        · rename_i s hlt hs
          cases h
          have hlt := blt_lt hlt
          obtain ⟨b', c', rfl, hnc, hcc, har, -⟩ := hx.slice_inv
          rcases har with ⟨e0, he, rfl⟩ | hc0
          · refine ⟨.pointer (some ⟨e0.blk, e0.off + o + m * s, none⟩), .ptr _ _ rfl ⟨e0, he, ?_⟩, fun w => ?_⟩
            · show (⟨_, e0.off + o + m * s, none⟩ : Addr) = ⟨_, e0.off + (o + m * s), none⟩
              rw [Nat.add_assoc]
            · have h2 : (m : Int) < n := by omega
              simp [Instr.indexAt, asIntOf, run_underlying hu, run_szOf hs, add_at, h2]
              intro hle; omega
          · omega
        · cases h
      · cases h

theorem intLt_eq (a b : Int) : intLt a b = decide (a < b) := by
  cases a <;> cases b <;> simp only [intLt]
  · rename_i a b
    rw [Bool.eq_iff_iff, Nat.blt_eq, decide_eq_true_iff]
    exact (Int.ofNat_lt).symm
  · rename_i a b
    simp only [Bool.false_eq, decide_eq_false_iff_not]
    show ¬ ((a : Int) < Int.negSucc b)
    omega
  · rename_i a b
    simp only [Bool.true_eq, decide_eq_true_iff]
    show Int.negSucc a < (b : Int)
    omega
  · rename_i a b
    rw [Bool.eq_iff_iff, Nat.blt_eq, decide_eq_true_iff]
    omega

theorem still_ok {o : Oper} {v : Value} (hρ : ∀ x, VR κ (ρ x) (ρ' x)) (h : stillA P o ρ = some v) : StillOk P κ ρ' o v := by
  unfold stillA at h
  split at h
  · rename_i x hop
    cases h
    exact ⟨_, hρ x, fun w => by rw [execOp, hop]; rfl⟩
  · rename_i x hop
    cases h
    exact ⟨_, hρ x, fun w => by rw [execOp, hop]; rfl⟩
  · rename_i c a b hop
    split at h
    · rename_i hc
      cases h
      have := hρ c
      rw [hc] at this
      exact ⟨_, hρ a, fun w => by rw [execOp, hop]; simp only [this.bool_inv]; rfl⟩
    · rename_i hc
      cases h
      have := hρ c
      rw [hc] at this
      exact ⟨_, hρ b, fun w => by rw [execOp, hop]; simp only [this.bool_inv]; rfl⟩
    · cases h
  · rename_i t parts hop
    exact still_build hop hρ h
  · rename_i x hop
    have hx := hρ x
    split at h
    · rename_i a ha
      cases h
      rw [ha] at hx
      obtain ⟨b, hb, -, -⟩ := id hx.ptr_inv
      exact ⟨_, hx, fun w => by rw [execOp, hop]; simp only [hb]; rfl⟩
    · rename_i f a b ha
      cases h
      rw [ha] at hx
      obtain ⟨a⟩ := a
      obtain ⟨b⟩ := b
      obtain ⟨fn', a', b', hb, hf, -, -⟩ := id hx.func_inv
      cases hf
      exact ⟨_, hx, fun w => by rw [execOp, hop]; simp only [hb]; rfl⟩
    · rename_i f a b ha
      cases h
      rw [ha] at hx
      obtain ⟨a⟩ := a
      obtain ⟨b⟩ := b
      obtain ⟨fn', a', b', hb, hf, -, -⟩ := id hx.func_inv
      cases hf
      exact ⟨_, hx, fun w => by rw [execOp, hop]; simp only [hb]; rfl⟩
    · rename_i t u ha
      cases h
      rw [ha] at hx
      obtain ⟨b, hb, -⟩ := id hx.iface_inv
      exact ⟨_, hx, fun w => by rw [execOp, hop]; simp only [hb]; rfl⟩
    · cases h
  · rename_i op t x y pos hop
    have hx := hρ x
    have hy := hρ y
    unfold binA at h
    split at h
    · rename_i k a q b ha hb
      obtain ⟨h1, h2⟩ := flatO_some h
      rw [ha] at hx
      rw [hb] at hy
      refine .of (s := do eqGuard op t x y (ρ' x) (ρ' y); binOp op t (ρ' x) (ρ' y)) (by rw [execOp, hop]) (VR.flatV h2) fun w => ?_
      rw [hx.int_inv, hy.int_inv, Sem.run_bind, show (eqGuard op t x y (.int k a) (.int q b)).run P w = .ok () w from by cases op <;> rfl]
      rw [ha, hb] at h1
      exact purely_run h1 w
    · rename_i hno
      split at h
      · split at h
        · rename_i b he
          cases h
          obtain ⟨h1, h2⟩ := equalA_run he hx hy
          refine .of (v' := .bool b) (s := do eqGuard .eql t x y (ρ' x) (ρ' y); binOp .eql t (ρ' x) (ρ' y)) (by rw [execOp, hop]) (.flat _ rfl) fun w => ?_
          rw [Sem.run_bind, h1 .eql x y w rfl]
          exact (h2 w).1
        · cases h
      · split at h
        · rename_i b he
          cases h
          obtain ⟨h1, h2⟩ := equalA_run he hx hy
          refine .of (v' := .bool (!b)) (s := do eqGuard .neq t x y (ρ' x) (ρ' y); binOp .neq t (ρ' x) (ρ' y)) (by rw [execOp, hop]) (.flat _ rfl) fun w => ?_
          rw [Sem.run_bind, h1 .neq x y w rfl]
          exact (h2 w).2
        · cases h
      · cases h
  · rename_i op t x hop
    have hx := hρ x
    split at h
    · rename_i k n hn
      obtain ⟨h1, h2⟩ := flatO_some h
      rw [hn] at hx
      refine .of (s := Op.unary op (ρ' x)) (by rw [execOp, hop]) (VR.flatV h2) fun w => ?_
      rw [hx.int_inv]
      exact purely_run h1 w
    · rename_i b hb
      split at h
      · cases h
        rw [hb] at hx
        refine .of (v' := .bool (!b)) (s := Op.unary .not (ρ' x)) (by rw [execOp, hop]) (.flat _ rfl) fun w => ?_
        rw [hx.bool_inv]
        rfl
      · cases h
    · cases h
  · rename_i s d x hop
    have hx := hρ x
    split at h
    · rename_i k0 k q n hs hd hn
      cases h
      rw [hn] at hx
      refine .of (v' := .int k (k.wrap n)) (s := convert s d (ρ' x)) (by rw [execOp, hop]) (.flat _ rfl) fun w => ?_
      rw [hx.int_inv]
      simp [convert, run_underlying hs, run_underlying hd, Conv.intToInt]
    · cases h
  · rename_i f first captured hop
    cases h
    refine .of (v' := .func (.func f) ⟨first.toList.map ρ'⟩ ⟨captured.toList.map ρ'⟩) (s := Instr.makeFunc (.func f) (first.map ρ') (captured.map ρ')) (by rw [execOp, hop]) ?_ fun w => ?_
    · rw [mapOps_eq, mapOps_eq]
      exact VR.func' (.func f) (.map hρ _) (.map hρ _)
    · rw [arr_map, arr_map]; rfl
  · rename_i t x lo hi mx hop
    obtain ⟨v', h1, h2⟩ := sliceA_rel hρ (hρ x) h
    exact .of (by rw [execOp, hop]) h1 h2
  · rename_i t x f hop
    have hx := hρ x
    split at h
    · rename_i b oo fld ha hf
      split at h
      · rename_i k hs
        cases h
        rw [ha] at hx
        obtain ⟨v', h1, h2⟩ := fieldAddr_rel hx hf hs
        exact .of (by rw [execOp, hop]) h1 h2
      · cases h
    · cases h
  · rename_i t x f hop
    have hx := hρ x
    split at h
    · rename_i cs fld ha hf
      rw [ha] at hx
      obtain ⟨v', h1, h2⟩ := field_rel hx hf h
      exact .of (by rw [execOp, hop]) h1 h2
    · cases h
  · rename_i t x i hop
    obtain ⟨v', h1, h2⟩ := indexAddr_rel (hρ x) (hρ i) h
    exact .of (by rw [execOp, hop]) h1 h2
  · rename_i t x i hop
    have hx := hρ x
    have hi := hρ i
    split at h
    · rename_i n e cs i0 hu ha hi0
      split at h
      · rename_i m s hm hs
        split at h
        · rename_i hlt
          have hlt := blt_lt hlt
          obtain ⟨k, hi1⟩ := intAt_some hi0
          rw [ha] at hx
          rw [hi1] at hi
          obtain ⟨l⟩ := cs
          obtain ⟨l', hx', hc⟩ := hx.agg_inv
          obtain ⟨v', h1, h2⟩ := partA_rel h hc
          refine .of (s := Instr.index t (ρ' x) (ρ' i)) (by rw [execOp, hop]) h2 fun w => ?_
          rw [hx', hi.int_inv, natOf_some hm]
          have h3 : (m : Int) < n := by omega
          have h4 := h1 w
          simp [Instr.index, asIntOf, run_underlying hu, run_szOf hs]
          rw [if_pos hlt]
          exact h4
        · cases h
      · cases h
    · cases h
  · rename_i x i hop
    have hx := hρ x
    split at h
    · rename_i vs hvs
      rw [hvs] at hx
      obtain ⟨l⟩ := vs
      obtain ⟨l', hx', hl⟩ := hx.tuple_inv
      rw [lget_eq] at h
      obtain ⟨v', h1, h2⟩ := hl.get h
      refine .of (s := Instr.extract (ρ' x) i) (by rw [execOp, hop]) h2 fun w => ?_
      rw [hx']
      simp [Instr.extract, h1]
    · cases h
  · rename_i t x hop
    split at h
    · cases h
    · rename_i d hno hu
      cases h
      refine .of (v' := .iface t (ρ' x)) (s := Instr.makeInterface t (ρ' x)) (by rw [execOp, hop]) (.iface _ _ _ (hρ x)) fun w => ?_
      rw [Instr.makeInterface, Sem.run_bind, run_underlying hu]
      cases d <;> first | rfl | (exact absurd rfl (hno _))
    · cases h
  · rename_i x t0 t ok hop
    have hx := hρ x
    split at h
    · cases h
    · rename_i d u v0 hno hu hv0
      rw [hv0] at hx
      obtain ⟨v1, hx', h1⟩ := hx.iface_inv
      split at h
      · rename_i hut
        have hut := Nat.eq_of_beq_eq_true hut
        subst hut
        cases h
        refine .of (v' := .tuple ⟨[v1, .bool true]⟩) (s := Instr.typeAssert (ρ' x) t0 u true) (by rw [execOp, hop]) (VR.tuple' (.cons h1 (.cons (.flat _ rfl) (.nil κ)))) fun w => ?_
        rw [hx', Instr.typeAssert, Sem.run_bind, run_underlying hu]
        cases d <;> first | (exact absurd rfl (hno _)) | simp
      · rename_i hut
        have hut := Nat.eq_of_beq_eq_true hut
        subst hut
        cases h
        refine .of (v' := v1) (s := Instr.typeAssert (ρ' x) t0 u false) (by rw [execOp, hop]) h1 fun w => ?_
        rw [hx', Instr.typeAssert, Sem.run_bind, run_underlying hu]
        cases d <;> first | (exact absurd rfl (hno _)) | simp
      · rename_i hut
        have hut : u ≠ t := fun q => by rw [q, Nat.beq_refl] at hut; cases hut
        split at h
        · rename_i z hz
          cases h
          obtain ⟨h2, h3⟩ := flatO_some hz
          refine .of (v' := .tuple ⟨[z, .bool false]⟩) (s := Instr.typeAssert (ρ' x) t0 t true) (by rw [execOp, hop]) (VR.tuple' (.cons (VR.flatV h3) (.cons (.flat _ rfl) (.nil κ)))) fun w => ?_
          rw [hx', Instr.typeAssert, Sem.run_bind, run_underlying hu]
          cases d <;> first | (exact absurd rfl (hno _)) | simp [hut, run_zeroV h2]
        · cases h
      · cases h
    · cases h
  · rename_i args argTypes hop
    split at h
    · rename_i t _ x _ hat har
      have hx := hρ x
      have e1 : argTypes[0]? = some t := by rw [← Array.getElem?_toList, hat]; rfl
      have e2 : (args.map ρ')[0]? = some (ρ' x) := by rw [← Array.getElem?_toList, Array.toList_map, har]; rfl
      have base : ∀ {n : Int}, (∀ w, (Builtin.len_ argTypes o.type (args.map ρ')).run P w = .ok (.int .i64 n) w) → StillOk P κ ρ' o (.int .i64 n) := fun hr =>
        .of (s := Builtin.len_ argTypes o.type (args.map ρ')) (by rw [execOp, hop]; rfl) (.flat _ rfl) hr
      split at h
      · rename_i e a n c hu ha
        cases h
        rw [ha] at hx
        refine base fun w => ?_
        cases a with
        | none =>
          obtain ⟨rfl, -, hx'⟩ := hx.nilSlice_inv
          simp [Builtin.len_, e1, e2, run_underlying hu, hx', goInt]
        | some a =>
          obtain ⟨b', c', hx', -⟩ := hx.slice_inv
          simp [Builtin.len_, e1, e2, run_underlying hu, hx', goInt]
      · rename_i n e hu
        cases h
        refine base fun w => ?_
        simp [Builtin.len_, e1, e2, run_underlying hu, goInt]
      · rename_i a hu
        split at h
        · rename_i n e hu2
          cases h
          refine base fun w => ?_
          simp [Builtin.len_, e1, e2, run_underlying hu, run_underlying hu2, goInt]
        · cases h
      · rename_i s0 hu ha
        cases h
        rw [ha] at hx
        refine base fun w => ?_
        simp [Builtin.len_, e1, e2, run_underlying hu, hx.string_inv, goInt]
      · cases h
    · cases h
  · rename_i args at0 hop
    split at h
    · rename_i x y har
      have hx := hρ x
      have hy := hρ y
      split at h
      · rename_i k a q b ha hb
        cases h
        rw [ha] at hx
        rw [hb] at hy
        refine .of (v' := .int k (match intLt b a with | true => b | false => a)) (s := Builtin.min_ at0 o.type (args.map ρ')) (by rw [execOp, hop]; rfl) (.flat _ rfl) fun w => ?_
        simp only [Builtin.min_, Array.toList_map, har, List.map_cons, List.map_nil, hx.int_inv, hy.int_inv]
        rw [intLt_eq]
        by_cases hlt : b < a <;> simp [Builtin.min2, hlt]
      · cases h
    · cases h
  · rename_i args at0 hop
    split at h
    · rename_i x y har
      have hx := hρ x
      have hy := hρ y
      split at h
      · rename_i k a q b ha hb
        cases h
        rw [ha] at hx
        rw [hb] at hy
        refine .of (v' := .int k (match intLt a b with | true => b | false => a)) (s := Builtin.max_ at0 o.type (args.map ρ')) (by rw [execOp, hop]; rfl) (.flat _ rfl) fun w => ?_
        simp only [Builtin.max_, Array.toList_map, har, List.map_cons, List.map_nil, hx.int_inv, hy.int_inv]
        rw [intLt_eq]
        by_cases hlt : a < b <;> simp [Builtin.max2, hlt]
      · cases h
    · cases h
  · cases h

end
end Go.Ev
