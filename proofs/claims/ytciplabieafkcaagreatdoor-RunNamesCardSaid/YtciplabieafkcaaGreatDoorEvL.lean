/-
  Copies and appends.
-/
import Derived.Test.YtciplabieafkcaaGreatDoorEvK
set_option linter.unusedSimpArgs false
set_option linter.unusedVariables false
namespace Go.Ev
open Go.RowKit

section
variable {P : Program} {κ : KM} {ρ ρ' : Operand → Value} {W W' : AW} {base : Nat} {w0 w : World}

theorem isNilL_true {α : Type} {l : List α} (h : isNilL l = true) : l = [] := by cases l with | nil => rfl | cons => cases h
theorem isNilL_false {α : Type} {l : List α} (h : isNilL l = false) : l ≠ [] := by cases l with | nil => cases h | cons => simp

theorem mostN_le (n : Nat) (most : Option Nat) : mostN n most ≤ n := by
  unfold mostN
  split
  · exact Nat.le_refl _
  · split
    · exact Nat.le_refl _
    · rename_i k hk
      exact Nat.le_of_lt (Nat.lt_of_not_le fun q => by rw [Nat.ble_eq_true_of_le q] at hk; cases hk)

theorem mostN_some (n k : Nat) : mostN n (some k) = Nat.min n k := by
  unfold mostN
  simp only
  split
  · rename_i hk
    exact (Nat.min_eq_left (Nat.le_of_ble_eq_true hk)).symm
  · rename_i hk
    have : ¬ n ≤ k := fun q => by rw [Nat.ble_eq_true_of_le q] at hk; cases hk
    exact (Nat.min_eq_right (by omega)).symm

theorem sourceA_rel {z m : Nat} {x x' : Value} {most : Option Nat} {new : List Value} (R : RW κ W base w0 w) (hx : VR κ x x') (h : sourceA z x most W = some (m, new)) :
    ∃ n new', Builtin.lenOf x' = Sem.pure n ∧ m = mostN n most ∧ new.length = m * z ∧ CL κ new new' ∧ (Builtin.firstCells z m x').run P w = .ok ⟨new'⟩ w ∧ (Builtin.firstCells z m x').run P w.drew = .ok ⟨new'⟩ w.drew := by
  unfold sourceA at h
  split at h
  · cases h
    obtain ⟨-, -, rfl⟩ := hx.nilSlice_inv
    exact ⟨0, [], rfl, by have := mostN_le 0 most; omega, by simp, ⟨.nil κ, fun v hv => by cases hv⟩, rfl, rfl⟩
  · rename_i b o sp n c
    obtain ⟨b', c', rfl, h1, h2, har, -⟩ := hx.slice_inv
    split at h
    · rename_i l hl
      cases h
      refine ⟨n, ?_⟩
      have hMn := mostN_le n most
      generalize hM : mostN n most = M at hl hMn ⊢
      rcases har with ⟨e, he, rfl⟩ | hc0
      · obtain ⟨l', k1, k2, k3, k4⟩ := load_cells R hl he P
        obtain ⟨l2, g1, g2, g3, g4⟩ := load_cells R.drew hl he P
        have hll : l2 = l' := by
          apply List.ext_getElem?
          intro j
          by_cases hj : j < l'.length
          · have a1 := k3 j l'[j] (by simp [hj])
            have hj2 : j < l2.length := by rw [g1, ← k1]; exact hj
            have a2 := g3 j l2[j] (by simp [hj2])
            have a2' : w.cell? ((⟨e.blk, e.off + o, none⟩ : Addr).add j) = some l2[j] := a2
            rw [a1] at a2'
            simp [hj, hj2, Option.some.inj a2'.symm]
          · rw [List.getElem?_eq_none (by omega), List.getElem?_eq_none (by omega)]
        refine ⟨l', rfl, rfl, by rw [k2.1.1, k1]; rfl, k2, ?_, ?_⟩
        · simpa [Builtin.firstCells] using k4
        · rw [hll] at g4; simpa [Builtin.firstCells] using g4
      · have hM0 : M = 0 := by omega
        subst hM0
        rw [show Nat.mul 0 z = 0 from Nat.zero_mul z] at hl
        obtain ⟨cc, lo, wr, ex, hg, hn, rfl⟩ := cellsAt_some hl
        refine ⟨[], rfl, rfl, by simp, ⟨by simpa using LR.nil κ, fun v hv => by cases hv⟩, ?_, ?_⟩ <;> simp [Builtin.firstCells, loadCells, loadCellsFrom]
    · cases h
  · cases h

theorem copy_ok {o : Oper} {v : Value} {args : Array Operand} {at0 : Array TypeId} (hop : o.op = .call { callee := .builtin .copy, args, argTypes := at0 }) (R : RW κ W base w0 w) (hρ : ∀ x, VR κ (ρ x) (ρ' x)) (h : effectA P o ρ W = some (v, W')) :
    EffOk P κ W W' base w0 w (execOp ρ' o) v := by
  unfold effectA at h
  rw [hop] at h
  simp only at h
  split at h
  · rename_i t _ s x hat har
    have hs := hρ s
    have hx := hρ x
    have e0 : at0[0]? = some t := by rw [← Array.getElem?_toList, hat]; rfl
    have e1 : (args.map ρ')[0]? = some (ρ' s) := by rw [← Array.getElem?_toList, Array.toList_map, har]; rfl
    have e2 : (args.map ρ')[1]? = some (ρ' x) := by rw [← Array.getElem?_toList, Array.toList_map, har]; rfl
    unfold copyA at h
    split at h
    · rename_i e base' n c0 he hsv
      rw [hsv] at hs
      have hu := elemOfSlice_some he
      split at h
      · rename_i z hz
        split at h
        · cases h
        · rename_i m new hsrc
          obtain ⟨nx, new', k1, k2, k3, k4, k5, -⟩ := sourceA_rel (P := P) R hx hsrc
          have k2 : m = Nat.min nx n := by rw [k2, mostN_some]
          obtain ⟨b', c', hs', hal⟩ : ∃ b' c', ρ' s = .slice b' n c' ∧ (∀ b o sp, base' = some ⟨b, o, sp⟩ → ∃ a', b' = some a' ∧ (AR κ ⟨b, o, sp⟩ a' ∨ n = 0)) := by
            cases base' with
            | none =>
              obtain ⟨rfl, -, h3⟩ := hs.nilSlice_inv
              exact ⟨none, 0, h3, fun _ _ _ q => by cases q⟩
            | some a =>
              obtain ⟨b', c', h3, h4, h5, h6, -⟩ := hs.slice_inv
              exact ⟨some b', c', h3, fun b o sp q => by cases q; exact ⟨b', rfl, h6.imp id (fun q => by omega)⟩⟩
          have run : ∀ {w' : World}, (∀ a', b' = some a' → (storeCells a' new').run P w = .ok () w') → (b' = none → w' = w) → (execOp ρ' o).run P w = .ok (.value (goInt m)) w' := by
            intro w' hst hno
            have hcp : (Builtin.copy_ at0 o.type (args.map ρ')).run P w = .ok (goInt m) w' := by
              cases b' with
              | none =>
                rw [hno rfl]
                simp only [Builtin.copy_, e0, e1, e2, Sem.run_bind, run_underlying hu, Result.andThen_ok, hs', k1, run_szOf hz]
                simp [← k2, k5]
              | some a' =>
                simp only [Builtin.copy_, e0, e1, e2, Sem.run_bind, run_underlying hu, Result.andThen_ok, hs', k1, run_szOf hz]
                simp [← k2, k5, hst a' rfl]
            rw [execOp, hop]
            show ((do pure (.value (← Builtin.copy_ at0 o.type (args.map ρ')))) : Sem Next).run P w = _
            rw [Sem.run_bind, hcp]
            rfl
          split at h
          · rename_i hnil
            cases h
            have hn0 := isNilL_true hnil
            subst hn0
            have hn' := k4.1.nil_inv
            subst hn'
            exact ⟨_, _, w, κ, run (fun a' _ => rfl) (fun _ => rfl), .inl rfl, .flat _ rfl, R, Fw.refl κ W w⟩
          · rename_i hnil
            have hnn := isNilL_false hnil
            split at h
            · rename_i b o' sp
              split at h
              · rename_i W1 hst
                cases h
                obtain ⟨a', rfl, hAR⟩ := hal b o' sp rfl
                rcases hAR with ⟨e0', he', rfl⟩ | hn0
                · obtain ⟨w', g1, g2, g3⟩ := store_cells R hst he' k4 P
                  exact ⟨_, _, w', κ, run (fun a'' q => by cases q; exact g1) (fun q => by cases q), .inl rfl, .flat _ rfl, g2, g3⟩
                · exfalso
                  apply hnn
                  have : m = 0 := by rw [k2, hn0]; exact Nat.min_zero _
                  rw [this, Nat.zero_mul] at k3
                  exact List.eq_nil_of_length_eq_zero k3
              · cases h
            · cases h
      · cases h
    · cases h
  · cases h

/-! ### appends -/
theorem growBy_le (m : Nat) : ∀ (r c : Nat), Builtin.growBy m r c ≤ 2 ^ r * (c + 192)
  | 0, c => by simp [Builtin.growBy]
  | r + 1, c => by
    unfold Builtin.growBy
    split
    · have : 1 ≤ 2 ^ (r + 1) := Nat.one_le_two_pow
      calc c ≤ c + 192 := by omega
        _ = 1 * (c + 192) := by omega
        _ ≤ 2 ^ (r + 1) * (c + 192) := Nat.mul_le_mul_right _ this
    · refine Nat.le_trans (growBy_le m r _) ?_
      rw [Nat.pow_succ, Nat.mul_assoc]
      exact Nat.mul_le_mul_left _ (by omega)

theorem nextslicecap_le {need cap : Nat} (h1 : cap < need) (h2 : need ≤ 1000000) : Builtin.nextslicecap need cap ≤ 16003072 := by
  unfold Builtin.nextslicecap
  split
  · omega
  · split
    · omega
    · have := growBy_le need 4 cap
      omega

theorem zeroCells_size (z : Array Value) (n : Nat) : (Builtin.zeroCells z n).size = n * z.size := by simp [Builtin.zeroCells]

theorem run_choose_cap (need cap e : Nat) (w : World) : (choose (.appendCap need cap e)).run P w = .ok (grownCap w need cap e) w.drew := by
  simp [grownCap, Question.forced]

/-- The old block of a slice that grows: told no more of than that it stands. -/
theorem close_block {b : Nat} {cs : List Value} {lo : Nat} {h1 : Tr AObj} (R : RW κ W base w0 w) (hg : W.heap.get b = some (.cells cs lo true true)) (hput : W.heap.put (.cells cs lo false false) b = some h1) :
    RW κ { W with heap := h1 } base w0 w := by
  have hget := Tr.put_get hput
  have hsz : b < W.size := by
    rcases Nat.lt_or_ge b W.size with h | h
    · exact h
    · rw [R.top b h] at hg; cases hg
  refine ⟨R.dom, fun i hi => ?_, fun i e he => ?_, fun i j e f o hij hi hj hb ho => ?_, fun i e o he ho hop => ?_, R.below, R.big⟩
  · show h1.get i = none
    have hi' : W.size ≤ i := hi
    rw [hget, if_neg (by omega)]
    exact R.top i hi
  · show ∃ o, h1.get i = some o ∧ _
    obtain ⟨o, k1, k2⟩ := R.has i e he
    rw [hget]
    by_cases hib : i = b
    · subst hib
      rw [hg] at k1
      cases k1
      obtain ⟨ca, el, fr, q1, q2, q3, q4, q5, q6, q7, q8⟩ := k2
      exact ⟨_, if_pos rfl, ca, el, fr, q1, q2, q3, q4, q5, fun h => (by cases h), fun h => (by cases h), q8⟩
    · rw [if_neg hib]; exact ⟨o, k1, k2⟩
  · have ho' : h1.get j = some o := ho
    rw [hget] at ho'
    by_cases hjb : j = b
    · subst hjb
      rw [if_pos rfl] at ho'
      cases ho'
      exact ⟨rfl, fun q => by cases q⟩
    · rw [if_neg hjb] at ho'
      obtain ⟨k1, k2⟩ := R.apart i j e f o hij hi hj hb ho'
      refine ⟨k1, fun hop => ⟨(k2 hop).1, fun o2 ho2 => ?_⟩⟩
      have ho3 : h1.get i = some o2 := ho2
      rw [hget] at ho3
      by_cases hib : i = b
      · subst hib; rw [if_pos rfl] at ho3; cases ho3; rfl
      · rw [if_neg hib] at ho3; exact (k2 hop).2 o2 ho3
  · have ho' : h1.get i = some o := ho
    rw [hget] at ho'
    by_cases hib : i = b
    · subst hib; rw [if_pos rfl] at ho'; cases ho'; cases hop
    · rw [if_neg hib] at ho'; exact R.own i e o he ho' hop

theorem not_int {du : TypeDesc} : (∀ k, du = .int k → False) → (du matches .int _) = false := by intro h; cases du <;> first | rfl | exact (h _ rfl).elim

theorem append_ok {o : Oper} {v : Value} {args : Array Operand} {at0 : Array TypeId} (hop : o.op = .call { callee := .builtin .append, args, argTypes := at0 }) (R : RW κ W base w0 w) (hρ : ∀ x, VR κ (ρ x) (ρ' x)) (h : effectA P o ρ W = some (v, W')) :
    EffOk P κ W W' base w0 w (execOp ρ' o) v := by
  unfold effectA at h
  rw [hop] at h
  simp only at h
  split at h
  · rename_i t u s x hat har
    have hs := hρ s
    have hx := hρ x
    have e0 : at0[0]? = some t := by rw [← Array.getElem?_toList, hat]; rfl
    have e3 : at0[1]? = some u := by rw [← Array.getElem?_toList, hat]; rfl
    have e1 : (args.map ρ')[0]? = some (ρ' s) := by rw [← Array.getElem?_toList, Array.toList_map, har]; rfl
    have e2 : (args.map ρ')[1]? = some (ρ' x) := by rw [← Array.getElem?_toList, Array.toList_map, har]; rfl
    split at h
    · cases h
    · rename_i du hdu hut
      have hzeros := not_int hdu
      unfold appendA at h
      split at h
      · rename_i e base' n c0 he hsv
        rw [hsv] at hs
        have hu := elemOfSlice_some he
        split at h
        · rename_i z zl hez hby
          obtain ⟨g1, g2, g3⟩ := elemZ_some hez
          obtain ⟨z0, g4, g5, g6⟩ := zeroL_some g2 κ
          split at h
          · cases h
          · rename_i m new hsrc
            obtain ⟨nx, new', k1, k2, k3, k4, k5, k6⟩ := sourceA_rel (P := P) R hx hsrc
            have k2 : m = nx := k2
            subst k2
            obtain ⟨inf, hinf, hbytes⟩ : ∃ inf, P.info? e = some inf ∧ inf.bytes ≤ 1000000 := by
              unfold bytesOk at hby
              split at hby
              · rename_i inf hinf; exact ⟨inf, hinf, Nat.le_of_ble_eq_true hby⟩
              · cases hby
            have fin : ∀ {r : Value} {w' : World} {κ' : KM}, (Builtin.append_ at0 o.type (args.map ρ')).run P w = .ok r w' → VR κ' v r → RW κ' W' base w0 w' → Fw κ κ' W W' w w' → EffOk P κ W W' base w0 w (execOp ρ' o) v := by
              intro r w' κ' q1 q2 q3 q4
              refine ⟨.value r, r, w', κ', ?_, .inl rfl, q2, q3, q4⟩
              rw [execOp, hop]
              show ((do pure (.value (← Builtin.append_ at0 o.type (args.map ρ')))) : Sem Next).run P w = _
              rw [Sem.run_bind, q1]
              rfl
            -- in its place
            have stay : ∀ {b' : Option Addr} {c' : Nat} {w' : World}, ρ' s = .slice b' n c' → n + m ≤ c' → (∀ a', b' = some a' → (storeCells (a'.add (n * z)) new').run P w = .ok () w') → (b' = none → w' = w) →
                (Builtin.append_ at0 o.type (args.map ρ')).run P w = .ok (.slice b' (n + m) c') w' := by
              intro b' c' w' q1 q2 q3 q4
              cases b' with
              | none =>
                rw [q4 rfl]
                simp only [Builtin.append_, e0, e1, e2, e3, Sem.run_bind, run_underlying hu, run_underlying hut, Result.andThen_ok, q1, run_szOf g1, Sem.run_pure, hzeros, k1]
                simp [q2, k5]
              | some a' =>
                simp only [Builtin.append_, e0, e1, e2, e3, Sem.run_bind, run_underlying hu, run_underlying hut, Result.andThen_ok, q1, run_szOf g1, Sem.run_pure, hzeros, k1]
                simp [q2, k5, q3 a' rfl]
            -- a new row
            have fresh : ∀ {b' : Option Addr} {c' lo : Nat} {old old' : List Value} {W1 : AW} {bn : Nat}, ρ' s = .slice b' n c' → c' < n + m → n + m ≤ 1000000 → 1 ≤ z → old.length = n * z → CL κ old old' → (Builtin.firstCells z n (ρ' s)).run P w.drew = .ok ⟨old'⟩ w.drew →
                RW κ W1 base w0 w → W1.size = W.size → lo ≤ (old ++ new).length → W1.new (old ++ new) lo true = some (bn, W') → v = .slice (some ⟨bn, 0, some z⟩) (n + m) (n + m) → EffOk P κ W W' base w0 w (execOp ρ' o) v := by
              intro b' c' lo old old' W1 bn q1 q2 q3 q4 q5 q6 q7 q8 q9 q10 q11 q12
              have hG := grownCap_ge w (n + m) c' e
              obtain ⟨G, hGd⟩ : ∃ G, grownCap w (n + m) c' e = G := ⟨_, rfl⟩
              rw [hGd] at hG
              have hsz : inf.size = z := by
                unfold szOf at g1
                rw [hinf] at g1
                exact Option.some.inj g1
              have hz0 : inf.zero = some z0 := by
                unfold zeroV at g4
                rw [hinf] at g4
                exact g4
              have hcc : CL κ (old ++ new) (old' ++ new') := ⟨q6.1.append k4.1, fun u hu => (List.mem_append.1 hu).elim (q6.2 u) (k4.2 u)⟩
              obtain ⟨κ', p1, p2, p3⟩ := new_cells q8.drew q11 q10 hcc (Builtin.zeroCells z0.cells (G - (n + m))).toList e
              have hrun : (Builtin.append_ at0 o.type (args.map ρ')).run P w = .ok (.slice (some ⟨w.heap.size, 0, none⟩) (n + m) G) (w.drew.alloc (.cells ((old' ++ new') ++ (Builtin.zeroCells z0.cells (G - (n + m))).toList).toArray e)) := by
                have a1 : ¬ (n + m ≤ c') := by omega
                have a2 : ¬ (((n + m : Nat) : Int) > IntKind.i64.max) := by
                  have : IntKind.i64.max = 9223372036854775807 := rfl
                  omega
                have a3 : ¬ (Builtin.nextslicecap (n + m) c' * inf.bytes > 281474976710656) := by
                  have b1 := nextslicecap_le q2 q3
                  have b2 : Builtin.nextslicecap (n + m) c' * inf.bytes ≤ 16003072 * 1000000 := Nat.mul_le_mul b1 hbytes
                  omega
                have a2' : ¬ (9223372036854775807 < (n : Int) + (m : Int)) := by omega
                have a3' : ¬ (281474976710656 < Builtin.nextslicecap (n + m) c' * inf.bytes) := by omega
                have a5 : (⟨old'⟩ ++ ⟨new'⟩ ++ Builtin.zeroCells z0.cells (G - (n + m)) : Array Value) = ((old' ++ new') ++ (Builtin.zeroCells z0.cells (G - (n + m))).toList).toArray := by apply Array.ext'; simp
                rw [q1] at q7
                rw [← a5, ← hGd]
                simp [Builtin.append_, run_underlying hu, run_underlying hut, e0, e1, e2, e3, q1, run_szOf g1, hzeros, k1, a1, a2', a3', typeInfo, hinf, zeroValue, hz0, Question.forced, q7, k6, newRow, grownCap]
                rw [show ∀ Z : Array Value, ((⟨old'⟩ : Array Value) ++ (⟨new'⟩ ++ Z)) = (old' ++ new').toArray ++ Z from fun Z => by apply Array.ext'; simp]
              subst q12
              refine fin hrun (.slice _ _ _ _ _ (Nat.le_refl _) hG (.inl ⟨_, p1, by simp⟩) (.inr ⟨z, _, rfl, by omega, p1, ?_, .inr ?_⟩)) p2 ⟨p3.le, fun i f hf => ?_, p3.frame, p3.grow, ?_⟩
              · show 0 + (n + m) * z = (old ++ new).length
                rw [List.length_append, q5, k3, Nat.add_mul]; omega
              · show 0 + G * z ≤ ((old' ++ new') ++ (Builtin.zeroCells z0.cells (G - (n + m))).toList).length
                have b1 : (old' ++ new').length = (n + m) * z := by rw [List.length_append, ← q6.1.1, ← k4.1.1, q5, k3, Nat.add_mul]
                have b2 : z0.cells.size = z := by rw [g5]; exact g3
                rw [List.length_append, b1, Array.length_toList, zeroCells_size, b2, ← Nat.add_mul]
                have : n + m + (G - (n + m)) = G := by omega
                rw [this]; omega
              · rcases p3.new i f hf with h | ⟨h1, h2⟩
                · exact .inl h
                · exact .inr ⟨by rw [← q9]; exact h1, h2⟩
              · rw [← q9]; exact p3.wsize
            split at h
            · rename_i hfit
              have hfit := Nat.le_of_ble_eq_true hfit
              split at h
              · rename_i hnil
                cases h
                have hn0 := isNilL_true hnil
                subst hn0
                have hn' := k4.1.nil_inv
                subst hn'
                cases base' with
                | none =>
                  obtain ⟨rfl, rfl, hs'⟩ := hs.nilSlice_inv
                  have hm0 : m = 0 := by have : 0 + m ≤ 0 := hfit; omega
                  subst hm0
                  exact fin (stay hs' (Nat.le_refl _) (fun a' q => by cases q) fun _ => rfl) (.flat _ rfl) R (Fw.refl κ W w)
                | some a =>
                  obtain ⟨b', c', hs', h4, h5, h6, h7⟩ := hs.slice_inv
                  exact fin (stay hs' (Nat.le_trans hfit h5) (fun a' _ => rfl) fun q => by cases q) (.slice _ _ _ _ _ hfit h5 h6 h7) R (Fw.refl κ W w)
              · rename_i hnil
                have hnn := isNilL_false hnil
                split at h
                · rename_i b oo sp
                  split at h
                  · rename_i W1 hst
                    cases h
                    obtain ⟨b', c', hs', h4, h5, h6, h7⟩ := hs.slice_inv
                    have hfit : n + m ≤ c0 := hfit
                    rcases h6 with ⟨e0', he', rfl⟩ | hc0
                    · obtain ⟨w', p1, p2, p3⟩ := store_cells R hst he' k4 P
                      refine fin (stay hs' (Nat.le_trans hfit h5) (fun a' q => ?_) fun q => by cases q) (.slice _ _ _ _ _ hfit h5 (.inl ⟨e0', he', rfl⟩) h7) p2 p3
                      cases q
                      rw [add_at]
                      have e4 : e0'.off + oo + n * z = e0'.off + Nat.add oo (Nat.mul n z) := Nat.add_assoc _ _ _
                      show (storeCells ⟨e0'.blk, e0'.off + oo + n * z, none⟩ new' 0).run P w = _
                      rw [e4]
                      exact p1
                    · exfalso
                      apply hnn
                      have : m = 0 := by omega
                      rw [this, Nat.zero_mul] at k3
                      exact List.eq_nil_of_length_eq_zero k3
                  · cases h
                · cases h
            · rename_i hfit
              have hfit : c0 < n + m := Nat.lt_of_not_le fun q => by rw [show Nat.ble (Nat.add n m) c0 = true from Nat.ble_eq_true_of_le q] at hfit; cases hfit
              split at h
              · cases h
              · rename_i hck
                simp only [Bool.and_eq_true] at hck
                have hsm : n + m ≤ 1000000 := Nat.le_of_ble_eq_true hck.1
                have hz1 : 1 ≤ z := Nat.le_of_ble_eq_true hck.2
                split at h
                · split at h
                  · rename_i bn W2 hnew
                    cases h
                    obtain ⟨rfl, rfl, hs'⟩ := hs.nilSlice_inv
                    refine fresh (old := []) (old' := []) (lo := 0) (W1 := W) hs' (by omega) hsm hz1 (by simp) ⟨.nil κ, fun v hv => by cases hv⟩ ?_ R rfl (Nat.zero_le _) hnew (by rw [Nat.zero_add])
                    rw [hs']; rfl
                  · cases h
                · rename_i b oo sp
                  obtain ⟨b', c', hs', h4, h5, h6, h7⟩ := hs.slice_inv
                  split at h
                  · rename_i old hold
                    rw [appO_eq] at h
                    simp only at h
                    have hsrc2 : sourceA z (.slice (some ⟨b, oo, sp⟩) n c0) none W = some (n, old) := by
                      unfold sourceA
                      simp only [mostN, hold]
                    obtain ⟨nx2, old', j1, j2, j3, j4, j5, j6⟩ := sourceA_rel (P := P) R hs hsrc2
                    split at h
                    · split at h
                      · rename_i bn W2 hnew
                        cases h
                        rcases h7 with ⟨_, hcc⟩ | ⟨_, _, hq, _⟩
                        · subst hcc
                          exact fresh (lo := 0) (W1 := W) hs' hfit hsm hz1 j3 j4 j6 R rfl (Nat.zero_le _) hnew rfl
                        · cases hq
                      · cases h
                    · rename_i y
                      split at h
                      · rename_i cs lo hg
                        split at h
                        · rename_i hck2
                          simp only [Bool.and_eq_true] at hck2
                          have hnc := Nat.eq_of_beq_eq_true hck2.1
                          have hyz := Nat.eq_of_beq_eq_true hck2.2
                          subst hnc; subst hyz
                          split at h
                          · rename_i hp hput
                            split at h
                            · rename_i bn W2 hnew
                              cases h
                              rcases h7 with ⟨hq, _⟩ | ⟨z', e0', hq, hz0, he', hend, hroom⟩
                              · cases hq
                              · cases hq
                                by_cases hin : n + m ≤ c'
                                · rcases h6 with ⟨e1', he1, rfl⟩ | hc0
                                  · have : e1' = e0' := by rw [he1] at he'; exact Option.some.inj he'
                                    subst this
                                    obtain ⟨ob, hob, hO⟩ := R.has b e1' he1
                                    rw [hg] at hob
                                    cases hob
                                    obtain ⟨ca, el, fr, r1, r2, r3, r4, r5, r6, r7, r8⟩ := hO
                                    have hend' : oo + n * y = cs.length := by rw [r3]; exact hend
                                    have hro : c' = 0 ∨ e1'.off + oo + c' * y ≤ e1'.len := hroom
                                    have hle : (n + m) * y ≤ c' * y := Nat.mul_le_mul_right _ hin
                                    have hall : old = cs.drop oo := by
                                      obtain ⟨cc, lo', wr', ex', hg', hn', rfl⟩ := cellsAt_some hold
                                      rw [hg] at hg'
                                      cases hg'
                                      rw [List.take_of_length_le]
                                      rw [List.length_drop]
                                      show cs.length - oo ≤ n * y
                                      omega
                                    have hlo : n * y = cs.length - oo := by omega
                                    have hnew' : ({ W with heap := hp } : AW).new (cs.drop oo ++ new) (cs.length - oo) true = some (bn, W') := by rw [← hall, ← hlo]; exact hnew
                                    obtain ⟨w', κ', t1, t2, t3, t4⟩ := grow_place R he1 hg (by omega) k4 (by rw [k3]; rw [Nat.add_mul] at hle; have := r3; omega) hput hnew' P
                                    refine fin (stay hs' hin (fun a' q => ?_) fun q => by cases q) (.slice _ _ _ _ _ (Nat.le_refl _) hin (.inl ⟨_, t2, by simp⟩) (.inr ⟨y, _, rfl, hz0, t2, ?_, .inr ?_⟩)) t3 t4
                                    · cases q
                                      rw [add_at]
                                      have e4 : e1'.off + oo + n * y = e1'.off + e1'.n := by have := r3; omega
                                      show (storeCells ⟨e1'.blk, e1'.off + oo + n * y, none⟩ new' 0).run P w = _
                                      rw [e4]
                                      exact t1
                                    · show 0 + (n + m) * y = (cs.drop oo ++ new).length
                                      rw [List.length_append, List.length_drop, k3, Nat.add_mul]; omega
                                    · show e1'.off + oo + c' * y ≤ e1'.len
                                      rcases hro with h | h
                                      · omega
                                      · exact h
                                  · omega
                                · exact fresh (W1 := { W with heap := hp }) hs' (by omega) hsm hz1 j3 j4 j6 (close_block R hg hput) rfl (by rw [List.length_append, j3]; exact Nat.le_add_right _ _) hnew rfl
                            · cases h
                          · cases h
                        · cases h
                      · cases h
                  · cases h
        · cases h
      · cases h
    · cases h
  · cases h

end
end Go.Ev
