/-
  What the evaluator holds for SHA's block, bytealg.MakeNoZero and bits.Add64 is so: the three contracts.
-/
import Derived.Test.YtciplabieafkcaaGreatDoorShE
set_option linter.unusedSimpArgs false
set_option linter.unusedVariables false
namespace Go.Proofs.YtciplabieafkcaaGreatDoor
open Go.RowKit
open Go.Ev

theorem u32_eq (n : Nat) : u32 n = .int .u32 (n : Int) := by unfold u32; rw [forceN_eq]; rfl

theorem plain317 (args : Array Value) (w : World) : (callFunc 317 args).run Tryz.prog w = .ok (.enter 317 args) w := by
  have h1 : Tryz.prog.funcs[317]? = some Tryz.f317 := Tryz.func317
  have h2 : ¬ Tryz.f317.name = "runtime.NumGoroutine" := by
    have : (Tryz.f317.name == "runtime.NumGoroutine") = false := by kernel_rfl
    simpa using this
  have h3 : Tryz.f317.body.isSome = true := by kernel_rfl
  obtain ⟨c, hc⟩ := Option.isSome_iff_exists.1 h3
  simp [callFunc, h1, h2, hc]

theorem ok_inj {w w' : World} (h : (Result.ok () w : Result Unit) = .ok () w') : w = w' := by cases h; rfl

theorem eight_eq {s : S8} {v : Nat → Nat} {ya yb yc yd ye yf yg yh : Nat} (k : ∀ j, j < 8 → S8.at ⟨ya, yb, yc, yd, ye, yf, yg, yh⟩ j = m32 (S8.at s j + v j)) :
    ((List.range 8).map fun j => Value.int .u32 ((m32 (S8.at s j + v j) : Nat) : Int)) = [ya, yb, yc, yd, ye, yf, yg, yh].map fun (n : Nat) => Value.int .u32 (n : Int) := by
  have e : ((List.range 8).map fun j => Value.int .u32 ((m32 (S8.at s j + v j) : Nat) : Int)) = (List.range 8).map fun j => Value.int .u32 ((S8.at ⟨ya, yb, yc, yd, ye, yf, yg, yh⟩ j : Nat) : Int) :=
    List.map_congr_left fun j hj => by rw [k j (List.mem_range.1 hj)]
  rw [e]
  rfl

theorem eight_at {xa xb xc xd xe xf xg xh : Nat} : ∀ j, j < 8 → [xa, xb, xc, xd, xe, xf, xg, xh].getD j 0 = S8.at ⟨xa, xb, xc, xd, xe, xf, xg, xh⟩ j := by
  intro j hj
  match j, hj with
  | 0, _ | 1, _ | 2, _ | 3, _ | 4, _ | 5, _ | 6, _ | 7, _ => rfl

set_option maxHeartbeats 1000000 in
theorem block_special {κ : KM} {W W' : AW} {base : Nat} {w0 w : World} {gl : Nat → Bool} {args args' : List Value} {v : Value} (h : blockB args W = some (v, W')) (R : RW κ W base w0 w) (G : GlR κ gl) (hg : gl 1 = true) (ha : LR κ args args') :
    AppliesTo Tryz.prog (callFunc 317 ⟨args'⟩) w (RetR κ W w base w0 v W') := by
  unfold blockB at h
  split at h
  · rename_i p b o sp n cap
    split at h
    · rename_i bs os hp hn
      rw [Bool.and_eq_true] at hn
      have hn1 := Nat.le_of_ble_eq_true hn.1
      have hn2 := Nat.le_of_ble_eq_true hn.2
      split at h
      · rename_i st by' kl hst hby hkl
        split at h
        · rename_i st bl K est ebl eK
          split at h
          · rename_i hb
            rw [Bool.and_eq_true, Bool.and_eq_true] at hb
            obtain ⟨b1, b2, b3⟩ := hb
            split at h
            · rename_i W2 hS
              cases h
              unfold blockS at hS
              split at hS
              · rename_i xa xb xc xd xe xf xg xh
                split at hS
                · rename_i ya yb yc yd ye yf yg yh hsha
                  -- the arguments
                  obtain rfl := addrOf_some hp
                  obtain ⟨p', r', rfl, hp1, hr⟩ := ha.cons_inv
                  obtain ⟨s', r2, rfl, hs1, hr2⟩ := hr.cons_inv
                  obtain rfl := hr2.nil_inv
                  obtain ⟨q, rfl, -, e, he, rfl⟩ := hp1.ptr_inv
                  obtain ⟨y, c', rfl, g1, g2', g3, g4⟩ := hs1.slice_inv
                  have hc' : c' ≠ 0 := by omega
                  obtain ⟨eb, heb, rfl⟩ := g3.resolve_right hc'
                  obtain ⟨ek, hek, hek1, hek2⟩ := G 1 hg
                  obtain ⟨l1, cst⟩ := int_cells R hst he est
                  obtain ⟨l2, cby⟩ := int_cells R hby heb ebl
                  obtain ⟨l3, cK⟩ := int_cells R hkl hek eK
                  rw [hek1, hek2] at cK
                  have b1' := below_all b1
                  have hs : S8.small ⟨xa, xb, xc, xd, xe, xf, xg, xh⟩ := ⟨b1' _ (by simp), b1' _ (by simp), b1' _ (by simp), b1' _ (by simp), b1' _ (by simp), b1' _ (by simp), b1' _ (by simp), b1' _ (by simp)⟩
                  obtain ⟨ws, vs, HW, HR, HV, HS⟩ := shaBlock_spec2 hsha l3 (below_all b3) l2 (below_all b2) hs
                  -- the store
                  rw [u32_eq, u32_eq, u32_eq, u32_eq, u32_eq, u32_eq, u32_eq, u32_eq] at hS
                  obtain ⟨w1, hrun, R1, F1⟩ := store_cells R hS he (CL_ints κ .u32 [ya, yb, yc, yd, ye, yf, yg, yh]) Tryz.prog
                  obtain ⟨c0, lo, ex, c1, hp', hg0, hlo, -, -, -⟩ := storeAt_some hS
                  obtain ⟨o0, ho0, hO⟩ := R.has bs e he
                  rw [hg0] at ho0
                  cases ho0
                  obtain ⟨cs, el, fr, q1, q2, q3, q4, q5, q6, q7, q8⟩ := hO
                  have hfr : fr = (0, 0) := q6 rfl
                  subst hfr
                  have hfro : ∀ j, w.frozen? ⟨e.blk, e.off + os + j, none⟩ = false := fun j => by simp [World.frozen?, q1]
                  have hstv : stv w e.blk (e.off + os) (S8.at ⟨xa, xb, xc, xd, xe, xf, xg, xh⟩) (vs 64) 8 = w1 := by
                    have hr2 := run_storeCells_setCells Tryz.prog e.blk (e.off + os) ([ya, yb, yc, yd, ye, yf, yg, yh].map fun (n : Nat) => Value.int .u32 (n : Int)) 0 w (by
                      intro v hv
                      obtain ⟨n, _, rfl⟩ := List.mem_map.1 hv
                      rfl) (fun j hj => ⟨_, by rw [Nat.add_zero]; exact cst j (by simpa using hj)⟩) (fun j _ => by rw [Nat.add_zero]; exact hfro j)
                    have hw1 := ok_inj (hr2.symm.trans hrun)
                    rw [← hw1]
                    exact congrArg (World.setCells w e.blk (e.off + os)) (eight_eq HS)
                  have hcall := block_any e.blk (e.off + os) eb.blk (eb.off + o) n c' (fun j => bl.getD j 0) ws (fun j => K.getD j 0) (S8.at ⟨xa, xb, xc, xd, xe, xf, xg, xh⟩) vs HW HR w hn1 (by omega)
                    (fun j hj => by rw [cst j hj, eight_at j hj]) (fun j _ => hfro j) (fun j _ => HV j) (fun j hj => by rw [← cK j hj, Nat.zero_add]) (fun j hj => cby j hj)
                  refine ⟨_, _, plain317 _ _, callsIn_wide.2 (hcall.mono ?_)⟩
                  rintro en w' ⟨rfl, hB⟩
                  have hsz : w1.heap.size = w.heap.size := by rw [← hstv]; exact setCells_size _ _ _ _
                  rw [hstv, ← hsz] at hB
                  exact ⟨κ, .tuple' (.nil κ), RW.below R1 hB, Fw.below F1 hB⟩
                · cases hS
              · cases hS
            · cases h
          · cases h
        · cases h
      · cases h
    · cases h
  · cases h

theorem digits_one : ∀ (n t : Nat) (acc : Array Value), (∀ v ∈ acc, v.oneCell' = true) → ∀ v ∈ Extern.BytealgMakeNoZero.digits n t acc, v.oneCell' = true
  | 0, _, _, h => h
  | n + 1, t, acc, h => digits_one n (t / 256) _ (fun v hv => by
    rcases Array.mem_push.1 hv with h1 | h1
    · exact h v h1
    · subst h1; rfl)

theorem run_noZero {P : Program} (ps : Array TypeId) (t e : TypeId) (ht : P.underlying t = some (.slice e)) (n : Nat) (hn : n ≤ 281474976710656) (w : World) :
    ∃ cs : Array Value, (Extern.BytealgMakeNoZero.makeNoZero ps #[t] #[.int .i64 n]).run P w = .ok (.slice (some ⟨w.heap.size, 0, none⟩) n cs.size) (w.drew.drew.alloc (.cells cs e)) ∧ n ≤ cs.size ∧ ∀ v ∈ cs, v.oneCell' = true := by
  have hdef : Extern.BytealgMakeNoZero.makeNoZero ps #[t] #[.int .i64 n] =
      (do
        let .slice elem ← underlying t | stuck "bytealg.MakeNoZero: slice type expected"
        if (n : Int) < 0 || (n : Int) > 2 ^ 48 then runtimePanic (.error "makeslice: len out of range")
        let cap ← choose (.appendCap (n : Int).toNat 0 elem)
        askRoom cap
        let bytes ← choose (.extern "internal/bytealg.MakeNoZero.bytes" 0)
        let a ← newRow elem (Extern.BytealgMakeNoZero.digits cap bytes #[])
        pure (.slice (some a) (n : Int).toNat cap)) := rfl
  refine ⟨Extern.BytealgMakeNoZero.digits (grownCap w n 0 e) ((Question.extern "internal/bytealg.MakeNoZero.bytes" 0).cut (w.tape (w.drawn + 1) (.extern "internal/bytealg.MakeNoZero.bytes" 0))) #[], ?_, ?_, digits_one _ _ _ (by simp)⟩
  · rw [hdef]
    have h1 : ¬ (n : Int) < 0 := by omega
    have h2 : ¬ (281474976710656 : Int) < (n : Int) := by omega
    simp [run_underlying ht, h1, h2, Question.forced, newRow, Lib.size_digits, grownCap]
  · rw [Lib.size_digits]
    simpa using grownCap_ge w n 0 e

theorem rep_junk (n : Nat) : (List.replicate n [junk]).flatten = List.replicate n junk := by
  induction n with
  | zero => rfl
  | succ n ih => rw [List.replicate_succ, List.flatten_cons, ih]; rfl

theorem noZero_special {κ : KM} {W W' : AW} {base : Nat} {w0 w : World} {args args' : List Value} {v : Value} (h : noZeroA args W = some (v, W')) (R : RW κ W base w0 w) (ha : LR κ args args') :
    AppliesTo Tryz.prog (callFunc 355 ⟨args'⟩) w (RetR κ W w base w0 v W') := by
  unfold noZeroA at h
  split at h
  · rename_i n
    split at h
    · rename_i l hn hl
      have hn' := Nat.le_of_ble_eq_true hn
      rw [repO_eq, rep_junk] at hl
      cases hl
      split at h
      · rename_i b W2 hW
        cases h
        obtain ⟨p', r', rfl, hp1, hr⟩ := ha.cons_inv
        obtain rfl := hr.nil_inv
        obtain rfl := hp1.int_inv
        obtain ⟨cs, hrun, hle, hone⟩ := run_noZero (P := Tryz.prog) #[3] 69 5 (Tryz.underlying69) n (by omega) w
        have hcall : (callFunc 355 #[.int .i64 (n : Int)]).run Tryz.prog w = .ok (.value (.slice (some ⟨w.heap.size, 0, none⟩) n cs.size)) (w.drew.drew.alloc (.cells cs 5)) := by
          rw [run_callFunc_extern Tryz.func355 (by kernel_rfl) (by kernel_rfl) (by kernel_rfl) (e := Extern.BytealgMakeNoZero.makeNoZero #[3] #[69]) (by kernel_rfl), hrun]
          rfl
        have hCL : CL κ (List.replicate n junk) (cs.toList.take n) := by
          refine ⟨⟨by simp; omega, fun i v v' h1 h2 => ?_⟩, fun v' hv' => hone v' (by simpa using List.mem_of_mem_take hv')⟩
          obtain rfl := List.eq_of_mem_replicate (List.mem_of_getElem? h1)
          exact .junk _
        obtain ⟨κ', k1, R1, F1⟩ := new_cells (RW.drew (RW.drew R)) hW (Nat.zero_le _) hCL (cs.toList.drop n) 5
        have hcs : (cs.toList.take n ++ cs.toList.drop n).toArray = cs := by rw [List.take_append_drop]
        rw [hcs] at R1 F1
        have hlen : (cs.toList.take n ++ cs.toList.drop n).length = cs.size := by rw [List.take_append_drop]; simp
        rw [hlen, List.length_replicate] at k1
        refine ⟨_, _, hcall, κ', ?_, R1, Fw.trans (Fw.trans Fw.drew Fw.drew) F1⟩
        refine .slice ⟨b, 0, some 1⟩ ⟨w.heap.size, 0, none⟩ n n cs.size (Nat.le_refl _) hle (.inl ⟨_, k1, rfl⟩) (.inr ⟨1, _, rfl, by decide, k1, by simp, .inr ?_⟩)
        simp
      · cases h
    · cases h
  · cases h

theorem add64_special {κ : KM} {W W' : AW} {base : Nat} {w0 w : World} {args args' : List Value} {v : Value} (h : add64A args W = some (v, W')) (R : RW κ W base w0 w) (ha : LR κ args args') :
    AppliesTo Tryz.prog (callFunc 383 ⟨args'⟩) w (RetR κ W w base w0 v W') := by
  unfold add64A at h
  split at h
  · rename_i x y c
    split at h
    · rename_i hc
      cases h
      have hc' := Nat.le_of_ble_eq_true hc
      obtain ⟨p1, r1, rfl, hp1, hr1⟩ := ha.cons_inv
      obtain ⟨p2, r2, rfl, hp2, hr2⟩ := hr1.cons_inv
      obtain ⟨p3, r3, rfl, hp3, hr3⟩ := hr2.cons_inv
      obtain rfl := hr3.nil_inv
      obtain rfl := hp1.int_inv
      obtain rfl := hp2.int_inv
      obtain rfl := hp3.int_inv
      have hcall : (callFunc 383 #[.int .u64 (x : Int), .int .u64 (y : Int), .int .u64 (c : Int)]).run Tryz.prog w = .ok (.value (.tuple #[.int .u64 (((x + y + c) % 18446744073709551616 : Nat) : Int), .int .u64 (((x + y + c) / 18446744073709551616 : Nat) : Int)])) w := by
        rw [run_callFunc_extern Tryz.func383 (by kernel_rfl) (by kernel_rfl) (by kernel_rfl) (e := fun args => do
          let (x, y, c) ← Extern.MathBitsCarry.three "Add64" args
          pure (Extern.MathBitsCarry.pair ((x + y + c) % Extern.MathBitsCarry.m64) ((x + y + c) / Extern.MathBitsCarry.m64))) (by kernel_rfl)]
        have e3 : Extern.MathBitsCarry.three "Add64" #[.int .u64 (x : Int), .int .u64 (y : Int), .int .u64 (c : Int)] = (do
            let c := (← asInt (.int .u64 (c : Int))).toNat
            if c > 1 then unsupported (.noEntry ("extern/math/bits." ++ "Add64" ++ ": a carry that is neither 0 nor 1"))
            pure ((← asInt (.int .u64 (x : Int))).toNat, (← asInt (.int .u64 (y : Int))).toNat, c)) := rfl
        have h1 : ¬ c > 1 := by omega
        have e4 : (Extern.MathBitsCarry.three "Add64" #[.int .u64 (x : Int), .int .u64 (y : Int), .int .u64 (c : Int)]).run Tryz.prog w = .ok (x, y, c) w := by
          have a1 : ∀ n : Nat, asInt (.int .u64 (n : Int)) = (pure (n : Int) : Sem Int) := fun _ => rfl
          rw [e3]
          simp only [a1, Sem.run_bind, Sem.run_pure, Result.andThen_ok, Int.toNat_natCast, if_neg h1]
        simp only [Sem.run_bind, e4, Result.andThen_ok, Sem.run_pure]
        rfl
      exact ⟨_, _, hcall, κ, .tuple' (.cons (.flat _ rfl) (.cons (.flat _ rfl) (.nil κ))), R, Fw.refl _ _ _⟩
    · cases h
  · cases h
end Go.Proofs.YtciplabieafkcaaGreatDoor
