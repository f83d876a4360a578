/-
  SHA's block: the words.
-/
import Derived.Test.YtciplabieafkcaaGreatDoorShB
import Derived.Test.YtciplabieafkcaaGreatDoorShW
import Derived.StillTailTactics
set_option linter.unusedSimpArgs false
set_option linter.unusedVariables false
namespace Go.Proofs.YtciplabieafkcaaGreatDoor
open Go.RowKit
open Go.Ev (rotr sig0 sig1 sum0 sum1 chF majF m32)

/-- the words of a block -/
structure Words (by' ws : Nat → Nat) : Prop where
  b : ∀ j, by' j < 256
  lo : ∀ t, t < 16 → ws t = by' (4 * t) * 16777216 + by' (4 * t + 1) * 65536 + by' (4 * t + 2) * 256 + by' (4 * t + 3)
  hi : ∀ t, 16 ≤ t → t < 64 → ws t = m32 (ws (t - 16) + sig0 (ws (t - 15)) + ws (t - 7) + sig1 (ws (t - 2)))
  w : ∀ t, ws t < 4294967296

def LoopOne (A : Nat) (w : World) (ws : Nat → Nat) (k : Nat) (wr : World) : Prop :=
  (∀ j, j < 64 → wr.cell? ⟨A, j, none⟩ = some (.int .u32 (if j < k then (ws j : Int) else 0))) ∧ (∀ j, j < 64 → wr.frozen? ⟨A, j, none⟩ = false) ∧ Below A w wr ∧ wr.heap.size = A + 1

theorem LoopOne.start (w : World) (ws : Nat → Nat) (t : TypeId) (c : Array Value) (hc : c = Array.replicate 64 (.int .u32 0)) : LoopOne w.heap.size w ws 0 (w.alloc (.cells c t)) := by
  subst hc
  refine ⟨fun j hj => ?_, fun j hj => ?_, (Below.refl _ _).alloc (Nat.le_refl _) _, by simp⟩
  · rw [World.cell?_alloc_at (hn := rfl)]
    simp [hj]
  · simp

theorem LoopOne.drew {A k : Nat} {w wr : World} {ws : Nat → Nat} (h : LoopOne A w ws k wr) : LoopOne A w ws k wr.drew := ⟨h.1, h.2.1, h.2.2.1.drew, h.2.2.2⟩

theorem LoopOne.step {A k : Nat} {w wr : World} {ws : Nat → Nat} (h : LoopOne A w ws k wr) (hk : k < 64) : LoopOne A w ws (k + 1) (wr.setCell ⟨A, k, none⟩ (.int .u32 (ws k))).drew := by
  obtain ⟨hc, hf, hB, hs⟩ := h
  refine ⟨fun j hj => ?_, fun j hj => ?_, (hB.setCell (Nat.le_refl _) _).drew, by simpa using hs⟩
  · show (wr.setCell ⟨A, k, none⟩ (.int .u32 (ws k))).cell? ⟨A, j, none⟩ = _
    by_cases e : j = k
    · subst e
      rw [World.cell?_setCell_same _ _ _ (hc j hj), if_pos (by omega)]
    · rw [World.cell?_setCell_other _ _ _ _ (by intro h; cases h; exact e rfl), hc j hj]
      by_cases h2 : j < k
      · rw [if_pos h2, if_pos (by omega)]
      · rw [if_neg h2, if_neg (by omega)]
  · show (wr.setCell ⟨A, k, none⟩ (.int .u32 (ws k))).frozen? ⟨A, j, none⟩ = _
    simpa using hf j hj

structure Rounds (K ws : Nat → Nat) (vs : Nat → Nat → Nat) : Prop where
  lt : ∀ k j, vs k j < 4294967296
  k : ∀ j, K j < 4294967296
  s0 : ∀ k, k < 64 → vs (k + 1) 0 = m32 (m32 (vs k 7 + sum1 (vs k 4) + chF (vs k 4) (vs k 5) (vs k 6) + K k + ws k) + m32 (sum0 (vs k 0) + majF (vs k 0) (vs k 1) (vs k 2)))
  s1 : ∀ k, k < 64 → vs (k + 1) 1 = vs k 0
  s2 : ∀ k, k < 64 → vs (k + 1) 2 = vs k 1
  s3 : ∀ k, k < 64 → vs (k + 1) 3 = vs k 2
  s4 : ∀ k, k < 64 → vs (k + 1) 4 = m32 (vs k 3 + m32 (vs k 7 + sum1 (vs k 4) + chF (vs k 4) (vs k 5) (vs k 6) + K k + ws k))
  s5 : ∀ k, k < 64 → vs (k + 1) 5 = vs k 4
  s6 : ∀ k, k < 64 → vs (k + 1) 6 = vs k 5
  s7 : ∀ k, k < 64 → vs (k + 1) 7 = vs k 6

/-- a to h in their eight cells -/
def octet (f : Nat → Nat) : Array Value := #[.int .u32 (f 0), .int .u32 (f 1), .int .u32 (f 2), .int .u32 (f 3), .int .u32 (f 4), .int .u32 (f 5), .int .u32 (f 6), .int .u32 (f 7)]

def LoopTwo (A B : Nat) (w : World) (ws : Nat → Nat) (vs : Nat → Nat → Nat) (k : Nat) (wr : World) : Prop :=
  A < B ∧ (∀ j, j < 64 → wr.cell? ⟨A, j, none⟩ = some (.int .u32 (ws j))) ∧ (∃ t, wr.heap[B]? = some (.cells (octet (vs k)) t (0, 0))) ∧ Below A w wr

theorem LoopTwo.start {A : Nat} {w wr : World} {ws : Nat → Nat} {vs : Nat → Nat → Nat} (h : LoopOne A w ws 64 wr) (t : TypeId) (st : Nat → Nat) (hv : ∀ j, j < 8 → vs 0 j = st j) : LoopTwo A wr.heap.size w ws vs 0 (wr.alloc (.cells (octet st) t)) := by
  obtain ⟨h1, h2, h3, h4⟩ := h
  refine ⟨by omega, fun j hj => ?_, ⟨t, ?_⟩, h3.alloc (by omega) _⟩
  · rw [World.cell?_alloc_past _ _ _ (by show A < wr.heap.size; omega), h1 j hj, if_pos hj]
  · show (wr.heap.push _)[wr.heap.size]? = _
    rw [Array.getElem?_push_size]
    have e : octet st = octet (vs 0) := by simp only [octet]; rw [hv 0, hv 1, hv 2, hv 3, hv 4, hv 5, hv 6, hv 7] <;> omega
    rw [e]

theorem LoopTwo.drew {A B k : Nat} {w wr : World} {ws : Nat → Nat} {vs : Nat → Nat → Nat} (h : LoopTwo A B w ws vs k wr) : LoopTwo A B w ws vs k wr.drew := ⟨h.1, h.2.1, h.2.2.1, h.2.2.2.drew⟩

theorem LoopTwo.vcell {A B k : Nat} {w wr : World} {ws : Nat → Nat} {vs : Nat → Nat → Nat} (h : LoopTwo A B w ws vs k wr) (j : Nat) (hj : j < 8) : wr.cell? ⟨B, j, none⟩ = some (.int .u32 (vs k j)) := by
  obtain ⟨t, ht⟩ := h.2.2.1
  simp only [World.cell?, ht]
  match j, hj with
  | 0, _ | 1, _ | 2, _ | 3, _ | 4, _ | 5, _ | 6, _ | 7, _ => rfl

theorem LoopTwo.vfree {A B k : Nat} {w wr : World} {ws : Nat → Nat} {vs : Nat → Nat → Nat} (h : LoopTwo A B w ws vs k wr) (j : Nat) (hj : j < 8) : wr.frozen? ⟨B, j, none⟩ = false := by
  obtain ⟨t, ht⟩ := h.2.2.1
  simp [World.frozen?, ht]

theorem LoopTwo.step {A B k : Nat} {w wr : World} {ws : Nat → Nat} {vs : Nat → Nat → Nat} (h : LoopTwo A B w ws vs k wr) : LoopTwo A B w ws vs (k + 1) (wr.setRow B (octet (vs (k + 1)))) := by
  obtain ⟨h0, h1, ⟨t, ht⟩, hB⟩ := h
  have hne : ∀ b, b ≠ B → (wr.setRow B (octet (vs (k + 1)))).heap[b]? = wr.heap[b]? := fun b hb => by
    unfold World.setRow
    simp only [Array.getElem?_modify]
    rw [if_neg (by omega)]
  refine ⟨h0, fun j hj => ?_, ⟨t, setRow_heap wr B _ _ t _ ht⟩, hB.trans ⟨rfl, rfl, rfl, by simp [World.setRow], fun b hb => hne b (by omega)⟩⟩
  rw [World.cell?_of_block (w := wr) (hne A (by omega))]
  exact h1 j hj

theorem octet_step {K ws : Nat → Nat} {vs : Nat → Nat → Nat} (R : Rounds K ws vs) {k one : Nat} (hk : k < 64) (hone : m32 (vs k 7 + sum1 (vs k 4) + chF (vs k 4) (vs k 5) (vs k 6) + K k + ws k) = one) :
    (#[(.int .u32 ((((one : Nat) : Int) + (bits .xor .u32 (bits .xor .u32 ((rotr (vs k 0) 2 : Nat) : Int) ((rotr (vs k 0) 13 : Nat) : Int)) ((rotr (vs k 0) 22 : Nat) : Int) + bits .xor .u32 (bits .xor .u32 (bits .and .u32 (vs k 0 : Int) (vs k 1 : Int)) (bits .and .u32 (vs k 0 : Int) (vs k 2 : Int))) (bits .and .u32 (vs k 1 : Int) (vs k 2 : Int)))) % 4294967296)), .int .u32 (vs k 0 : Int), .int .u32 (vs k 1 : Int), .int .u32 (vs k 2 : Int), .int .u32 (((vs k 3 : Int) + ((one : Nat) : Int)) % 4294967296), .int .u32 (vs k 4 : Int), .int .u32 (vs k 5 : Int), .int .u32 (vs k 6 : Int)] : Array Value) = octet (vs (k + 1)) := by
  rw [sum0_val _ (R.lt k 0), maj_val _ _ _ (R.lt k 0) (R.lt k 1) (R.lt k 2)]
  simp only [octet]
  rw [R.s0 k hk, R.s1 k hk, R.s2 k hk, R.s3 k hk, R.s4 k hk, R.s5 k hk, R.s6 k hk, R.s7 k hk, hone, two_mod, add_mod]

def stv (w : World) (bs os : Nat) (st v : Nat → Nat) (k : Nat) : World := w.setCells bs os ((List.range k).map fun j => .int .u32 ((m32 (st j + v j) : Nat) : Int))

def LoopThree (A B : Nat) (w : World) (bs os : Nat) (st v : Nat → Nat) (k : Nat) (wr : World) : Prop :=
  A < B ∧ (∀ j, j < 8 → wr.cell? ⟨B, j, none⟩ = some (.int .u32 (v j))) ∧ Below A (stv w bs os st v k) wr

theorem LoopThree.start {A B : Nat} {w wr : World} {bs os : Nat} {st : Nat → Nat} {ws : Nat → Nat} {vs : Nat → Nat → Nat} (h : LoopTwo A B w ws vs 64 wr) : LoopThree A B w bs os st (vs 64) 0 wr :=
  ⟨h.1, fun j hj => h.vcell j hj, h.2.2.2⟩

theorem stv_cell (w : World) (bs os : Nat) (st v : Nat → Nat) (k j : Nat) (h : k ≤ j) : (stv w bs os st v k).cell? ⟨bs, os + j, none⟩ = w.cell? ⟨bs, os + j, none⟩ :=
  World.cell?_setCells_out bs _ os w _ (fun _ _ => .inr (by simp; omega))

theorem setCells_frozen (b : Nat) : ∀ (vs : List Value) (o : Nat) (w : World) (x : Addr), (w.setCells b o vs).frozen? x = w.frozen? x
  | [], _, _, _ => rfl
  | v :: r, o, w, x => by
    rw [World.setCells, setCells_frozen b r (o + 1) _ x]
    simp

theorem LoopThree.scell {A B : Nat} {w wr : World} {bs os : Nat} {st v : Nat → Nat} {k : Nat} (h : LoopThree A B w bs os st v k wr) (hb : bs < A) (hst : ∀ j, j < 8 → w.cell? ⟨bs, os + j, none⟩ = some (.int .u32 (st j))) (hk : k < 8) : wr.cell? ⟨bs, os + k, none⟩ = some (.int .u32 (st k)) := by
  rw [h.2.2.cell hb, stv_cell w bs os st v k k (Nat.le_refl _), hst k hk]

theorem LoopThree.sfree {A B : Nat} {w wr : World} {bs os : Nat} {st v : Nat → Nat} {k : Nat} (h : LoopThree A B w bs os st v k wr) (hb : bs < A) (hsf : ∀ j, j < 8 → w.frozen? ⟨bs, os + j, none⟩ = false) (hk : k < 8) : wr.frozen? ⟨bs, os + k, none⟩ = false := by
  rw [h.2.2.frozen hb]
  unfold stv
  rw [setCells_frozen, hsf k hk]

theorem setCells_append (b : Nat) : ∀ (l m : List Value) (o : Nat) (w : World), w.setCells b o (l ++ m) = (w.setCells b o l).setCells b (o + l.length) m
  | [], m, o, w => rfl
  | v :: r, m, o, w => by
    rw [List.cons_append, World.setCells, setCells_append b r m (o + 1), World.setCells, List.length_cons, show o + 1 + r.length = o + (r.length + 1) by omega]

theorem stv_succ (w : World) (bs os : Nat) (st v : Nat → Nat) (k : Nat) : stv w bs os st v (k + 1) = (stv w bs os st v k).setCell ⟨bs, os + k, none⟩ (.int .u32 ((m32 (st k + v k) : Nat) : Int)) := by
  unfold stv
  rw [List.range_succ, List.map_append, setCells_append]
  simp [World.setCells]

theorem below_setBoth {A : Nat} {w wr : World} (h : Below A w wr) (a : Addr) (x : Value) : Below A (w.setCell a x) (wr.setCell a x) := by
  refine ⟨h.os, h.tape, h.output, by simpa [World.setCell] using h.size, fun b hb => ?_⟩
  simp only [World.setCell, Array.getElem?_modify]
  rw [h.block b hb]

theorem LoopThree.step {A B : Nat} {w wr : World} {bs os : Nat} {st v : Nat → Nat} {k : Nat} (h : LoopThree A B w bs os st v k wr) (hb : bs < A) : LoopThree A B w bs os st v (k + 1) (wr.setCell ⟨bs, os + k, none⟩ (.int .u32 ((m32 (st k + v k) : Nat) : Int))).drew := by
  obtain ⟨h0, h1, h2⟩ := h
  refine ⟨h0, fun j hj => ?_, ?_⟩
  · show (wr.setCell ⟨bs, os + k, none⟩ _).cell? ⟨B, j, none⟩ = _
    rw [World.cell?_setCell_other _ _ _ _ (by intro e; cases e; omega), h1 j hj]
  · rw [stv_succ]
    exact (below_setBoth h2 _ _).drew

set_option maxHeartbeats 4000000 in
set_option maxRecDepth 100000 in
theorem block_any (bs os b o n cap : Nat) (by' ws K st : Nat → Nat) (vs : Nat → Nat → Nat) (H : Words by' ws) (R : Rounds K ws vs) (w : World) (hn : 64 ≤ n) (hcap : n ≤ 9223372036854775807)
    (hst : ∀ j, j < 8 → w.cell? ⟨bs, os + j, none⟩ = some (.int .u32 (st j))) (hsf : ∀ j, j < 8 → w.frozen? ⟨bs, os + j, none⟩ = false) (hv0 : ∀ j, j < 8 → vs 0 j = st j)
    (hK : ∀ j, j < 64 → w.cell? ⟨1, j, none⟩ = some (.int .u32 (K j)))
    (hby : ∀ j, j < 64 → w.cell? ⟨b, o + j, none⟩ = some (.int .u8 (by' j))) :
    Calls Tryz.prog 317 #[.pointer (some ⟨bs, os, none⟩), .slice (some ⟨b, o, none⟩) n cap] w fun e w' => e = .returned (.tuple #[]) ∧ Below w.heap.size (stv w bs os st (vs 64) 8) w' := by
  have hbsA : bs < w.heap.size := World.block_lt_of_cell? w _ (hst 0 (by omega))
  have hKA : 1 < w.heap.size := World.block_lt_of_cell? w _ (hK 0 (by omega))
  go_enter Tryz.func317, Tryz.ntmps317
  go_wp2
  go_loopw [19] (fun i wr => ∃ k : Nat, k ≤ 64 ∧ i = .int .i64 k ∧ LoopOne w.heap.size w ws k wr) (fun i _ => 64 - (intOf i).toNat)
  case atStart => exact ⟨0, by omega, rfl, LoopOne.start w ws _ _ rfl⟩
  case round =>
    obtain ⟨k, hk, rfl, hL⟩ := hrel
    by_cases hk64 : k < 64
    · by_cases hk16 : k < 16
      · have b0 := hby (4 * k) (by omega)
        have b1 := hby (4 * k + 1) (by omega)
        have b2 := hby (4 * k + 2) (by omega)
        have b3 := hby (4 * k + 3) (by omega)
        have hbA : b < w.heap.size := World.block_lt_of_cell? w _ b0
        have HL := Lib.hid hL
        obtain ⟨hc, hf, hB, hs⟩ := hL
        have c0 := (hB.cell (p := ⟨b, o + 4 * k, none⟩) hbA).trans b0
        have c1 := (hB.cell (p := ⟨b, o + (4 * k + 1), none⟩) hbA).trans b1
        have c2 := (hB.cell (p := ⟨b, o + (4 * k + 2), none⟩) hbA).trans b2
        have c3 := (hB.cell (p := ⟨b, o + (4 * k + 3), none⟩) hbA).trans b3
        have cA := hc k (by omega)
        have fA := hf k (by omega)
        have e0 : (4 * (k : Int)).toNat = 4 * k := by omega
        have e1 : (4 * (k : Int) + 1).toNat = 4 * k + 1 := by omega
        have e2 : (4 * (k : Int) + 2).toNat = 4 * k + 2 := by omega
        have e3 : (4 * (k : Int) + 3).toNat = 4 * k + 3 := by omega
        have l0 : 4 * (k : Int) < (n : Int) := by omega
        have l1 : 4 * (k : Int) + 1 < (n : Int) := by omega
        have l2 : 4 * (k : Int) + 2 < (n : Int) := by omega
        have l3 : 4 * (k : Int) + 3 < (n : Int) := by omega
        have p0 : 0 ≤ 4 * (k : Int) := by omega
        have p1 : 0 ≤ 4 * (k : Int) + 1 := by omega
        have p2 : 0 ≤ 4 * (k : Int) + 2 := by omega
        have p3 : 0 ≤ 4 * (k : Int) + 3 := by omega
        have q0 := H.b (4 * k)
        have q1 := H.b (4 * k + 1)
        have q2 := H.b (4 * k + 2)
        have q3 := H.b (4 * k + 3)
        have w0 : IntKind.i64.wrap (4 * (k : Int)) = 4 * (k : Int) := IntWalk.i64_in _ (by omega)
        have w1 : IntKind.i64.wrap (4 * (k : Int) + 1) = 4 * (k : Int) + 1 := IntWalk.i64_in _ (by omega)
        have w2 : IntKind.i64.wrap (4 * (k : Int) + 2) = 4 * (k : Int) + 2 := IntWalk.i64_in _ (by omega)
        have w3 : IntKind.i64.wrap (4 * (k : Int) + 3) = 4 * (k : Int) + 3 := IntWalk.i64_in _ (by omega)
        clear b0 b1 b2 b3 hby hc hf hB hs
        go_wp2
        refine wp_region_still_tail 35 (by kernel_rfl) (by kernel_rfl) ?_
        simp only [List.take_succ_cons, List.take_zero, List.drop_succ_cons, List.drop_zero]
        repeat still_step
        refine wpStill_nil ?_
        change wpList _ _ _ _ _ wr.drew
        go_wp2
        go_roundw
        case measure => simp [intOf]; omega
        case rel => exact ⟨k + 1, by omega, by go_num, by rw [word_val _ _ _ _ q0 q1 q2 q3, ← H.lo k hk16]; exact HL.out.step hk64⟩
      · have HL := Lib.hid hL
        obtain ⟨hc, hf, hB, hs⟩ := hL
        have cA := hc k (by omega)
        have fA := hf k (by omega)
        have c2 := hc (k - 2) (by omega)
        have c7 := hc (k - 7) (by omega)
        have c15 := hc (k - 15) (by omega)
        have c16 := hc (k - 16) (by omega)
        rw [if_pos (by omega)] at c2 c7 c15 c16
        have e2 : ((k : Int) - 2).toNat = k - 2 := by omega
        have e7 : ((k : Int) - 7).toNat = k - 7 := by omega
        have e15 : ((k : Int) - 15).toNat = k - 15 := by omega
        have e16 : ((k : Int) - 16).toNat = k - 16 := by omega
        have l2 : (k : Int) - 2 < 64 := by omega
        have l7 : (k : Int) - 7 < 64 := by omega
        have l15 : (k : Int) - 15 < 64 := by omega
        have l16 : (k : Int) - 16 < 64 := by omega
        have p2 : (2 : Int) ≤ k := by omega
        have p7 : (7 : Int) ≤ k := by omega
        have p15 : (15 : Int) ≤ k := by omega
        have p16 : (16 : Int) ≤ k := by omega
        have w2 : IntKind.i64.wrap ((k : Int) - 2) = (k : Int) - 2 := IntWalk.i64_in _ (by omega)
        have w7 : IntKind.i64.wrap ((k : Int) - 7) = (k : Int) - 7 := IntWalk.i64_in _ (by omega)
        have w15 : IntKind.i64.wrap ((k : Int) - 15) = (k : Int) - 15 := IntWalk.i64_in _ (by omega)
        have w16 : IntKind.i64.wrap ((k : Int) - 16) = (k : Int) - 16 := IntWalk.i64_in _ (by omega)
        have hd16 : decide ((k : Int) < 16) = false := by simp; omega
        have q2 := H.w (k - 2)
        have q15 := H.w (k - 15)
        clear hby hc hf hB hs
        go_wp2
        refine wp_region_still_lit (by kernel_rfl) (by kernel_rfl) ?_
        repeat still_step
        refine wpStill_nil ?_
        change Exit.then _ _ _ _ wr.drew
        generalize hw1 : wr.drew = w1
        have cA' : w1.cell? ⟨w.heap.size, k, none⟩ = some (.int .u32 (if k < k then (ws k : Int) else 0)) := by rw [← hw1]; exact cA
        have fA' : w1.frozen? ⟨w.heap.size, k, none⟩ = false := by rw [← hw1]; exact fA
        have c2' : w1.cell? ⟨w.heap.size, k - 2, none⟩ = some (.int .u32 (ws (k - 2))) := by rw [← hw1]; exact c2
        have c7' : w1.cell? ⟨w.heap.size, k - 7, none⟩ = some (.int .u32 (ws (k - 7))) := by rw [← hw1]; exact c7
        have c15' : w1.cell? ⟨w.heap.size, k - 15, none⟩ = some (.int .u32 (ws (k - 15))) := by rw [← hw1]; exact c15
        have c16' : w1.cell? ⟨w.heap.size, k - 16, none⟩ = some (.int .u32 (ws (k - 16))) := by rw [← hw1]; exact c16
        have HL1 : Hid (LoopOne w.heap.size w ws k w1) := Lib.hid (by rw [← hw1]; exact HL.out.drew)
        clear hw1 cA fA c2 c7 c15 c16 HL
        go_wp2
        refine wp_region_still_tail 29 (by kernel_rfl) (by kernel_rfl) ?_
        simp only [List.take_succ_cons, List.take_zero, List.drop_succ_cons, List.drop_zero]
        iterate 6 still_step
        still_call (turn_7 _ q15 _)
        still_step
        still_call (turn_18 _ q15 _)
        iterate 11 still_step
        still_call (turn_17 _ q2 _)
        still_step
        still_call (turn_19 _ q2 _)
        repeat still_step
        refine wpStill_nil ?_
        change wpList _ _ _ _ _ w1.drew
        go_wp2
        go_roundw
        case measure => simp [intOf]; omega
        case rel =>
          exact ⟨k + 1, by omega, by go_num, by rw [sig0_val _ q15, sig1_val _ q2, sched_mod, ← H.hi k (by omega) hk64]; exact HL1.out.step hk64⟩
    · obtain rfl : k = 64 := by omega
      have s0 := (hL.2.2.1.cell (p := ⟨bs, os + 0, none⟩) hbsA).trans (hst 0 (by omega))
      have s1 := (hL.2.2.1.cell (p := ⟨bs, os + 1, none⟩) hbsA).trans (hst 1 (by omega))
      have s2 := (hL.2.2.1.cell (p := ⟨bs, os + 2, none⟩) hbsA).trans (hst 2 (by omega))
      have s3 := (hL.2.2.1.cell (p := ⟨bs, os + 3, none⟩) hbsA).trans (hst 3 (by omega))
      have s4 := (hL.2.2.1.cell (p := ⟨bs, os + 4, none⟩) hbsA).trans (hst 4 (by omega))
      have s5 := (hL.2.2.1.cell (p := ⟨bs, os + 5, none⟩) hbsA).trans (hst 5 (by omega))
      have s6 := (hL.2.2.1.cell (p := ⟨bs, os + 6, none⟩) hbsA).trans (hst 6 (by omega))
      have s7 := (hL.2.2.1.cell (p := ⟨bs, os + 7, none⟩) hbsA).trans (hst 7 (by omega))
      rw [Nat.add_zero] at s0
      have HL := Lib.hid hL
      have HK := Lib.hid hK
      have Hst := Lib.hid hst
      have Hsf := Lib.hid hsf
      have Hv0 := Lib.hid hv0
      clear hL hK hst hsf hv0 hby
      rw [show ((64 : Nat) : Int) = 64 from rfl]
      go_wp2
      obtain ⟨wo, rfl⟩ : ∃ wo : World, wo = wr := ⟨_, rfl⟩
      clear s0 s1 s2 s3 s4 s5 s6 s7
      go_loopw [100] (fun i wr => ∃ k : Nat, k ≤ 64 ∧ i = .int .i64 k ∧ LoopTwo w.heap.size wo.heap.size w ws vs k wr) (fun i _ => 64 - (intOf i).toNat)
      case atStart => exact ⟨0, by omega, rfl, LoopTwo.start HL.out _ st Hv0.out⟩
      case round =>
        obtain ⟨k, hk, rfl, hL⟩ := hrel
        by_cases hk64 : k < 64
        · have HL2 := Lib.hid hL
          have v0 := hL.vcell 0 (by omega)
          have v1 := hL.vcell 1 (by omega)
          have v2 := hL.vcell 2 (by omega)
          have v3 := hL.vcell 3 (by omega)
          have v4 := hL.vcell 4 (by omega)
          have v5 := hL.vcell 5 (by omega)
          have v6 := hL.vcell 6 (by omega)
          have v7 := hL.vcell 7 (by omega)
          have wk := hL.2.1 k hk64
          have kk := (hL.2.2.2.cell (p := ⟨1, k, none⟩) hKA).trans (HK.out k hk64)
          have q0 := R.lt k 0
          have q4 := R.lt k 4
          clear hL HL
          go_wp2
          refine wp_region_still_lit (by kernel_rfl) (by kernel_rfl) ?_
          repeat still_step
          refine wpStill_nil ?_
          change Exit.then _ _ _ _ wr.drew
          generalize hw1 : wr.drew = w1
          have v3' : w1.cell? ⟨wo.heap.size, 3, none⟩ = some (.int .u32 (vs k 3)) := by rw [← hw1]; exact v3
          have v7' : w1.cell? ⟨wo.heap.size, 7, none⟩ = some (.int .u32 (vs k 7)) := by rw [← hw1]; exact v7
          have wk' : w1.cell? ⟨w.heap.size, k, none⟩ = some (.int .u32 (ws k)) := by rw [← hw1]; exact wk
          have kk' : w1.cell? ⟨1, k, none⟩ = some (.int .u32 (K k)) := by rw [← hw1]; exact kk
          have HL3 : Hid (LoopTwo w.heap.size wo.heap.size w ws vs k w1) := Lib.hid (by rw [← hw1]; exact HL2.out.drew)
          clear hw1 v0 v1 v2 v3 v4 v5 v6 v7 wk kk HL2
          go_wp2
          refine wp_region_still_lit (by kernel_rfl) (by kernel_rfl) ?_
          iterate 3 still_step
          still_call (turn_6 _ q4 _)
          still_step
          still_call (turn_11 _ q4 _)
          iterate 2 still_step
          still_call (turn_25 _ q4 _)
          repeat still_step
          refine wpStill_nil ?_
          change Exit.then _ _ _ _ w1.drew
          rw [sum1_val _ q4, ch_val _ _ _ q4 (R.lt k 5) (R.lt k 6), one_val]
          generalize hone : m32 (vs k 7 + sum1 (vs k 4) + chF (vs k 4) (vs k 5) (vs k 6) + K k + ws k) = one
          have Hone := Lib.hid hone
          clear hone v7' wk' kk'
          generalize hw2 : w1.drew = w2
          have HL4 : Hid (LoopTwo w.heap.size wo.heap.size w ws vs k w2) := Lib.hid (by rw [← hw2]; exact HL3.out.drew)
          clear hw2 v3' HL3
          have v3'' := HL4.out.vcell 3 (by omega)
          obtain ⟨tB, htB⟩ := HL4.out.2.2.1
          have HtB := Lib.hid htB
          clear htB
          go_wp2_with fail
          refine (turn_2 _ q0 _).mono ?_; rintro e w' ⟨rfl, rfl⟩
          go_wp2_with fail
          refine (turn_13 _ q0 _).mono ?_; rintro e w' ⟨rfl, rfl⟩
          go_wp2_with fail
          refine (turn_22 _ q0 _).mono ?_; rintro e w' ⟨rfl, rfl⟩
          go_wp2_with (refine wpList_store_row rfl 499 (.tmp 8) (.tmp 176) rfl wo.heap.size #[(.int .u32 ((((one : Nat) : Int) + (bits .xor .u32 (bits .xor .u32 ((rotr (vs k 0) 2 : Nat) : Int) ((rotr (vs k 0) 13 : Nat) : Int)) ((rotr (vs k 0) 22 : Nat) : Int) + bits .xor .u32 (bits .xor .u32 (bits .and .u32 (vs k 0 : Int) (vs k 1 : Int)) (bits .and .u32 (vs k 0 : Int) (vs k 2 : Int))) (bits .and .u32 (vs k 1 : Int) (vs k 2 : Int)))) % 4294967296)), .int .u32 (vs k 0 : Int), .int .u32 (vs k 1 : Int), .int .u32 (vs k 2 : Int), .int .u32 (((vs k 3 : Int) + ((one : Nat) : Int)) % 4294967296), .int .u32 (vs k 4 : Int), .int .u32 (vs k 5 : Int), .int .u32 (vs k 6 : Int)] rfl rfl tB _ HtB.out (by kernel_rfl) (by rfl) (by simp [Value.oneCell']) ?_)
          go_roundw
          case measure => simp [intOf]; omega
          case rel => exact ⟨k + 1, by omega, by go_num, by rw [octet_step R hk64 Hone.out]; exact HL4.out.step⟩
        · obtain rfl : k = 64 := by omega
          have HL2 := Lib.hid hL
          clear hL HL
          rw [show ((64 : Nat) : Int) = 64 from rfl]
          go_wp2
          obtain ⟨w3, rfl⟩ : ∃ w3 : World, w3 = wr := ⟨_, rfl⟩
          go_loopw [178] (fun i wr => ∃ k : Nat, k ≤ 8 ∧ i = .int .i64 k ∧ LoopThree w.heap.size wo.heap.size w bs os st (vs 64) k wr) (fun i _ => 8 - (intOf i).toNat)
          case atStart => exact ⟨0, by omega, rfl, LoopThree.start HL2.out⟩
          case round =>
            obtain ⟨k, hk, rfl, hL⟩ := hrel
            by_cases hk8 : k < 8
            · have HL3 := Lib.hid hL
              have cs := LoopThree.scell hL hbsA Hst.out hk8
              have fs := LoopThree.sfree hL hbsA Hsf.out hk8
              have cv := hL.2.1 k hk8
              clear hL HL2
              go_wp2
              refine wp_region_still_tail 11 (by kernel_rfl) (by kernel_rfl) ?_
              simp only [List.take_succ_cons, List.take_zero, List.drop_succ_cons, List.drop_zero]
              repeat still_step
              refine wpStill_nil ?_
              change wpList _ _ _ _ _ wr.drew
              go_wp2
              go_roundw
              case measure => simp [intOf]; omega
              case rel => exact ⟨k + 1, by omega, by go_num, by rw [add_mod]; exact HL3.out.step hbsA⟩
            · obtain rfl : k = 8 := by omega
              go_wp2
              go_end0
              exact ⟨rfl, hL.2.2⟩
end Go.Proofs.YtciplabieafkcaaGreatDoor
