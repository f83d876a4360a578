/-
  The evaluator in small pieces, by recursors: the kernel reckons it with still less memory. That it is the same is proved.
-/
import Derived.Test.YtciplabieafkcaaGreatDoorEvFasN
set_option linter.unusedSimpArgs false
set_option linter.unusedVariables false
namespace Go.Ev
noncomputable section

abbrev EV := Task → AF → AW → Option Ans
abbrev HF := Program → Orc → EV → (Operand → Value) → AW → Option (Value × AW)

def o_stillR (v : Option Value) (w : AW) : Option (Value × AW) := Option.rec (motive := fun _ => Option (Value × AW)) none (fun v => some (v, w)) v
theorem o_stillR_eq (v : Option Value) (w : AW) : o_stillR v w = o_still v w := by cases v <;> rfl

def h_none : HF := fun _ _ _ _ _ => none
def r_call (c : Call) : HF := fun P orc ev ρ w => match c.callee with
  | .value _ => o_callee ev (calleeA orc.meth c ρ) w
  | .invoke _ _ => o_callee ev (calleeA orc.meth c ρ) w
  | .builtin b => match b with
    | .len => o_stillR (s_len P ρ c.args c.argTypes) w
    | .min => o_stillR (s_min ρ c.args) w
    | .max => o_stillR (s_max ρ c.args) w
    | .append => e_append P c.args c.argTypes ρ w
    | .copy => e_copy P c.args c.argTypes ρ w
    | .clear => e_clear P c.args c.argTypes ρ w
    | _ => none
def h_move (x : Operand) : HF := fun P orc ev ρ w => some (ρ x, w)
def h_assign (x : Operand) : HF := fun P orc ev ρ w => some (ρ x, w)
def h_pick (c a b : Operand) : HF := fun P orc ev ρ w => o_stillR (s_pick ρ c a b) w
def h_alloc (t : TypeId) : HF := fun P orc ev ρ w => o_float (fl_alloc P t) w
def h_box (t : TypeId) (x : Operand) : HF := fun P orc ev ρ w => o_float (fl_box (ρ x)) w
def h_build (t : TypeId) (ps : Array (Nat × Operand)) : HF := fun P orc ev ρ w => o_stillR (buildA P t ps ρ) w
def h_buildSlice (t : TypeId) (n : Nat) (ps : Array (Nat × Operand)) : HF := fun P orc ev ρ w => o_float (fl_row P t n ps ρ) w
def h_load (t : TypeId) (a : Operand) : HF := fun P orc ev ρ w => o_stillR (loadA P t (ρ a) w) w
def h_store (t : TypeId) (a v : Operand) : HF := fun P orc ev ρ w => e_store P t (ρ a) (ρ v) w
def h_nilCheck (x : Operand) : HF := fun P orc ev ρ w => o_stillR (s_nil (ρ x)) w
def h_binOp (op : BinOp) (t : TypeId) (x y : Operand) (yt : TypeId) : HF := fun P orc ev ρ w => o_stillR (binZ P op t (ρ x) (ρ y) (isConstO x || isConstO y)) w
def h_unOp (op : UnOp) (t : TypeId) (x : Operand) : HF := fun P orc ev ρ w => o_stillR (s_un P op (ρ x)) w
def h_convert (s d : TypeId) (x : Operand) : HF := fun P orc ev ρ w => o_stillR (convZ P s d (ρ x)) w
def h_makeInterface (t : TypeId) (x : Operand) : HF := fun P orc ev ρ w => o_stillR (s_iface P t (ρ x)) w
def h_makeFunc (fn : Fn) (first cap : Array Operand) : HF := fun P orc ev ρ w => o_stillR (s_func ρ fn first cap) w
def h_makeMap (t : TypeId) (r : Option Operand) : HF := fun P orc ev ρ w => e_make r w
def h_makeSlice (t : TypeId) (l c : Operand) : HF := fun P orc ev ρ w => o_float (fl_make P t (ρ l) (ρ c)) w
def h_slice (t : TypeId) (x : Operand) (lo hi mx : Option Operand) : HF := fun P orc ev ρ w => o_stillR (sliceA P t (ρ x) (mapO ρ lo) (mapO ρ hi) (mapO ρ mx)) w
def h_fieldAddr (t : TypeId) (x : Operand) (f : Nat) : HF := fun P orc ev ρ w => o_stillR (s_faddr P t (ρ x) f) w
def h_field (t : TypeId) (x : Operand) (f : Nat) : HF := fun P orc ev ρ w => o_stillR (s_field P t (ρ x) f) w
def h_indexAddr (t : TypeId) (x i : Operand) : HF := fun P orc ev ρ w => o_stillR (indexAddrA P t (ρ x) (ρ i)) w
def h_index (t : TypeId) (x i : Operand) : HF := fun P orc ev ρ w => o_stillR (s_index P t (ρ x) (ρ i)) w
def h_lookup (t : TypeId) (x i : Operand) (ok : Bool) : HF := fun P orc ev ρ w => o_stillR (r_lookup P t (ρ x) (ρ i) ok w) w
def h_mapUpdate (t : TypeId) (m k v : Operand) : HF := fun P orc ev ρ w => e_update P t (ρ m) (ρ k) (ρ v) w
def h_typeAssert (x : Operand) (xt t : TypeId) (ok : Bool) : HF := fun P orc ev ρ w => o_stillR (s_assert P (ρ x) t ok) w
def h_extract (x : Operand) (i : Nat) : HF := fun P orc ev ρ w => o_stillR (s_extract (ρ x) i) w
def opZ : Op → HF := Op.rec (motive := fun _ => HF)
  (fun x => h_move x)
  (fun x => h_assign x)
  (fun c a b => h_pick c a b)
  (fun t => h_alloc t)
  (fun t x => h_box t x)
  (fun t ps => h_build t ps)
  (fun t n ps => h_buildSlice t n ps)
  (fun _ _ _ _ => h_none)
  (fun t a => h_load t a)
  (fun t a v => h_store t a v)
  (fun _ => h_none)
  (fun _ => h_none)
  (fun x => h_nilCheck x)
  (fun op t x y yt => h_binOp op t x y yt)
  (fun op t x => h_unOp op t x)
  (fun s d x => h_convert s d x)
  (fun _ _ => h_none)
  (fun t x => h_makeInterface t x)
  (fun fn first cap => h_makeFunc fn first cap)
  (fun t r => h_makeMap t r)
  (fun _ _ => h_none)
  (fun t l c => h_makeSlice t l c)
  (fun t x lo hi mx => h_slice t x lo hi mx)
  (fun t x f => h_fieldAddr t x f)
  (fun t x f => h_field t x f)
  (fun t x i => h_indexAddr t x i)
  (fun t x i => h_index t x i)
  (fun t x i ok => h_lookup t x i ok)
  (fun t m k v => h_mapUpdate t m k v)
  (fun _ _ _ => h_none)
  (fun _ _ _ _ => h_none)
  (fun _ _ => h_none)
  (fun _ _ => h_none)
  (fun _ => h_none)
  (fun x xt t ok => h_typeAssert x xt t ok)
  (fun x i => h_extract x i)
  (fun c => r_call c)
  (fun _ => h_none)
  (fun _ => h_none)
  (fun _ => h_none)
  (fun _ _ => h_none)
  (fun _ _ _ => h_none)
  (fun _ _ => h_none)

theorem opZ_eq (P : Program) (orc : Orc) (ev : EV) (o : Oper) (a : AF) (w : AW) : opZ o.op P orc ev (f_eval orc.gl a) w = opA P orc ev o a w := by
  rw [← f_op_eq]
  generalize f_eval orc.gl a = ρ
  obtain ⟨dst, op, ty, pos, after, guard⟩ := o
  cases op <;> try rfl
  all_goals first
    | exact o_stillR_eq _ _
    | skip
  case convert s d x =>
    show o_stillR (convZ P s d (ρ x)) w = o_still (s_conv P s d (ρ x)) w
    rw [convZ_eq, o_stillR_eq]
  case binOp op t x y yt =>
    show o_stillR (binZ P op t (ρ x) (ρ y) (isConstO x || isConstO y)) w = o_still (binA P op t (ρ x) (ρ y) (isConstO x || isConstO y)) w
    rw [binZ_eq, o_stillR_eq]
  case call c =>
    obtain ⟨callee, args, at0⟩ := c
    cases callee with
    | value f => rfl
    | invoke r n => rfl
    | builtin b => cases b <;> first | rfl | exact o_stillR_eq _ _

/-! ### the steps -/
def putZ (a : AF) (dst : Option Tmp) (v : Value) : Option AF :=
  Option.rec (motive := fun _ => Option AF) (some a) (fun d => AF.rec (motive := fun _ => Option AF) (fun tmps nt ds fn rnd => Bool.rec (motive := fun _ => Option AF) none (Option.rec (motive := fun _ => Option AF) none (fun t => some ⟨t, nt, ds, fn, rnd⟩) (tmps.put v d)) (Nat.blt d nt)) a) dst
theorem putZ_eq (a : AF) (dst : Option Tmp) (v : Value) : putZ a dst v = a.putd dst v := by
  cases dst with
  | none => rfl
  | some d =>
    obtain ⟨tmps, nt, ds, fn, rnd⟩ := a
    show Bool.rec (motive := fun _ => Option AF) none (Option.rec (motive := fun _ => Option AF) none (fun t => some ⟨t, nt, ds, fn, rnd⟩) (tmps.put v d)) (Nat.blt d nt) = AF.put ⟨tmps, nt, ds, fn, rnd⟩ d v
    unfold AF.put
    simp only
    cases Nat.blt d nt <;> try rfl
    cases tmps.put v d <;> rfl

def z_put (ev : EV) (t : Task) (w : AW) (r : Option AF) : Option Ans := Option.rec (motive := fun _ => Option Ans) none (fun a => ev t a w) r
def z_val (ev : EV) (t : Task) (dst : Option Tmp) (a : AF) (r : Option (Value × AW)) : Option Ans := Option.rec (motive := fun _ => Option Ans) none (fun p => Prod.rec (motive := fun _ => Option Ans) (fun v w => z_put ev t w (putZ a dst v)) p) r
theorem z_put_eq (ev : EV) (t : Task) (w : AW) (r : Option AF) : z_put ev t w r = t_put ev t w r := by cases r <;> rfl
theorem z_val_eq (ev : EV) (t : Task) (dst : Option Tmp) (a : AF) (r : Option (Value × AW)) : z_val ev t dst a r = t_val ev t dst a r := by
  cases r with
  | none => rfl
  | some p => obtain ⟨v, w⟩ := p; show z_put ev t w (putZ a dst v) = t_put ev t w (a.putd dst v); rw [putZ_eq, z_put_eq]
def isDefer (o : Oper) : Bool := match opKind o with
  | .defers => true
  | _ => false
def z_kind (P : Program) (orc : Orc) (ev : EV) (t : Task) (o : Oper) (a : AF) (w : AW) (b : Bool) : Option Ans :=
  Bool.rec (motive := fun _ => Option Ans) (z_val ev t o.dst a (opZ o.op P orc ev (f_eval orc.gl a) w)) (t_defer ev t o.dst a w (deferA orc.gl o a)) b
def z_want (P : Program) (orc : Orc) (ev : EV) (t : Task) (o : Oper) (a : AF) (w : AW) (r : Option Bool) : Option Ans :=
  Option.rec (motive := fun _ => Option Ans) none (fun b => Bool.rec (motive := fun _ => Option Ans) (z_put ev t w (putZ a o.dst undef)) (z_kind P orc ev t o a w (isDefer o)) b) r
def z_ops (P : Program) (orc : Orc) (ev : EV) (all : List Oper) (a : AF) (w : AW) (rest : List Oper) : Option Ans :=
  List.rec (motive := fun _ => Option Ans) (some ⟨.normal, a, undef, w⟩) (fun o rest _ => z_want P orc ev (.ops all rest) o a w (wantedA all o a)) rest

theorem z_kind_eq (P : Program) (orc : Orc) (ev : EV) (t : Task) (o : Oper) (a : AF) (w : AW) : z_kind P orc ev t o a w (isDefer o) = t_kind P orc ev t o a w (opKind o) := by
  have h := opZ_eq P orc ev o a w
  rw [← f_op_eq] at h
  unfold isDefer
  cases hk : opKind o <;> rw [hk] at h <;> first
    | rfl
    | (show z_val ev t o.dst a _ = _; rw [z_val_eq, h]; rfl)

theorem z_ops_eq (P : Program) (orc : Orc) (ev : EV) (all : List Oper) (a : AF) (w : AW) (rest : List Oper) : z_ops P orc ev all a w rest = t_ops P orc ev all a w rest := by
  cases rest with
  | nil => rfl
  | cons o rest =>
    show z_want P orc ev (.ops all rest) o a w (wantedA all o a) = t_want P orc ev (.ops all rest) o a w (wantedA all o a)
    cases wantedA all o a with
    | none => rfl
    | some b =>
      cases b with
      | false => show z_put ev _ w (putZ a o.dst undef) = t_put ev _ w (a.putd o.dst undef); rw [putZ_eq, z_put_eq]
      | true => exact z_kind_eq P orc ev _ o a w

def y_eff2 (P : Program) (orc : Orc) (ev : EV) (t : Task) (o : Oper) (a : AF) (w : AW) (r : Option Bool) : Option Ans :=
  Option.rec (motive := fun _ => Option Ans) none (fun b => Bool.rec (motive := fun _ => Option Ans) (z_put ev t w (putZ a o.dst undef)) (z_val ev t o.dst a (opZ o.op P orc ev (f_eval orc.gl a) w)) b) r
def y_eff (P : Program) (orc : Orc) (ev : EV) (t : Task) (o : Oper) (a : AF) (w : AW) (want : Option Bool) (ok : Bool) : Option Ans :=
  Bool.rec (motive := fun _ => Option Ans) none (y_eff2 P orc ev t o a w want) ok
def y_rec (ev : EV) (all : List Oper) (rest : List Item') (recs : List (Nat × (AW → Bool))) (i : Nat) (f : AW → Bool) (w : AW) (a : AF) (b : Bool) : Option Ans :=
  Bool.rec (motive := fun _ => Option Ans) (ev (.dops all rest recs) a w) (ev (.dops all rest ((i, f) :: recs)) a w) b
def y_put (P : Program) (orc : Orc) (ev : EV) (all : List Oper) (rest : List Item') (recs : List (Nat × (AW → Bool))) (i : Nat) (o : Oper) (a : AF) (v : Value) (b : Nat) (w : AW) (r : Option AF) : Option Ans :=
  Option.rec (motive := fun _ => Option Ans) none (fun a' => y_rec ev all rest recs i (recOf P o (a.eval orc.gl) v b) w a' (recd o)) r
def y_val (P : Program) (orc : Orc) (ev : EV) (all : List Oper) (rest : List Item') (recs : List (Nat × (AW → Bool))) (i : Nat) (o : Oper) (a : AF) (b : Nat) (r : Option (Value × AW)) : Option Ans :=
  Option.rec (motive := fun _ => Option Ans) none (fun p => Prod.rec (motive := fun _ => Option Ans) (fun v w => y_put P orc ev all rest recs i o a v b w (putZ a o.dst v)) p) r
def y_pure (P : Program) (orc : Orc) (ev : EV) (all : List Oper) (rest : List Item') (recs : List (Nat × (AW → Bool))) (i : Nat) (o : Oper) (a : AF) (w : AW) (r : Option Bool) : Option Ans :=
  Option.rec (motive := fun _ => Option Ans) none (fun b => Bool.rec (motive := fun _ => Option Ans) (z_put ev (.dops all rest recs) w (putZ a o.dst undef)) (y_val P orc ev all rest recs i o a w.size (opZ o.op P orc ev (f_eval orc.gl a) w)) b) r
def y_one (P : Program) (orc : Orc) (ev : EV) (all : List Oper) (rest : List Item') (recs : List (Nat × (AW → Bool))) (i : Nat) (o : Oper) (m : Nat) (a : AF) (w : AW) (e : Bool) : Option Ans :=
  Bool.rec (motive := fun _ => Option Ans) (y_pure P orc ev all rest recs i o a w (wantedA all o a)) (y_eff P orc ev (.dops all rest (keepL (fun x => !(Nat.testBit m x.1)) recs)) o a w (wantedA all o a) (recsOk w recs)) e
def y_dops (P : Program) (orc : Orc) (ev : EV) (all : List Oper) (recs : List (Nat × (AW → Bool))) (a : AF) (w : AW) (rest : List Item') : Option Ans :=
  List.rec (motive := fun _ => Option Ans) (d_end a w (recsOk w recs)) (fun x rest _ => Item'.rec (motive := fun _ => Option Ans) (fun i o m => y_one P orc ev all rest recs i o m a w (isEff o)) x) rest

theorem y_dops_eq (P : Program) (orc : Orc) (ev : EV) (all : List Oper) (recs : List (Nat × (AW → Bool))) (a : AF) (w : AW) (rest : List Item') : y_dops P orc ev all recs a w rest = t_dops P orc ev all recs a w rest := by
  cases rest with
  | nil => rfl
  | cons x rest =>
    obtain ⟨i, o, m⟩ := x
    have h := (opZ_eq P orc ev o a w).trans (f_op_eq P orc ev o a w).symm
    show y_one P orc ev all rest recs i o m a w (isEff o) = d_one P orc ev all rest recs i o m a w (isEff o)
    cases isEff o with
    | true =>
      show y_eff P orc ev _ o a w (wantedA all o a) (recsOk w recs) = d_eff P orc ev _ o a w (wantedA all o a) (recsOk w recs)
      cases recsOk w recs with
      | false => rfl
      | true =>
        cases wantedA all o a with
        | none => rfl
        | some b =>
          cases b with
          | false => show z_put ev _ w (putZ a o.dst undef) = t_put ev _ w (a.putd o.dst undef); rw [putZ_eq, z_put_eq]
          | true => show z_val ev _ o.dst a _ = t_val ev _ o.dst a _; rw [z_val_eq, h]
    | false =>
      show y_pure P orc ev all rest recs i o a w (wantedA all o a) = d_pure P orc ev all rest recs i o a w (wantedA all o a)
      cases wantedA all o a with
      | none => rfl
      | some b =>
        cases b with
        | false => show z_put ev _ w (putZ a o.dst undef) = t_put ev _ w (a.putd o.dst undef); rw [putZ_eq, z_put_eq]
        | true =>
          show y_val P orc ev all rest recs i o a w.size _ = d_val P orc ev all rest recs i o a w.size _
          rw [h]
          cases f_op P orc ev (opKind o) o.op (f_eval orc.gl a) w with
          | none => rfl
          | some p =>
            obtain ⟨v, w'⟩ := p
            show y_put P orc ev all rest recs i o a v w.size w' (putZ a o.dst v) = d_put P orc ev all rest recs i o a v w.size w' (a.putd o.dst v)
            rw [putZ_eq]
            cases a.putd o.dst v with
            | none => rfl
            | some a' =>
              show y_rec ev all rest recs i _ w' a' (recd o) = d_rec ev all rest recs i _ w' a' (recd o)
              cases recd o <;> rfl

abbrev HT := Program → Orc → EV → AF → AW → Option Ans
def z_code : Code → HT := Code.rec (motive := fun _ => HT)
  (fun _ _ _ a w => some ⟨.normal, a, undef, w⟩)
  (fun _ ops draw _ _ ev a w => t_region ev ops.toList a w draw)
  (fun x y _ _ _ _ ev a w => t_seq ev (.code y) (ev (.code x) a w))
  (fun c t e _ _ _ orc ev a w => t_cond ev t e a w (f_eval orc.gl a c))
  (fun id c _ _ _ ev a w => t_block id (ev (.code c) a w))
  (fun c _ _ _ ev a w => t_seq ev (.code (.loop c)) (ev (.code c) a w))
  (fun f params assign body _ _ P orc ev a w => t_range P orc ev f a (enterA a params assign body w))
  (fun id _ _ _ a w => some ⟨.exit id, a, undef, w⟩)
  (fun c _ _ _ ev a w => ev (.scope c c) a w)
  (fun _ _ _ _ a w => some ⟨.normal, a, undef, w⟩)
  (fun l _ _ _ a w => some ⟨.goto l, a, undef, w⟩)
  (fun _ _ _ a w => some ⟨.ret, a, undef, w⟩)
  (fun _ _ _ _ _ _ => none)
def z_step : Task → HT := Task.rec (motive := fun _ => HT)
  (fun c P orc ev a w => z_code c P orc ev a w)
  (fun body cur _ _ ev a w => t_scope ev body (ev (.code cur) a w))
  (fun all rest P orc ev a w => z_ops P orc ev all a w rest)
  (fun all rest recs P orc ev a w => y_dops P orc ev all recs a w rest)
  (fun fn args captured P orc ev a w => t_rest P orc ev (.apply fn args captured) a w)
  (fun f args P orc ev a w => t_rest P orc ev (.call f args) a w)
  (fun f args P orc ev a w => t_rest P orc ev (.dcall f args) a w)
  (fun fn f args P orc ev a w => t_rest P orc ev (.body fn f args) a w)
  (fun ds P orc ev a w => t_rest P orc ev (.unwind ds) a w)

theorem z_step_eq (P : Program) (orc : Orc) (ev : EV) (t : Task) (a : AF) (w : AW) : z_step t P orc ev a w = stepA P orc ev t a w := by
  rw [← stepF_eq]
  cases t with
  | code c => cases c <;> rfl
  | ops all rest => exact z_ops_eq P orc ev all a w rest
  | dops all rest recs => exact y_dops_eq P orc ev all recs a w rest
  | _ => rfl

/-- The evaluator by recursors. -/
def evZ (P : Program) (orc : Orc) (n : Nat) : EV :=
  Nat.rec (motive := fun _ => EV) (fun _ _ _ => none) (fun _ ih t a w => z_step t P orc ih a w) n

theorem evZ_eq (P : Program) (orc : Orc) (n : Nat) : evZ P orc n = ev P orc n := by
  induction n with
  | zero => rfl
  | succ n ih =>
    funext t a w
    show z_step t P orc (evZ P orc n) a w = stepA P orc (ev P orc n) t a w
    rw [ih]
    exact z_step_eq P orc _ t a w

end
end Go.Ev
