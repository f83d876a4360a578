/-
  The evaluator, in small pieces: the kernel reckons it with less memory (it copies a whole body at each step). That it is the same is proved.
-/
import Derived.Test.YtciplabieafkcaaGreatDoorEvZ
set_option linter.unusedSimpArgs false
set_option linter.unusedVariables false
namespace Go.Ev
noncomputable section

def f_const (v : Value) : Value := match flatV v with | true => v | false => junk
def f_glob (gl : Nat → Bool) (g : Nat) : Value := match gl g with | true => .pointer (some ⟨g, 0, none⟩) | false => junk
def f_eval (gl : Nat → Bool) (a : AF) : Operand → Value
  | .tmp t => a.get t
  | .const v => f_const v
  | .global g => f_glob gl g
  | .func f => .func (.func f) #[] #[]

theorem f_eval_eq (gl : Nat → Bool) (a : AF) : f_eval gl a = a.eval gl := by funext x; cases x <;> rfl

section
variable (P : Program)
def s_pick (ρ : Operand → Value) (c a b : Operand) : Option Value := match ρ c with
  | .bool true => some (ρ a)
  | .bool false => some (ρ b)
  | _ => none
def s_nil (v : Value) : Option Value := match v with
  | .pointer (some a) => some (.pointer (some a))
  | .func (.func f) a b => some (.func (.func f) a b)
  | .func (.yield f) a b => some (.func (.yield f) a b)
  | .iface t v => some (.iface t v)
  | _ => none
def s_un (op : UnOp) (v : Value) : Option Value := match v with
  | .int k n => flatO (purely P (Op.unary op (.int k n)))
  | .bool b => match op with | .not => some (.bool (!b)) | _ => none
  | _ => none
def s_conv (s d : TypeId) (v : Value) : Option Value := match P.underlying s, P.underlying d, v with
  | some (.int _), some (.int k), .int _ n => some (.int k (k.wrap n))
  | _, _, _ => none
def s_func (ρ : Operand → Value) (fn : Fn) (first captured : Array Operand) : Option Value := match fn with
  | .func f => some (.func (.func f) ⟨mapOps ρ first⟩ ⟨mapOps ρ captured⟩)
  | _ => none
def s_faddr (t : TypeId) (v : Value) (f : Nat) : Option Value := match v, fieldOf P t f with
  | .pointer (some ⟨b, o, none⟩), some f => match szOf P f.type with
    | some (_ + 1) => some (.pointer (some ⟨b, Nat.add o f.offset, none⟩))
    | _ => none
  | _, _ => none
def s_field (t : TypeId) (v : Value) (f : Nat) : Option Value := match v, fieldOf P t f with
  | .agg cs, some f => partA P f.type cs.toList f.offset
  | _, _ => none
def s_index (t : TypeId) (v i : Value) : Option Value := match P.underlying t, v, intAt i with
  | some (.array n e), .agg cs, some i => match natOf i, szOf P e with
    | some i, some s => match Nat.blt i n with
      | true => partA P e cs.toList (Nat.mul i s)
      | false => none
    | _, _ => none
  | _, _, _ => none
def s_extract (v : Value) (i : Nat) : Option Value := match v with
  | .tuple vs => lget vs.toList i
  | _ => none
def s_iface (t : TypeId) (v : Value) : Option Value := match P.underlying t with
  | some (.interface _) => none
  | some _ => some (.iface t v)
  | none => none
def s_assert (v : Value) (t : TypeId) (ok : Bool) : Option Value := match P.underlying t, v with
  | some (.interface _), _ => none
  | some _, .iface u v => match Nat.beq u t, ok with
    | true, true => some (.tuple #[v, .bool true])
    | true, false => some v
    | false, true => match flatO (zeroV P t) with
      | some z => some (.tuple #[z, .bool false])
      | none => none
    | false, false => none
  | _, _ => none
def s_len (ρ : Operand → Value) (args : Array Operand) (argTypes : Array TypeId) : Option Value := match argTypes.toList, args.toList with
  | t :: _, x :: _ => match P.underlying t, ρ x with
    | some (.slice _), .slice _ n _ => some (.int .i64 (Int.ofNat n))
    | some (.array n _), _ => some (.int .i64 (Int.ofNat n))
    | some (.pointer a), _ => match P.underlying a with
      | some (.array n _) => some (.int .i64 (Int.ofNat n))
      | _ => none
    | some .string, .string s => some (.int .i64 (Int.ofNat s.size))
    | _, _ => none
  | _, _ => none
def s_min (ρ : Operand → Value) (args : Array Operand) : Option Value := match args.toList with
  | [x, y] => match ρ x, ρ y with
    | .int k a, .int _ b => some (.int k (match intLt b a with | true => b | false => a))
    | _, _ => none
  | _ => none
def s_max (ρ : Operand → Value) (args : Array Operand) : Option Value := match args.toList with
  | [x, y] => match ρ x, ρ y with
    | .int k a, .int _ b => some (.int k (match intLt a b with | true => b | false => a))
    | _, _ => none
  | _ => none
def s_call (ρ : Operand → Value) (c : Call) : Option Value := match c.callee with
  | .builtin b => match b with
    | .len => s_len P ρ c.args c.argTypes
    | .min => s_min ρ c.args
    | .max => s_max ρ c.args
    | _ => none
  | _ => none

def f_still (o : Op) (ρ : Operand → Value) : Option Value := match o with
  | .move x => some (ρ x)
  | .assign x => some (ρ x)
  | .pick c a b => s_pick ρ c a b
  | .build t parts => buildA P t parts ρ
  | .nilCheck x => s_nil (ρ x)
  | .binOp op t x y _ => binA P op t (ρ x) (ρ y) (isConstO x || isConstO y)
  | .unOp op _ x => s_un P op (ρ x)
  | .convert s d x => s_conv P s d (ρ x)
  | .makeFunc fn first captured => s_func ρ fn first captured
  | .slice t x lo hi mx => sliceA P t (ρ x) (mapO ρ lo) (mapO ρ hi) (mapO ρ mx)
  | .fieldAddr t x f => s_faddr P t (ρ x) f
  | .field t x f => s_field P t (ρ x) f
  | .indexAddr t x i => indexAddrA P t (ρ x) (ρ i)
  | .index t x i => s_index P t (ρ x) (ρ i)
  | .extract x i => s_extract (ρ x) i
  | .makeInterface t x => s_iface P t (ρ x)
  | .typeAssert x _ t ok => s_assert P (ρ x) t ok
  | .call c => s_call P ρ c
  | _ => none

theorem f_still_eq (o : Oper) (ρ : Operand → Value) : f_still P o.op ρ = stillA P o ρ := by
  obtain ⟨dst, op, ty, pos, after, guard⟩ := o
  cases op <;> try rfl
  case makeFunc fn first captured => cases fn <;> rfl
  case call c =>
    obtain ⟨callee, args, at0⟩ := c
    cases callee <;> try rfl
    rename_i b
    cases b <;> rfl

def fl_alloc (t : TypeId) : Option (List Value × (Nat → Value)) := match zeroL P t with
  | some z => some (z, fun b => .pointer (some ⟨b, 0, none⟩))
  | none => none
def fl_box (v : Value) : Option (List Value × (Nat → Value)) := match cellsO v with
  | some l => some (l, fun b => .pointer (some ⟨b, 0, none⟩))
  | none => none
def fl_row (t : TypeId) (n : Nat) (parts : Array (Nat × Operand)) (ρ : Operand → Value) : Option (List Value × (Nat → Value)) := match buildSliceA P t n parts ρ with
  | some l => some (l, fun b => .slice (some ⟨b, 0, none⟩) n n)
  | none => none
def fl_make (t : TypeId) (l c : Value) : Option (List Value × (Nat → Value)) := match makeSliceA P t l c with
  | some (zs, l, c) => some (zs, fun b => .slice (some ⟨b, 0, none⟩) l c)
  | none => none
def f_float (o : Op) (ρ : Operand → Value) : Option (List Value × (Nat → Value)) := match o with
  | .alloc t => fl_alloc P t
  | .box _ x => fl_box (ρ x)
  | .buildSlice t n parts => fl_row P t n parts ρ
  | .makeSlice t l c => fl_make P t (ρ l) (ρ c)
  | _ => none

theorem f_float_eq (o : Oper) (ρ : Operand → Value) : f_float P o.op ρ = floatA P o ρ := by
  obtain ⟨dst, op, ty, pos, after, guard⟩ := o
  cases op <;> rfl

def r_lookup (t : TypeId) (m k : Value) (ok : Bool) (W : AW) : Option Value := match P.underlying t, m, k with
  | some (.map kt et), .map (some r), .int q n => match W.heap.get r, P.underlying kt, flatO (zeroV P et) with
    | some (.map es _), some (.int q'), some z => match Nat.beq (kno q) (kno q') with
      | true => match findKeyA q n es with
        | some (some v) => some (match ok with | true => .tuple #[v, .bool true] | false => v)
        | some none => some (match ok with | true => .tuple #[z, .bool false] | false => z)
        | none => none
      | false => none
    | _, _, _ => none
  | _, _, _ => none
def f_read (o : Op) (ρ : Operand → Value) (W : AW) : Option Value := match o with
  | .load t a => loadA P t (ρ a) W
  | .lookup t m k ok => r_lookup P t (ρ m) (ρ k) ok W
  | _ => none

theorem f_read_eq (o : Oper) (ρ : Operand → Value) (W : AW) : f_read P o.op ρ W = readA P o ρ W := by
  obtain ⟨dst, op, ty, pos, after, guard⟩ := o
  cases op <;> rfl

def e_store (t : TypeId) (a v : Value) (W : AW) : Option (Value × AW) := match storeA P t a v W with
  | some W => some (undef, W)
  | none => none
def e_make (r : Option Operand) (W : AW) : Option (Value × AW) := match r with
  | none => match W.heap.put (.map [] 0) W.size with
    | some h => some (.map (some W.size), { heap := h, size := W.size + 1 })
    | none => none
  | some _ => none
def e_update (t : TypeId) (m k v : Value) (W : AW) : Option (Value × AW) := match P.underlying t, m, k with
  | some (.map kt _), .map (some r), .int q n => match W.heap.get r, P.underlying kt with
    | some (.map es c), some (.int q') => match Nat.beq (kno q) (kno q') with
      | true => match findKeyA q n es with
        | some (some _) => match putKeyA n v es with
          | some es => match W.heap.put (.map es c) r with
            | some h => some (undef, { W with heap := h })
            | none => none
          | none => none
        | some none => match appO es [(.int q n, v, c)] with
          | some es => match W.heap.put (.map es (c + 1)) r with
            | some h => some (undef, { W with heap := h })
            | none => none
          | none => none
        | none => none
      | false => none
    | _, _ => none
  | _, _, _ => none
def e_append (args : Array Operand) (argTypes : Array TypeId) (ρ : Operand → Value) (W : AW) : Option (Value × AW) := match argTypes.toList, args.toList with
  | [t, u], [s, x] => match P.underlying u with
    | some (.int _) => none
    | some _ => appendA P t (ρ s) (ρ x) W
    | none => none
  | _, _ => none
def e_copy (args : Array Operand) (argTypes : Array TypeId) (ρ : Operand → Value) (W : AW) : Option (Value × AW) := match argTypes.toList, args.toList with
  | t :: _, [s, x] => copyA P t (ρ s) (ρ x) W
  | _, _ => none
def e_clear (args : Array Operand) (argTypes : Array TypeId) (ρ : Operand → Value) (W : AW) : Option (Value × AW) := match argTypes.toList, args.toList with
  | [t], [x] => match P.underlying t, ρ x with
    | some (.map _ _), .map (some r) => match W.heap.get r with
      | some (.map _ c) => match W.heap.put (.map [] c) r with
        | some h => some (.tuple #[], { W with heap := h })
        | none => none
      | _ => none
    | _, _ => none
  | _, _ => none
def e_call (c : Call) (ρ : Operand → Value) (W : AW) : Option (Value × AW) := match c.callee with
  | .builtin b => match b with
    | .append => e_append P c.args c.argTypes ρ W
    | .copy => e_copy P c.args c.argTypes ρ W
    | .clear => e_clear P c.args c.argTypes ρ W
    | _ => none
  | _ => none
def f_effect (o : Op) (ρ : Operand → Value) (W : AW) : Option (Value × AW) := match o with
  | .store t a v => e_store P t (ρ a) (ρ v) W
  | .makeMap _ r => e_make r W
  | .mapUpdate t m k v => e_update P t (ρ m) (ρ k) (ρ v) W
  | .call c => e_call P c ρ W
  | _ => none

theorem f_effect_eq (o : Oper) (ρ : Operand → Value) (W : AW) : f_effect P o.op ρ W = effectA P o ρ W := by
  obtain ⟨dst, op, ty, pos, after, guard⟩ := o
  cases op <;> try rfl
  case makeMap t r => cases r <;> rfl
  case call c =>
    obtain ⟨callee, args, at0⟩ := c
    cases callee <;> try rfl
    rename_i b
    cases b <;> rfl

def o_still (v : Option Value) (w : AW) : Option (Value × AW) := match v with
  | some v => some (v, w)
  | none => none
def o_float (r : Option (List Value × (Nat → Value))) (w : AW) : Option (Value × AW) := match r with
  | some (c, v) => match w.new c 0 false with
    | some (b, w) => some (v b, w)
    | none => none
  | none => none
def o_ans (r : Option Ans) : Option (Value × AW) := match r with
  | some ⟨_, _, v, w⟩ => some (v, w)
  | none => none
def o_callee (ev : Task → AF → AW → Option Ans) (r : Option (Fn × List Value × List Value)) (w : AW) : Option (Value × AW) := match r with
  | some (fn, args, captured) => o_ans (ev (.apply fn args captured) ⟨.nil, 0, [], 0, none⟩ w)
  | none => none
def o_call (orc : Orc) (ev : Task → AF → AW → Option Ans) (o : Op) (ρ : Operand → Value) (w : AW) : Option (Value × AW) := match o with
  | .call c => o_callee ev (calleeA orc.meth c ρ) w
  | _ => none
def f_op (orc : Orc) (ev : Task → AF → AW → Option Ans) (k : OpKind) (o : Op) (ρ : Operand → Value) (w : AW) : Option (Value × AW) := match k with
  | .still => o_still (f_still P o ρ) w
  | .read => o_still (f_read P o ρ w) w
  | .float => o_float (f_float P o ρ) w
  | .effect => f_effect P o ρ w
  | .calls => o_call orc ev o ρ w
  | .defers => none
  | .no => none

theorem f_op_eq (orc : Orc) (ev : Task → AF → AW → Option Ans) (o : Oper) (a : AF) (w : AW) : f_op P orc ev (opKind o) o.op (f_eval orc.gl a) w = opA P orc ev o a w := by
  rw [f_eval_eq]
  unfold f_op opA
  cases opKind o
  · simp only [f_still_eq]; rfl
  · simp only [f_float_eq]; rfl
  · simp only [f_read_eq]; rfl
  · simp only [f_effect_eq]
  · obtain ⟨dst, op, ty, pos, after, guard⟩ := o
    cases op <;> rfl
  · rfl
  · rfl

/-! ### the steps -/
def t_seq (ev : Task → AF → AW → Option Ans) (y : Task) (r : Option Ans) : Option Ans := match r with
  | some ⟨.normal, a, _, w⟩ => ev y a w
  | some ⟨.exit id, a, v, w⟩ => some ⟨.exit id, a, v, w⟩
  | some ⟨.goto l, a, v, w⟩ => some ⟨.goto l, a, v, w⟩
  | some ⟨.ret, a, v, w⟩ => some ⟨.ret, a, v, w⟩
  | none => none
def t_cond (ev : Task → AF → AW → Option Ans) (t e : Code) (a : AF) (w : AW) (v : Value) : Option Ans := match v with
  | .bool true => ev (.code t) a w
  | .bool false => ev (.code e) a w
  | _ => none
def t_block (id : Nat) (r : Option Ans) : Option Ans := match r with
  | some ⟨.exit id', a, v, w⟩ => match Nat.beq id' id with
    | true => some ⟨.normal, a, v, w⟩
    | false => some ⟨.exit id', a, v, w⟩
  | some ⟨.normal, a, v, w⟩ => some ⟨.normal, a, v, w⟩
  | some ⟨.goto l, a, v, w⟩ => some ⟨.goto l, a, v, w⟩
  | some ⟨.ret, a, v, w⟩ => some ⟨.ret, a, v, w⟩
  | none => none
def t_draw (ev : Task → AF → AW → Option Ans) (all : List Oper) (a : AF) (w : AW) (plan : Option (List Item')) : Option Ans := match plan with
  | some plan => ev (.dops all plan []) a w
  | none => none
def t_region (ev : Task → AF → AW → Option Ans) (all : List Oper) (a : AF) (w : AW) (draw : Bool) : Option Ans := match draw with
  | false => ev (.ops all all) a w
  | true => t_draw ev all a w (planA all)
def t_range3 (ev : Task → AF → AW → Option Ans) (a : AF) (ds : List Deferred) (r : Option (Option Code × AW)) : Option Ans := match r with
  | some (none, w) => some ⟨.normal, { a with defers := ds }, undef, w⟩
  | some (some j, w) => ev (.code j) { a with defers := ds } w
  | none => none
def t_range2 (ev : Task → AF → AW → Option Ans) (a : AF) (l : Nat) (ds : List Deferred) (r : Option Ans) : Option Ans := match r with
  | none => none
  | some ⟨_, _, _, w⟩ => t_range3 ev a ds (w.leaves l)
def t_range1 (ev : Task → AF → AW → Option Ans) (a : AF) (mark : List Deferred) (l : Nat) (w : AW) (v : Value) : Option Ans := match v with
  | .func (.func g) first captured => match appO first.toList (.func (.yield l) #[] #[] :: captured.toList), appO mark a.defers, hasBody P g with
    | some args, some ds, true => t_range2 ev a l ds (ev (.call g args) a w)
    | _, _, _ => none
  | _ => none
def t_range (orc : Orc) (ev : Task → AF → AW → Option Ans) (f : Operand) (a : AF) (r : Option (List Deferred × Nat × AW)) : Option Ans := match r with
  | none => none
  | some (mark, l, w) => t_range1 P ev a mark l w (f_eval orc.gl a f)
def t_code (orc : Orc) (ev : Task → AF → AW → Option Ans) (c : Code) (a : AF) (w : AW) : Option Ans := match c with
  | .skip => some ⟨.normal, a, undef, w⟩
  | .label _ => some ⟨.normal, a, undef, w⟩
  | .ret => some ⟨.ret, a, undef, w⟩
  | .exit id => some ⟨.exit id, a, undef, w⟩
  | .goto l => some ⟨.goto l, a, undef, w⟩
  | .refuse _ => none
  | .seq x y => t_seq ev (.code y) (ev (.code x) a w)
  | .cond c t e => t_cond ev t e a w (f_eval orc.gl a c)
  | .block id c => t_block id (ev (.code c) a w)
  | .loop c => t_seq ev (.code (.loop c)) (ev (.code c) a w)
  | .scope c => ev (.scope c c) a w
  | .region _ ops draw => t_region ev ops.toList a w draw
  | .rangeFunc f params assign body => t_range P orc ev f a (enterA a params assign body w)

def t_scope2 (ev : Task → AF → AW → Option Ans) (body : Code) (a : AF) (v : Value) (w : AW) (l : Nat) (r : Option Code) : Option Ans := match r with
  | some rest => ev (.scope body rest) a w
  | none => some ⟨.goto l, a, v, w⟩
def t_scope (ev : Task → AF → AW → Option Ans) (body : Code) (r : Option Ans) : Option Ans := match r with
  | some ⟨.goto l, a, v, w⟩ => t_scope2 ev body a v w l (findLabel body l)
  | some ⟨.normal, a, v, w⟩ => some ⟨.normal, a, v, w⟩
  | some ⟨.exit id, a, v, w⟩ => some ⟨.exit id, a, v, w⟩
  | some ⟨.ret, a, v, w⟩ => some ⟨.ret, a, v, w⟩
  | none => none

def t_put (ev : Task → AF → AW → Option Ans) (t : Task) (w : AW) (r : Option AF) : Option Ans := match r with
  | some a => ev t a w
  | none => none
def t_val (ev : Task → AF → AW → Option Ans) (t : Task) (dst : Option Tmp) (a : AF) (r : Option (Value × AW)) : Option Ans := match r with
  | some (v, w) => t_put ev t w (a.putd dst v)
  | none => none
def t_defer (ev : Task → AF → AW → Option Ans) (t : Task) (dst : Option Tmp) (a : AF) (w : AW) (r : Option Deferred) : Option Ans := match r with
  | some d => t_put ev t w (({ a with defers := d :: a.defers } : AF).putd dst undef)
  | none => none
def t_kind (orc : Orc) (ev : Task → AF → AW → Option Ans) (t : Task) (o : Oper) (a : AF) (w : AW) (k : OpKind) : Option Ans := match k with
  | .defers => t_defer ev t o.dst a w (deferA orc.gl o a)
  | .still => t_val ev t o.dst a (o_still (f_still P o.op (f_eval orc.gl a)) w)
  | .read => t_val ev t o.dst a (o_still (f_read P o.op (f_eval orc.gl a) w) w)
  | .float => t_val ev t o.dst a (o_float (f_float P o.op (f_eval orc.gl a)) w)
  | .effect => t_val ev t o.dst a (f_effect P o.op (f_eval orc.gl a) w)
  | .calls => t_val ev t o.dst a (o_call orc ev o.op (f_eval orc.gl a) w)
  | .no => none
def t_want (orc : Orc) (ev : Task → AF → AW → Option Ans) (t : Task) (o : Oper) (a : AF) (w : AW) (r : Option Bool) : Option Ans := match r with
  | none => none
  | some false => t_put ev t w (a.putd o.dst undef)
  | some true => t_kind P orc ev t o a w (opKind o)
def t_ops (orc : Orc) (ev : Task → AF → AW → Option Ans) (all : List Oper) (a : AF) (w : AW) (rest : List Oper) : Option Ans := match rest with
  | [] => some ⟨.normal, a, undef, w⟩
  | o :: rest => t_want P orc ev (.ops all rest) o a w (wantedA all o a)

def d_eff2 (orc : Orc) (ev : Task → AF → AW → Option Ans) (t : Task) (o : Oper) (a : AF) (w : AW) (r : Option Bool) : Option Ans := match r with
  | none => none
  | some false => t_put ev t w (a.putd o.dst undef)
  | some true => t_val ev t o.dst a (f_op P orc ev (opKind o) o.op (f_eval orc.gl a) w)
def d_eff (orc : Orc) (ev : Task → AF → AW → Option Ans) (t : Task) (o : Oper) (a : AF) (w : AW) (want : Option Bool) (ok : Bool) : Option Ans := match ok with
  | false => none
  | true => d_eff2 P orc ev t o a w want
def d_rec (ev : Task → AF → AW → Option Ans) (all : List Oper) (rest : List Item') (recs : List (Nat × (AW → Bool))) (i : Nat) (f : AW → Bool) (w : AW) (a : AF) (b : Bool) : Option Ans := match b with
  | true => ev (.dops all rest ((i, f) :: recs)) a w
  | false => ev (.dops all rest recs) a w
def d_put (orc : Orc) (ev : Task → AF → AW → Option Ans) (all : List Oper) (rest : List Item') (recs : List (Nat × (AW → Bool))) (i : Nat) (o : Oper) (a : AF) (v : Value) (b : Nat) (w : AW) (r : Option AF) : Option Ans := match r with
  | some a' => d_rec ev all rest recs i (recOf P o (a.eval orc.gl) v b) w a' (recd o)
  | none => none
def d_val (orc : Orc) (ev : Task → AF → AW → Option Ans) (all : List Oper) (rest : List Item') (recs : List (Nat × (AW → Bool))) (i : Nat) (o : Oper) (a : AF) (b : Nat) (r : Option (Value × AW)) : Option Ans := match r with
  | some (v, w) => d_put P orc ev all rest recs i o a v b w (a.putd o.dst v)
  | none => none
def d_pure (orc : Orc) (ev : Task → AF → AW → Option Ans) (all : List Oper) (rest : List Item') (recs : List (Nat × (AW → Bool))) (i : Nat) (o : Oper) (a : AF) (w : AW) (r : Option Bool) : Option Ans := match r with
  | none => none
  | some false => t_put ev (.dops all rest recs) w (a.putd o.dst undef)
  | some true => d_val P orc ev all rest recs i o a w.size (f_op P orc ev (opKind o) o.op (f_eval orc.gl a) w)
def d_one (orc : Orc) (ev : Task → AF → AW → Option Ans) (all : List Oper) (rest : List Item') (recs : List (Nat × (AW → Bool))) (i : Nat) (o : Oper) (m : Nat) (a : AF) (w : AW) (e : Bool) : Option Ans := match e with
  | true => d_eff P orc ev (.dops all rest (keepL (fun x => !(Nat.testBit m x.1)) recs)) o a w (wantedA all o a) (recsOk w recs)
  | false => d_pure P orc ev all rest recs i o a w (wantedA all o a)
def d_end (a : AF) (w : AW) (ok : Bool) : Option Ans := match ok with
  | true => some ⟨.normal, a, undef, w⟩
  | false => none
def t_dops (orc : Orc) (ev : Task → AF → AW → Option Ans) (all : List Oper) (recs : List (Nat × (AW → Bool))) (a : AF) (w : AW) (rest : List Item') : Option Ans := match rest with
  | [] => d_end a w (recsOk w recs)
  | ⟨i, o, m⟩ :: rest => d_one P orc ev all rest recs i o m a w (isEff o)

def t_rest (orc : Orc) (ev : Task → AF → AW → Option Ans) (t : Task) (a : AF) (w : AW) : Option Ans := stepA P orc ev t a w

def stepF (orc : Orc) (ev : Task → AF → AW → Option Ans) (t : Task) (a : AF) (w : AW) : Option Ans := match t with
  | .code c => t_code P orc ev c a w
  | .scope body cur => t_scope ev body (ev (.code cur) a w)
  | .ops all rest => t_ops P orc ev all a w rest
  | .dops all rest recs => t_dops P orc ev all recs a w rest
  | .apply fn args captured => t_rest P orc ev (.apply fn args captured) a w
  | .call f args => t_rest P orc ev (.call f args) a w
  | .dcall f args => t_rest P orc ev (.dcall f args) a w
  | .body fn f args => t_rest P orc ev (.body fn f args) a w
  | .unwind ds => t_rest P orc ev (.unwind ds) a w

theorem t_val_eq (ev : Task → AF → AW → Option Ans) (t : Task) (dst : Option Tmp) (a : AF) (r : Option (Value × AW)) : t_val ev t dst a r = (match r with
    | some (v, w) => match a.putd dst v with
      | some a => ev t a w
      | none => none
    | none => none) := by
  cases r <;> rfl

theorem t_kind_eq (orc : Orc) (ev : Task → AF → AW → Option Ans) (t : Task) (o : Oper) (a : AF) (w : AW) : t_kind P orc ev t o a w (opKind o) = (match opKind o with
    | .defers => match deferA orc.gl o a with
      | some d => match ({ a with defers := d :: a.defers } : AF).putd o.dst undef with
        | some a => ev t a w
        | none => none
      | none => none
    | _ => match opA P orc ev o a w with
      | some (v, w) => match a.putd o.dst v with
        | some a => ev t a w
        | none => none
      | none => none) := by
  have h := f_op_eq P orc ev o a w
  cases hk : opKind o <;> rw [hk] at h <;> simp only [← h] <;> first | rfl | skip

theorem stepF_eq (orc : Orc) (ev : Task → AF → AW → Option Ans) (t : Task) (a : AF) (w : AW) : stepF P orc ev t a w = stepA P orc ev t a w := by
  cases t with
  | code c =>
    cases c <;> rfl
  | scope body cur => rfl
  | ops all rest =>
    cases rest with
    | nil => rfl
    | cons o rest =>
      show t_want P orc ev (.ops all rest) o a w (wantedA all o a) = _
      unfold stepA
      simp only
      cases wantedA all o a with
      | none => rfl
      | some b =>
        cases b with
        | false => rfl
        | true => exact t_kind_eq P orc ev (.ops all rest) o a w
  | dops all rest recs =>
    cases rest with
    | nil => rfl
    | cons x rest =>
      obtain ⟨i, o, m⟩ := x
      show d_one P orc ev all rest recs i o m a w (isEff o) = _
      unfold stepA
      simp only
      cases isEff o with
      | true =>
        show d_eff P orc ev _ o a w (wantedA all o a) (recsOk w recs) = _
        cases recsOk w recs with
        | false => rfl
        | true =>
          show d_eff2 P orc ev _ o a w (wantedA all o a) = _
          cases wantedA all o a with
          | none => rfl
          | some b =>
            cases b with
            | false => rfl
            | true =>
              show t_val ev _ o.dst a (f_op P orc ev (opKind o) o.op (f_eval orc.gl a) w) = _
              rw [f_op_eq]
              rfl
      | false =>
        show d_pure P orc ev all rest recs i o a w (wantedA all o a) = _
        cases wantedA all o a with
        | none => rfl
        | some b =>
          cases b with
          | false => rfl
          | true =>
            show d_val P orc ev all rest recs i o a w.size (f_op P orc ev (opKind o) o.op (f_eval orc.gl a) w) = _
            rw [f_op_eq]
            rfl
  | apply fn args captured => rfl
  | call f args => rfl
  | dcall f args => rfl
  | body fn f args => rfl
  | unwind ds => rfl

/-- The evaluator in small pieces. -/
def evF (orc : Orc) (n : Nat) : Task → AF → AW → Option Ans :=
  Nat.rec (motive := fun _ => Task → AF → AW → Option Ans) (fun _ _ _ => none) (fun _ ih => stepF P orc ih) n

theorem evF_eq (orc : Orc) (n : Nat) : evF P orc n = ev P orc n := by
  induction n with
  | zero => rfl
  | succ n ih =>
    funext t a w
    show stepF P orc (evF P orc n) t a w = stepA P orc (ev P orc n) t a w
    rw [ih]
    exact stepF_eq P orc _ t a w

end
end
end Go.Ev
