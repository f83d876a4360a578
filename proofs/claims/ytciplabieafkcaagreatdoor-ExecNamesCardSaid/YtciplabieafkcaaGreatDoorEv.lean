/-
  The evaluator: a Lean function that runs the model's code on an abstract memory. The kernel reckons it; that it is right is proved behind it.
-/
import GoSem.Step
import GoSem.ClaimKeys
set_option linter.unusedSimpArgs false
set_option linter.unusedVariables false
namespace Go.Ev
noncomputable section
inductive Tr (α : Type) where
  | nil
  | node (v : Option α) (l r : Tr α)

/-- What stands for a number. (By the recursors themselves: so the kernel reckons it fast.) -/
def Tr.get {α : Type} (t : Tr α) : Nat → Option α :=
  Tr.rec (motive := fun _ => Nat → Option α) (fun _ => none) (fun v _ _ gl gr n => Nat.rec (motive := fun _ => Option α) v (fun m _ => Nat.rec (motive := fun _ => Option α) (gl (Nat.div m 2)) (fun _ _ => gr (Nat.div m 2)) (Nat.mod m 2)) n) t

def Tr.sing {α : Type} (x : α) (f : Nat) : Nat → Option (Tr α) :=
  Nat.rec (motive := fun _ => Nat → Option (Tr α)) (fun _ => none) (fun _ ih n => Nat.rec (motive := fun _ => Option (Tr α)) (some (.node (some x) .nil .nil)) (fun m _ => Nat.rec (motive := fun _ => Option (Tr α)) (Option.rec none (fun t => some (.node none t .nil)) (ih (Nat.div m 2))) (fun _ _ => Option.rec none (fun t => some (.node none .nil t)) (ih (Nat.div m 2))) (Nat.mod m 2)) n) f

def Tr.put {α : Type} (x : α) (t : Tr α) : Nat → Option (Tr α) :=
  Tr.rec (motive := fun _ => Nat → Option (Tr α)) (Tr.sing x 40) (fun v l r gl gr n => Nat.rec (motive := fun _ => Option (Tr α)) (some (.node (some x) l r)) (fun m _ => Nat.rec (motive := fun _ => Option (Tr α)) (Option.rec none (fun t => some (.node v t r)) (gl (Nat.div m 2))) (fun _ _ => Option.rec none (fun t => some (.node v l t)) (gr (Nat.div m 2))) (Nat.mod m 2)) n) t

section
variable {α β : Type}
def lget (l : List α) : Nat → Option α := List.rec (motive := fun _ => Nat → Option α) (fun _ => none) (fun x _ ih n => Nat.rec (motive := fun _ => Option α) (some x) (fun m _ => ih m) n) l
def drop (l : List α) : Nat → List α := List.rec (motive := fun _ => Nat → List α) (fun _ => []) (fun x xs ih n => Nat.rec (motive := fun _ => List α) (x :: xs) (fun m _ => ih m) n) l
/-- just so many from the front -/
def takeO (l : List α) : Nat → Option (List α) := List.rec (motive := fun _ => Nat → Option (List α)) (fun n => Nat.rec (motive := fun _ => Option (List α)) (some []) (fun _ _ => none) n) (fun x _ ih n => Nat.rec (motive := fun _ => Option (List α)) (some []) (fun m _ => Option.rec none (fun r => some (x :: r)) (ih m)) n) l
def len (l : List α) : Nat := List.rec (motive := fun _ => Nat) 0 (fun _ _ ih => Nat.succ ih) l
def anyL (p : α → Bool) (l : List α) : Bool := List.rec (motive := fun _ => Bool) false (fun x _ ih => Bool.rec (motive := fun _ => Bool) ih true (p x)) l
def appO (l m : List α) : Option (List α) := List.rec (motive := fun _ => Option (List α)) (some m) (fun x _ ih => Option.rec none (fun r => some (x :: r)) ih) l
/-- l with vs from a place on in the place of what stood there; none, if it stands over -/
def spliceO (l : List α) : Nat → List α → Option (List α) := List.rec (motive := fun _ => Nat → List α → Option (List α)) (fun n vs => Nat.rec (motive := fun _ => Option (List α)) (List.rec (motive := fun _ => Option (List α)) (some []) (fun _ _ _ => none) vs) (fun _ _ => none) n)
  (fun x xs ih n vs => Nat.rec (motive := fun _ => Option (List α)) (List.rec (motive := fun _ => Option (List α)) (some (x :: xs)) (fun v vs _ => Option.rec none (fun r => some (v :: r)) (ih 0 vs)) vs) (fun m _ => Option.rec none (fun r => some (x :: r)) (ih m vs)) n) l
def repO (z : List α) (n : Nat) : Option (List α) := Nat.rec (motive := fun _ => Option (List α)) (some []) (fun _ ih => Option.rec none (fun r => appO z r) ih) n
def mapL (f : α → β) (l : List α) : List β := List.rec (motive := fun _ => List β) [] (fun x _ ih => f x :: ih) l
def upto (n m : Nat) : List Nat := Nat.rec (motive := fun _ => Nat → List Nat) (fun _ => []) (fun _ ih n => n :: ih (Nat.succ n)) m n
end
def mapO {α β : Type} (f : α → β) : Option α → Option β
  | none => none
  | some x => some (f x)

def intLt (a b : Int) : Bool := match a, b with
  | .ofNat a, .ofNat b => Nat.blt a b
  | .negSucc a, .negSucc b => Nat.blt b a
  | .negSucc _, .ofNat _ => true
  | .ofNat _, .negSucc _ => false
/-- A block of the abstract memory. 'cells c lo w e raw': c its cells; lo: so many cells at its begin may be shared with elder blocks; w: may the cells from lo on be stored to; e: may it be appended to at its end (it came of an append that grew: its capacity is not known). -/
inductive AObj where
  | cells (c : List Value) (lo : Nat) (w e : Bool)
  | map (es : List (Value × Value × Nat)) (clock : Nat)
  | loop (state : LoopState) (pending : Option Code) (fn : FuncId) (tmps : Tr Value) (nt : Nat) (params : List Tmp) (assign body : Code) (defers : Nat)
  | deferred (calls : Option (List Deferred))

structure AW where
  heap : Tr AObj
  size : Nat

structure AF where
  tmps : Tr Value
  nt : Nat
  defers : List Deferred
  fn : FuncId
  rnd : Option Nat

inductive AX where
  | normal
  | exit (id : Nat)
  | goto (l : Nat)
  | ret

structure Ans where
  x : AX
  a : AF
  v : Value
  w : AW

def AF.get (a : AF) (t : Tmp) : Value := match a.tmps.get t with | some v => v | none => undef

/-- the value of which nothing is known -/
def junk : Value := .chan none

/-- a value that leads nowhere, of one cell -/
def flat1 : Value → Bool
  | .bool _ => true
  | .int _ _ => true
  | .string _ => true
  | .pointer none => true
  | .slice none 0 0 => true
  | .map none => true
  | .nilFunc => true
  | .nilIface => true
  | _ => false

def allL {α : Type} (p : α → Bool) (l : List α) : Bool := !(anyL (fun x => !(p x)) l)

def flatV : Value → Bool
  | .agg cs => allL flat1 cs.toList
  | v => flat1 v

def AF.eval (gl : Nat → Bool) (a : AF) : Operand → Value
  | .tmp t => a.get t
  | .const v => match flatV v with | true => v | false => junk
  | .global g => match gl g with | true => .pointer (some ⟨g, 0, none⟩) | false => junk
  | .func f => .func (.func f) #[] #[]

def AF.put (a : AF) (d : Tmp) (v : Value) : Option AF :=
  match Nat.blt d a.nt with
  | true => match a.tmps.put v d with
    | some t => some { a with tmps := t }
    | none => none
  | false => none

def AF.putd (a : AF) (d : Option Tmp) (v : Value) : Option AF :=
  match d with
  | none => some a
  | some d => a.put d v

def kno : IntKind → Nat
  | .i8 => 0 | .i16 => 1 | .i32 => 2 | .i64 => 3 | .u8 => 4 | .u16 => 5 | .u32 => 6 | .u64 => 7

def eqI : Int → Int → Bool
  | .ofNat a, .ofNat b => Nat.beq a b
  | .negSucc a, .negSucc b => Nat.beq a b
  | _, _ => false

def eqO : Option Nat → Option Nat → Bool
  | none, none => true
  | some a, some b => Nat.beq a b
  | _, _ => false

def eqA : Addr → Addr → Bool
  | ⟨a, b, c⟩, ⟨a', b', c'⟩ => Nat.beq a a' && (Nat.beq b b' && eqO c c')

def eqOA : Option Addr → Option Addr → Bool
  | none, none => true
  | some a, some b => eqA a b
  | _, _ => false

/-- Are two values surely the same? (Of function values: only those that have captured nothing.) -/
def eqV1 : Value → Value → Bool
  | .bool a, .bool b => match a with | true => b | false => !b
  | .int k a, .int l b => Nat.beq (kno k) (kno l) && eqI a b
  | .pointer a, .pointer b => eqOA a b
  | .slice a n c, .slice b m d => Nat.beq n m && (Nat.beq c d && eqOA a b)
  | .map a, .map b => eqO a b
  | .nilFunc, .nilFunc => true
  | .nilIface, .nilIface => true
  | _, _ => false

def eqVs (l : List Value) : List Value → Bool := List.rec (motive := fun _ => List Value → Bool) (fun m => match m with | [] => true | _ => false) (fun x _ ih m => match m with | [] => false | y :: m => match eqV1 x y with | true => ih m | false => false) l

def eqV : Value → Value → Bool
  | .agg a, .agg b => eqVs a.toList b.toList
  | .iface t a, .iface u b => Nat.beq t u && eqV1 a b
  | .func (.func f) a b, .func (.func g) c d => Nat.beq f g && (eqVs a.toList c.toList && eqVs b.toList d.toList)
  | .func (.yield f) a b, .func (.yield g) c d => Nat.beq f g && (eqVs a.toList c.toList && eqVs b.toList d.toList)
  | a, b => eqV1 a b

/-- values put in slots, in turn -/
def bindA (ps : List Nat) : List Value → Tr Value → Nat → Option (Tr Value) := List.rec (motive := fun _ => List Value → Tr Value → Nat → Option (Tr Value)) (fun vs t _ => match vs with | [] => some t | _ => none) (fun p _ ih vs t n => match vs with
  | [] => none
  | v :: vs => match Nat.blt p n with
    | true => (match t.put v p with
      | some t => ih vs t n
      | none => none)
    | false => none) ps

def zeroV (P : Program) (t : TypeId) : Option Value := match P.info? t with
  | some i => i.zero
  | none => none

section
variable (P : Program)

/-- What a computation answers that looks at nothing but the program. -/
def purely {α : Type} : Sem α → Option α
  | .pure a => some a
  | .program k => match k P with
    | .pure a => some a
    | _ => none
  | _ => none

/-- a value that leads nowhere -/
def flatO : Option Value → Option Value
  | some v => match flatV v with | true => some v | false => none
  | none => none

def szOf (t : TypeId) : Option Nat := match P.info? t with | some i => some i.size | none => none

def isAggT (t : TypeId) : Option Bool := match P.underlying t with
  | some (.struct _) | some (.array _ _) => some true
  | some _ => some false
  | none => none

def AW.new (W : AW) (c : List Value) (lo : Nat) (e : Bool) : Option (Nat × AW) :=
  match W.heap.put (.cells c lo true e) W.size with
  | some h => some (W.size, { heap := h, size := W.size + 1 })
  | none => none

def AW.cellsAt (W : AW) (b off n : Nat) : Option (List Value) :=
  match W.heap.get b with
  | some (.cells c _ _ _) => takeO (drop c off) n
  | _ => none

def AW.storeAt (W : AW) (b off : Nat) (vs : List Value) : Option AW :=
  match W.heap.get b with
  | some (.cells c lo true e) => match Nat.ble lo off with
    | true => match spliceO c off vs with
      | some c' => match W.heap.put (.cells c' lo true e) b with
        | some h => some { W with heap := h }
        | none => none
      | none => none
    | false => none
  | _ => none

def addrOf : Value → Option (Nat × Nat)
  | .pointer (some ⟨b, o, none⟩) => some (b, o)
  | _ => none

def loadA (t : TypeId) (v : Value) (W : AW) : Option Value :=
  match addrOf v, szOf P t, isAggT P t with
  | some (b, o), some n, some true => match W.cellsAt b o n with
    | some l => some (.agg ⟨l⟩)
    | none => none
  | some (b, o), some _, some false => match W.cellsAt b o 1 with
    | some [x] => some x
    | _ => none
  | _, _, _ => none

/-- the cells of a value that is known -/
def cellsO : Value → Option (List Value)
  | .agg ⟨l⟩ => some l
  | .tuple _ => none
  | .chan _ => none
  | v => some [v]

def storeA (t : TypeId) (a v : Value) (W : AW) : Option AW :=
  match addrOf a, szOf P t with
  | some (b, o), some n => match cellsO v with
    | some l => match Nat.beq (len l) n with
      | true => W.storeAt b o l
      | false => none
    | none => none
  | _, _ => none

def zeroL (t : TypeId) : Option (List Value) := match P.info? t with
  | some i => match i.zero with
    | some v => match flatV v with
      | true => cellsO v
      | false => none
    | none => none
  | none => none

def fieldOf (t : TypeId) (f : Nat) : Option Field := match P.underlying t with
  | some (.struct fs) => lget fs.toList f
  | _ => none

def elemOfSlice (t : TypeId) : Option TypeId := match P.underlying t with
  | some (.slice e) => some e
  | _ => none

def intAt : Value → Option Int
  | .int _ n => some n
  | _ => none

def natOf (n : Int) : Option Nat := match n with
  | .ofNat n => some n
  | _ => none

/-- a bound of a slice expression: from lo to hi, or what stands for none -/
def boundA (v : Option Value) (none' hi : Nat) : Option Nat :=
  match v with
  | none => some none'
  | some v => match intAt v with
    | some n => match natOf n with
      | some n => match Nat.ble n hi with | true => some n | false => none
      | none => none
    | none => none

def sliceA (t : TypeId) (x : Value) (lo hi mx : Option Value) : Option Value :=
  match P.underlying t, x with
  | some (.slice e), .slice a n c => match szOf P e with
    | none => none
    | some s => match mx, hi with
      | some _, none => none
      | _, _ => match boundA mx c c with
        | none => none
        | some m => match boundA hi n m with
          | none => none
          | some h => match boundA lo 0 h with
            | none => none
            | some l => match a with
              | none => some (.slice none (Nat.sub h l) (Nat.sub m l))
              | some ⟨b, o, none⟩ => some (.slice (some ⟨b, Nat.add o (Nat.mul l s), none⟩) (Nat.sub h l) (Nat.sub m l))
              | some ⟨b, o, some z⟩ => match Nat.beq z s with
                | true => some (.slice (some ⟨b, Nat.add o (Nat.mul l s), match mx with | none => some z | some _ => none⟩) (Nat.sub h l) (Nat.sub m l))
                | false => none
  | some (.array n e), .pointer (some ⟨b, o, none⟩) => match szOf P e with
    | none => none
    | some s => match mx, hi with
      | some _, none => none
      | _, _ => match boundA mx n n with
        | none => none
        | some m => match boundA hi n m with
          | none => none
          | some h => match boundA lo 0 h with
            | none => none
            | some l => match Nat.beq m l with
              | true => none
              | false => some (.slice (some ⟨b, Nat.add o (Nat.mul l s), none⟩) (Nat.sub h l) (Nat.sub m l))
  | _, _ => none

def indexAddrA (t : TypeId) (x i : Value) : Option Value :=
  match intAt i with
  | none => none
  | some i => match natOf i with
    | none => none
    | some i => match P.underlying t, x with
      | some (.array n e), .pointer (some ⟨b, o, none⟩) => match Nat.blt i n, szOf P e with
        | true, some s => some (.pointer (some ⟨b, Nat.add o (Nat.mul i s), none⟩))
        | _, _ => none
      | some (.slice e), .slice (some ⟨b, o, _⟩) n _ => match Nat.blt i n, szOf P e with
        | true, some s => some (.pointer (some ⟨b, Nat.add o (Nat.mul i s), none⟩))
        | _, _ => none
      | _, _ => none

def partA (t : TypeId) (cs : List Value) (off : Nat) : Option Value :=
  match isAggT P t with
  | some true => match szOf P t with
    | some n => match takeO (drop cs off) n with
      | some l => some (.agg ⟨l⟩)
      | none => none
    | none => none
  | some false => lget cs off
  | none => none

/-- Are two lists of plain values the same? (none: it can't be told) -/
def sameLits : List Lit → List Lit → Option Bool
  | [], [] => some true
  | .bool a :: r, .bool b :: s => match sameLits r s with
    | some t => some ((match a with | true => b | false => !b) && t)
    | none => none
  | .int k a :: r, .int l b :: s => match Nat.beq (kno k) (kno l) with
    | true => match sameLits r s with
      | some t => some (eqI a b && t)
      | none => none
    | false => none
  | _, _ => none

/-- == of two values -/
def equalA (t : TypeId) (x y : Value) (const : Bool) : Option Bool :=
  match x, y with
  | .agg a, .agg b => match isAggT P t, P.keyTypeAt 12 t, P.eqGuardType P.depth t with
    | some true, true, false => match P.keyLits 12 t a.toList, P.keyLits 12 t b.toList with
      | some la, some lb => sameLits la lb
      | _, _ => none
    | _, _, _ => none
  | .bool a, .bool b => match P.underlying t with
    | some .bool => some (match a with | true => b | false => !b)
    | _ => none
  | .slice none _ _, .slice b _ _ => match P.underlying t with
    | some (.slice _) => some (match b with | none => true | some _ => false)
    | _ => none
  | .slice (some _) _ _, .slice none _ _ => match P.underlying t with
    | some (.slice _) => some false
    | _ => none
  | .pointer none, .pointer b => match P.underlying t with
    | some (.pointer _) => some (match b with | none => true | some _ => false)
    | _ => none
  | .pointer (some _), .pointer none => match P.underlying t with
    | some (.pointer _) => some false
    | _ => none
  | .nilIface, .nilIface => match P.underlying t, const with
    | some (.interface _), true => some true
    | _, _ => none
  | .nilIface, .iface _ _ => match P.underlying t with
    | some (.interface _) => some false
    | _ => none
  | .iface _ _, .nilIface => match P.underlying t with
    | some (.interface _) => some false
    | _ => none
  | _, _ => none

def isConstO : Operand → Bool
  | .const _ => true
  | _ => false

def binA (op : BinOp) (t : TypeId) (x y : Value) (const : Bool) : Option Value :=
  match x, y with
  | .int _ _, .int _ _ => flatO (purely P (binOp op t x y))
  | _, _ => match op with
    | .eql => match equalA P t x y const with | some b => some (.bool b) | none => none
    | .neq => match equalA P t x y const with | some b => some (.bool (!b)) | none => none
    | _ => none

def mapOps (ρ : Operand → Value) (xs : Array Operand) : List Value := mapL ρ xs.toList

def fillA (place : Nat → Option (Nat × Nat)) (cells : List Value) (ρ : Operand → Value) : List (Nat × Operand) → Option (List Value)
  | [] => some cells
  | (i, x) :: r => match place i with
    | none => none
    | some (off, size) => match cellsO (ρ x) with
      | none => none
      | some l => match Nat.beq (len l) size with
        | false => none
        | true => match spliceO cells off l with
          | some c => fillA place c ρ r
          | none => none

/-- where fields lie, and how many cells each has -/
def placesL : List Field → Option (List (Nat × Nat))
  | [] => some []
  | f :: r => match szOf P f.type, placesL r with
    | some s, some l => some ((f.offset, s) :: l)
    | _, _ => none

def placesA (t : TypeId) : Option (List (Nat × Nat)) := match P.underlying t with
  | some (.struct fs) => placesL P fs.toList
  | _ => none

def buildA (t : TypeId) (parts : Array (Nat × Operand)) (ρ : Operand → Value) : Option Value :=
  match zeroL P t, P.underlying t with
  | some z, some (.struct _) => match placesA P t with
    | some pl => match fillA (lget pl) z ρ parts.toList with
      | some l => some (.agg ⟨l⟩)
      | none => none
    | none => none
  | some z, some (.array _ e) => match szOf P e with
    | some s => match fillA (fun i => some (Nat.mul i s, s)) z ρ parts.toList with
      | some l => some (.agg ⟨l⟩)
      | none => none
    | none => none
  | _, _ => none

/-- a type's cells, and what they hold at first -/
def elemZ (e : TypeId) : Option (Nat × List Value) := match szOf P e, zeroL P e with
  | some s, some z => match Nat.beq (len z) s with
    | true => some (s, z)
    | false => none
  | _, _ => none

def bytesOk (e : TypeId) (most : Nat) : Bool := match P.info? e with
  | some i => Nat.ble i.bytes most
  | none => false

/-- a row of n such -/
def rowZ (e : TypeId) (n : Nat) : Option (Nat × List Value) := match elemZ P e with
  | some (s, z) => match Nat.ble (Nat.mul n s) 100000 with
    | true => match repO z n with
      | some zs => some (s, zs)
      | none => none
    | false => none
  | none => none

def buildSliceA (t : TypeId) (n : Nat) (parts : Array (Nat × Operand)) (ρ : Operand → Value) : Option (List Value) :=
  match elemOfSlice P t with
  | none => none
  | some e => match rowZ P e n with
    | some (s, zs) => fillA (fun i => some (Nat.mul i s, s)) zs ρ parts.toList
    | none => none

def makeSliceA (t : TypeId) (l c : Value) : Option (List Value × Nat × Nat) :=
  match elemOfSlice P t, intAt l, intAt c with
  | some e, some l, some c => match natOf l, natOf c with
    | some l, some c => match Nat.ble l c && (Nat.ble c 100000 && bytesOk P e 1000000) with
      | true => match rowZ P e c with
        | some (_, zs) => some (zs, l, c)
        | none => none
      | false => none
    | _, _ => none
  | _, _, _ => none

/-- the operations that leave the world, and do not look at it -/
def stillA (o : Oper) (ρ : Operand → Value) : Option Value :=
  match o.op with
  | .move x => some (ρ x)
  | .assign x => some (ρ x)
  | .pick c a b => match ρ c with
    | .bool true => some (ρ a)
    | .bool false => some (ρ b)
    | _ => none
  | .build t parts => buildA P t parts ρ
  | .nilCheck x => match ρ x with
    | .pointer (some a) => some (.pointer (some a))
    | .func (.func f) a b => some (.func (.func f) a b)
    | .func (.yield f) a b => some (.func (.yield f) a b)
    | .iface t v => some (.iface t v)
    | _ => none
  | .binOp op t x y _ => binA P op t (ρ x) (ρ y) (isConstO x || isConstO y)
  | .unOp op _ x => match ρ x with
    | .int k n => flatO (purely P (Op.unary op (.int k n)))
    | .bool b => match op with | .not => some (.bool (!b)) | _ => none
    | _ => none
  | .convert s d x => match P.underlying s, P.underlying d, ρ x with
    | some (.int _), some (.int k), .int _ n => some (.int k (k.wrap n))
    | _, _, _ => none
  | .makeFunc (.func f) first captured => some (.func (.func f) ⟨mapOps ρ first⟩ ⟨mapOps ρ captured⟩)
  | .slice t x lo hi mx => sliceA P t (ρ x) (mapO ρ lo) (mapO ρ hi) (mapO ρ mx)
  | .fieldAddr t x f => match ρ x, fieldOf P t f with
    | .pointer (some ⟨b, o, none⟩), some f => match szOf P f.type with
      | some (_ + 1) => some (.pointer (some ⟨b, Nat.add o f.offset, none⟩))
      | _ => none
    | _, _ => none
  | .field t x f => match ρ x, fieldOf P t f with
    | .agg cs, some f => partA P f.type cs.toList f.offset
    | _, _ => none
  | .indexAddr t x i => indexAddrA P t (ρ x) (ρ i)
  | .index t x i => match P.underlying t, ρ x, intAt (ρ i) with
    | some (.array n e), .agg cs, some i => match natOf i, szOf P e with
      | some i, some s => match Nat.blt i n with
        | true => partA P e cs.toList (Nat.mul i s)
        | false => none
      | _, _ => none
    | _, _, _ => none
  | .extract x i => match ρ x with
    | .tuple vs => lget vs.toList i
    | _ => none
  | .makeInterface t x => match P.underlying t with
    | some (.interface _) => none
    | some _ => some (.iface t (ρ x))
    | none => none
  | .typeAssert x _ t ok => match P.underlying t, ρ x with
    | some (.interface _), _ => none
    | some _, .iface u v => match Nat.beq u t, ok with
      | true, true => some (.tuple #[v, .bool true])
      | true, false => some v
      | false, true => match flatO (zeroV P t) with
        | some z => some (.tuple #[z, .bool false])
        | none => none
      | false, false => none
    | _, _ => none
  | .call { callee := .builtin .len, args, argTypes } => match argTypes.toList, args.toList with
    | t :: _, x :: _ => match P.underlying t, ρ x with
      | some (.slice _), .slice _ n _ => some (.int .i64 (Int.ofNat n))
      | some (.array n _), _ => some (.int .i64 (Int.ofNat n))
      | some (.pointer a), _ => match P.underlying a with
        | some (.array n _) => some (.int .i64 (Int.ofNat n))
        | _ => none
      | some .string, .string s => some (.int .i64 (Int.ofNat s.size))
      | _, _ => none
    | _, _ => none
  | .call { callee := .builtin .min, args, .. } => match args.toList with
    | [x, y] => match ρ x, ρ y with
      | .int k a, .int _ b => some (.int k (match intLt b a with | true => b | false => a))
      | _, _ => none
    | _ => none
  | .call { callee := .builtin .max, args, .. } => match args.toList with
    | [x, y] => match ρ x, ρ y with
      | .int k a, .int _ b => some (.int k (match intLt a b with | true => b | false => a))
      | _, _ => none
    | _ => none
  | _ => none

/-- the operations that make one new block, and look at no other: its cells, and what is told of it -/
def floatA (o : Oper) (ρ : Operand → Value) : Option (List Value × (Nat → Value)) :=
  match o.op with
  | .alloc t => match zeroL P t with
    | some z => some (z, fun b => .pointer (some ⟨b, 0, none⟩))
    | none => none
  | .box _ x => match cellsO (ρ x) with
    | some l => some (l, fun b => .pointer (some ⟨b, 0, none⟩))
    | none => none
  | .buildSlice t n parts => match buildSliceA P t n parts ρ with
    | some l => some (l, fun b => .slice (some ⟨b, 0, none⟩) n n)
    | none => none
  | .makeSlice t l c => match makeSliceA P t (ρ l) (ρ c) with
    | some (zs, l, c) => some (zs, fun b => .slice (some ⟨b, 0, none⟩) l c)
    | none => none
  | _ => none

def mostN (n : Nat) : Option Nat → Nat
  | none => n
  | some k => match Nat.ble n k with
    | true => n
    | false => k

/-- how many elements there are to be appended, or copied, and their cells -/
def sourceA (s : Nat) (x : Value) (most : Option Nat) (W : AW) : Option (Nat × List Value) :=
  match x with
  | .slice none _ _ => some (0, [])
  | .slice (some ⟨b, o, _⟩) m _ => match W.cellsAt b o (Nat.mul (mostN m most) s) with
    | some l => some (mostN m most, l)
    | none => none
  | _ => none

def isNilL {α : Type} : List α → Bool
  | [] => true
  | _ => false

def appendA (t : TypeId) (s x : Value) (W : AW) : Option (Value × AW) :=
  match elemOfSlice P t, s with
  | some e, .slice base n c => match elemZ P e, bytesOk P e 1000000 with
    | some (z, _), true => match sourceA z x none W with
      | none => none
      | some (m, new) => match Nat.ble (Nat.add n m) c with
        | true => match isNilL new with
          | true => some (.slice base (Nat.add n m) c, W)
          | false => match base with
            | some ⟨b, o, sp⟩ => match W.storeAt b (Nat.add o (Nat.mul n z)) new with
              | some W => some (.slice (some ⟨b, o, sp⟩) (Nat.add n m) c, W)
              | none => none
            | _ => none
        | false => match Nat.ble (Nat.add n m) 1000000 && Nat.ble 1 z with
          | false => none
          | true => match base with
            | none => match W.new new 0 true with
              | some (b, W) => some (.slice (some ⟨b, 0, some z⟩) m m, W)
              | none => none
            | some ⟨b, o, sp⟩ => match W.cellsAt b o (Nat.mul n z) with
              | some old => match appO old new with
                | none => none
                | some all => match sp with
                  | none => match W.new all 0 true with
                    | some (b, W) => some (.slice (some ⟨b, 0, some z⟩) (Nat.add n m) (Nat.add n m), W)
                    | none => none
                  | some y => match W.heap.get b with
                    | some (.cells cs lo true true) => match Nat.beq n c && Nat.beq y z with
                      | true => match W.heap.put (.cells cs lo false false) b with
                        | some h => match ({ W with heap := h } : AW).new all (Nat.mul n z) true with
                          | some (b, W) => some (.slice (some ⟨b, 0, some z⟩) (Nat.add n m) (Nat.add n m), W)
                          | none => none
                        | none => none
                      | false => none
                    | _ => none
              | none => none
    | _, _ => none
  | _, _ => none

def copyA (t : TypeId) (d x : Value) (W : AW) : Option (Value × AW) :=
  match elemOfSlice P t, d with
  | some e, .slice base n _ => match szOf P e with
    | some z => match sourceA z x (some n) W with
      | none => none
      | some (m, new) => match isNilL new with
        | true => some (.int .i64 (Int.ofNat m), W)
        | false => match base with
          | some ⟨b, o, _⟩ => match W.storeAt b o new with
            | some W => some (.int .i64 (Int.ofNat m), W)
            | none => none
          | _ => none
    | _ => none
  | _, _ => none

def findKeyA (q : IntKind) (k : Int) : List (Value × Value × Nat) → Option (Option Value)
  | [] => some none
  | (.int q' n, v, _) :: r => match Nat.beq (kno q) (kno q') with
    | true => match eqI k n with
      | true => some (some v)
      | false => findKeyA q k r
    | false => none
  | _ => none

def putKeyA (k : Int) (v : Value) : List (Value × Value × Nat) → Option (List (Value × Value × Nat))
  | [] => none
  | (.int q n, u, c) :: r => match eqI k n with
    | true => some ((.int q n, v, c) :: r)
    | false => match putKeyA k v r with
      | some r => some ((.int q n, u, c) :: r)
      | none => none
  | _ => none

/-- the operations that look at the world, and leave it -/
def readA (o : Oper) (ρ : Operand → Value) (W : AW) : Option Value :=
  match o.op with
  | .load t a => loadA P t (ρ a) W
  | .lookup t m k ok => match P.underlying t, ρ m, ρ k with
    | some (.map kt et), .map (some r), .int q n => match W.heap.get r, P.underlying kt, flatO (zeroV P et) with
      | some (.map es _), some (.int q'), some z => match Nat.beq (kno q) (kno q') with
        | true => match findKeyA q n es with
          | some (some v) => some (match ok with | true => .tuple #[v, .bool true] | false => v)
          | some none => some (match ok with | true => .tuple #[z, .bool false] | false => z)
          | none => none
        | false => none
      | _, _, _ => none
    | _, _, _ => none
  | _ => none

/-- the operations that change the world -/
def effectA (o : Oper) (ρ : Operand → Value) (W : AW) : Option (Value × AW) :=
  match o.op with
  | .store t a v => match storeA P t (ρ a) (ρ v) W with
    | some W => some (undef, W)
    | none => none
  | .makeMap _ none => match W.heap.put (.map [] 0) W.size with
    | some h => some (.map (some W.size), { heap := h, size := W.size + 1 })
    | none => none
  | .mapUpdate t m k v => match P.underlying t, ρ m, ρ k with
    | some (.map kt _), .map (some r), .int q n => match W.heap.get r, P.underlying kt with
      | some (.map es c), some (.int q') => match Nat.beq (kno q) (kno q') with
        | true => match findKeyA q n es with
          | some (some _) => match putKeyA n (ρ v) es with
            | some es => match W.heap.put (.map es c) r with
              | some h => some (undef, { W with heap := h })
              | none => none
            | none => none
          | some none => match appO es [(.int q n, ρ v, c)] with
            | some es => match W.heap.put (.map es (c + 1)) r with
              | some h => some (undef, { W with heap := h })
              | none => none
            | none => none
          | none => none
        | false => none
      | _, _ => none
    | _, _, _ => none
  | .call { callee := .builtin .append, args, argTypes } => match argTypes.toList, args.toList with
    | [t, u], [s, x] => match P.underlying u with
      | some (.int _) => none
      | some _ => appendA P t (ρ s) (ρ x) W
      | none => none
    | _, _ => none
  | .call { callee := .builtin .copy, args, argTypes } => match argTypes.toList, args.toList with
    | t :: _, [s, x] => copyA P t (ρ s) (ρ x) W
    | _, _ => none
  | .call { callee := .builtin .clear, args, argTypes } => match argTypes.toList, args.toList with
    | [t], [x] => match P.underlying t, ρ x with
      | some (.map _ _), .map (some r) => match W.heap.get r with
        | some (.map _ c) => match W.heap.put (.map [] c) r with
          | some h => some (.tuple #[], { W with heap := h })
          | none => none
        | _ => none
      | _, _ => none
    | _, _ => none
  | _ => none

inductive OpKind where
  | still | float | read | effect | calls | defers | no

def opKind (o : Oper) : OpKind :=
  match o.op with
  | .move _ | .assign _ | .pick .. | .build .. | .nilCheck _ | .binOp .. | .unOp .. | .convert .. | .makeFunc .. | .slice .. | .fieldAddr .. | .field .. | .indexAddr .. | .index .. | .extract .. | .makeInterface .. | .typeAssert .. => .still
  | .alloc _ | .box .. | .buildSlice .. | .makeSlice .. => .float
  | .load .. | .lookup .. => .read
  | .store .. | .makeMap .. | .mapUpdate .. => .effect
  | .call c => match c.callee with
    | .value _ => .calls
    | .invoke .. => .calls
    | .builtin b => match b with
      | .len | .min | .max => .still
      | .append | .copy | .clear => .effect
      | _ => .no
  | .defer _ => .defers
  | _ => .no

def wantedA (all : List Oper) (o : Oper) (a : AF) : Option Bool :=
  match o.guard with
  | none => some true
  | some (j, want) => match lget all j with
    | some g => match g.dst with
      | some d => match a.get d with
        | .bool true => some want
        | .bool false => some (!want)
        | .chan _ => none
        | _ => some false
      | none => some false
    | none => some false

/-- The function that a call calls, and its arguments. -/
def calleeA (meth : TypeId → String → Option FuncId) (c : Call) (ρ : Operand → Value) : Option (Fn × List Value × List Value) :=
  match c.callee with
  | .value f => match ρ f with
    | .func fn first captured => match appO first.toList (mapOps ρ c.args) with
      | some args => some (fn, args, captured.toList)
      | none => none
    | _ => none
  | .invoke r name => match ρ r with
    | .iface t v => match meth t name with
      | some f => some (.func f, v :: mapOps ρ c.args, [])
      | none => none
    | _ => none
  | .builtin _ => none

/-- what comes ahead of an operation, by its edges, as bits -/
def maskA : List Edge → List Nat → Nat → Option Nat
  | [], _, m => some m
  | e :: r, acc, m => match Region.binds .any e with
    | true => match lget acc e.on with
      | some k => maskA r acc (Nat.lor (Nat.lor m (Nat.pow 2 e.on)) k)
      | none => none
    | false => maskA r acc m

/-- which operations come ahead of each, as bits -/
def masksA : List Oper → List Nat → Option (List Nat)
  | [], acc => some acc
  | o :: r, acc => match maskA o.after.toList acc 0 with
    | some m => match appO acc [m] with
      | some acc => masksA r acc
      | none => none
    | none => none

def isEff (o : Oper) : Bool := match opKind o with
  | .effect => true
  | .calls => true
  | _ => false

/-- An operation of a region: its number, itself, what comes ahead of it. -/
structure Item' where
  i : Nat
  o : Oper
  m : Nat

def itemsA : Nat → List Oper → List Nat → List Item'
  | n, o :: r, m :: s => ⟨n, o, m⟩ :: itemsA (Nat.succ n) r s
  | _, _, _ => []

def keepL {α : Type} (p : α → Bool) : List α → List α
  | [] => []
  | x :: r => match p x with
    | true => x :: keepL p r
    | false => keepL p r

/-- the effects in turn; each other operation as early as it may come -/
def planB : List Item' → List Item' → List Item'
  | [], ne => ne
  | e :: es, ne => keepL (fun x => !(Nat.testBit x.m e.i)) ne ++ (e :: planB es (keepL (fun x => Nat.testBit x.m e.i) ne))

def tmpOf : Operand → Option Tmp
  | .tmp t => some t
  | _ => none

def eqT : Option Tmp → Option Tmp → Bool
  | some a, some b => Nat.beq a b
  | _, _ => false

/-- Does it look at what is told of a slot? -/
def looksA (all : List Oper) (o : Oper) (d : Option Tmp) : Bool :=
  anyL (fun x => eqT (tmpOf x) d) o.op.operands.toList || (match o.guard with
    | some (g, _) => (match lget all g with | some q => eqT q.dst d | none => false)
    | none => false)

/-- May two operations come either way round, as for what they look at and where they put it? -/
def apartA (all : List Oper) (x y : Oper) : Bool := !(looksA all y x.dst) && (!(looksA all x y.dst) && !(eqT x.dst y.dst))

def pairOk (all : List Oper) (x y : Item') : Bool :=
  !(Nat.beq x.i y.i) && (match Nat.testBit y.m x.i with
    | true => true
    | false => !(isEff x.o) && apartA all x.o y.o)

def pairsOk (all : List Oper) : List Item' → Bool
  | [] => true
  | x :: r => allL (fun y => pairOk all x y) r && pairsOk all r

/-- In which turn a region that draws its order is reckoned: each other turn that it may draw comes to the same. -/
def planA (all : List Oper) : Option (List Item') :=
  match masksA all [] with
  | some ms =>
    let items := itemsA 0 all ms
    let plan := planB (keepL (fun x => isEff x.o) items) (keepL (fun x => !(isEff x.o)) items)
    match pairsOk all plan with
    | true => some plan
    | false => none
  | none => none

/-- What is to hold still, so that an operation may come later too. -/
def recOf (o : Oper) (ρ : Operand → Value) (v : Value) (b : Nat) : AW → Bool :=
  match opKind o with
  | .read => fun W => match readA P o ρ W with | some v' => eqV v v' | none => false
  | .float => fun W => match floatA P o ρ, W.heap.get b with
    | some (c, _), some (.cells c' 0 true false) => eqVs c c'
    | _, _ => false
  | _ => fun _ => true

def recd (o : Oper) : Bool := match opKind o with
  | .read => true
  | .float => true
  | _ => false

def recsOk (w : AW) : List (Nat × (AW → Bool)) → Bool
  | [] => true
  | (_, f) :: r => match f w with
    | true => recsOk w r
    | false => false

inductive Task where
  | code (c : Code)
  | scope (body cur : Code)
  | ops (all rest : List Oper)
  | dops (all : List Oper) (rest : List Item') (recs : List (Nat × (AW → Bool)))
  | apply (fn : Fn) (args captured : List Value)
  | call (f : FuncId) (args : List Value)
  | dcall (f : FuncId) (args : List Value)
  | body (fn : Func) (f : FuncId) (args : List Value)
  | unwind (ds : List Deferred)

structure Orc where
  gl : Nat → Bool
  meth : TypeId → String → Option FuncId
  special : FuncId → Bool
  run : FuncId → List Value → AW → Option (Value × AW)

def resultsA (a : AF) (W : AW) : List ResultVar → Option (List Value)
  | [] => some []
  | .tmp t :: r => match resultsA a W r with
    | some vs => some (a.get t :: vs)
    | none => none
  | .cell c t :: r => match loadA P t (a.get c) W, resultsA a W r with
    | some v, some vs => some (v :: vs)
    | _, _ => none

def oneA : List Value → Value
  | [v] => v
  | vs => .tuple ⟨vs⟩

/-- One operation. -/
def opA (orc : Orc) (ev : Task → AF → AW → Option Ans) (o : Oper) (a : AF) (w : AW) : Option (Value × AW) :=
  match opKind o with
  | .still => match stillA P o (a.eval orc.gl) with
    | some v => some (v, w)
    | none => none
  | .read => match readA P o (a.eval orc.gl) w with
    | some v => some (v, w)
    | none => none
  | .float => match floatA P o (a.eval orc.gl) with
    | some (c, v) => match w.new c 0 false with
      | some (b, w) => some (v b, w)
      | none => none
    | none => none
  | .effect => effectA P o (a.eval orc.gl) w
  | .calls => match o.op with
    | .call c => match calleeA orc.meth c (a.eval orc.gl) with
      | some (fn, args, captured) => match ev (.apply fn args captured) ⟨.nil, 0, [], 0, none⟩ w with
        | some ⟨_, _, v, w⟩ => some (v, w)
        | none => none
      | none => none
    | _ => none
  | .defers => none
  | .no => none

/-- A call that is to come where the function leaves. -/
def deferA (gl : Nat → Bool) (o : Oper) (a : AF) : Option Deferred :=
  match o.op with
  | .defer { callee := .value f, args, .. } => match a.rnd, a.eval gl f with
    | none, .func fn first captured => match appO first.toList (mapOps (a.eval gl) args) with
      | some args => some { target := .fn fn captured, args := ⟨args⟩ }
      | none => none
    | _, _ => none
  | _ => none

def hasBody (f : FuncId) : Bool := match lget P.funcs.toList f with
  | some fn => (match fn.body with | some _ => true | none => false)
  | none => false

/-- A round begins: the loop is busy. -/
def AW.begins (w : AW) (l : Nat) : Option AW := match w.heap.get l with
  | some (.loop .ready p fn tmps nt ps asg body d) => match w.heap.put (.loop .busy p fn tmps nt ps asg body d) l with
    | some h => some { w with heap := h }
    | none => none
  | _ => none

/-- A round ends, with a jump or none. -/
def AW.ends (w : AW) (l : Nat) (jump : Option Code) : Option AW := match w.heap.get l with
  | some (.loop _ _ fn tmps nt ps asg body d) => match w.heap.put (.loop (match jump with | none => .ready | some _ => .done) jump fn tmps nt ps asg body d) l with
    | some h => some { w with heap := h }
    | none => none
  | _ => none

/-- A range over a function is entered: what is to be done where the function leaves, and the loop. -/
def enterA (a : AF) (params : Array Tmp) (assign body : Code) (w : AW) : Option (List Deferred × Nat × AW) :=
  match a.rnd with
  | some l => match w.heap.get l with
    | some (.loop _ _ _ _ _ _ _ _ d) => match w.heap.put (.loop .ready none a.fn a.tmps a.nt params.toList assign body d) w.size with
      | some h => some ([], w.size, { heap := h, size := w.size + 1 })
      | none => none
    | _ => none
  | none => match w.heap.put (.deferred (some [])) w.size with
    | some h => match h.put (.loop .ready none a.fn a.tmps a.nt params.toList assign body w.size) (w.size + 1) with
      | some h => some ([{ target := .collected w.size, args := #[] }], w.size + 1, { heap := h, size := w.size + 1 + 1 })
      | none => none
    | none => none

/-- .. is left, with a jump or none. -/
def AW.leaves (w : AW) (l : Nat) : Option (Option Code × AW) := match w.heap.get l with
  | some (.loop st pending fn tmps nt ps asg body d) => match st with
    | .busy => none
    | _ => match w.heap.put (.loop .exhausted pending fn tmps nt ps asg body d) l with
      | some h => some (pending, { w with heap := h })
      | none => none
  | _ => none

def jumpOf : AX → Option Code
  | .normal => none
  | .exit id => some (.exit id)
  | .goto j => some (.goto j)
  | .ret => some .ret

/-- One step of the evaluator; 'ev' is the evaluator with less fuel. -/
def stepA (orc : Orc) (ev : Task → AF → AW → Option Ans) : Task → AF → AW → Option Ans
  | .code c, a, w =>
    match c with
    | .skip => some ⟨.normal, a, undef, w⟩
    | .label _ => some ⟨.normal, a, undef, w⟩
    | .ret => some ⟨.ret, a, undef, w⟩
    | .exit id => some ⟨.exit id, a, undef, w⟩
    | .goto l => some ⟨.goto l, a, undef, w⟩
    | .refuse _ => none
    | .seq x y => match ev (.code x) a w with
      | some ⟨.normal, a, _, w⟩ => ev (.code y) a w
      | some ⟨.exit id, a, v, w⟩ => some ⟨.exit id, a, v, w⟩
      | some ⟨.goto l, a, v, w⟩ => some ⟨.goto l, a, v, w⟩
      | some ⟨.ret, a, v, w⟩ => some ⟨.ret, a, v, w⟩
      | none => none
    | .cond c t e => match a.eval orc.gl c with
      | .bool true => ev (.code t) a w
      | .bool false => ev (.code e) a w
      | _ => none
    | .block id c => match ev (.code c) a w with
      | some ⟨.exit id', a, v, w⟩ => match Nat.beq id' id with
        | true => some ⟨.normal, a, v, w⟩
        | false => some ⟨.exit id', a, v, w⟩
      | some ⟨.normal, a, v, w⟩ => some ⟨.normal, a, v, w⟩
      | some ⟨.goto l, a, v, w⟩ => some ⟨.goto l, a, v, w⟩
      | some ⟨.ret, a, v, w⟩ => some ⟨.ret, a, v, w⟩
      | none => none
    | .loop c => match ev (.code c) a w with
      | some ⟨.normal, a, _, w⟩ => ev (.code (.loop c)) a w
      | some ⟨.exit id, a, v, w⟩ => some ⟨.exit id, a, v, w⟩
      | some ⟨.goto l, a, v, w⟩ => some ⟨.goto l, a, v, w⟩
      | some ⟨.ret, a, v, w⟩ => some ⟨.ret, a, v, w⟩
      | none => none
    | .scope c => ev (.scope c c) a w
    | .region _ ops draw => match draw with
      | false => ev (.ops ops.toList ops.toList) a w
      | true => match planA ops.toList with
        | some plan => ev (.dops ops.toList plan []) a w
        | none => none
    | .rangeFunc f params assign body => match enterA a params assign body w with
      | none => none
      | some (mark, l, w) => match a.eval orc.gl f with
        | .func (.func g) first captured => match appO first.toList (.func (.yield l) #[] #[] :: captured.toList), appO mark a.defers, hasBody P g with
          | some args, some ds, true => match ev (.call g args) a w with
            | none => none
            | some ⟨_, _, _, w⟩ => match w.leaves l with
              | some (none, w) => some ⟨.normal, { a with defers := ds }, undef, w⟩
              | some (some j, w) => ev (.code j) { a with defers := ds } w
              | none => none
          | _, _, _ => none
        | _ => none
  | .scope body cur, a, w => match ev (.code cur) a w with
    | some ⟨.goto l, a, v, w⟩ => match findLabel body l with
      | some rest => ev (.scope body rest) a w
      | none => some ⟨.goto l, a, v, w⟩
    | some ⟨.normal, a, v, w⟩ => some ⟨.normal, a, v, w⟩
    | some ⟨.exit id, a, v, w⟩ => some ⟨.exit id, a, v, w⟩
    | some ⟨.ret, a, v, w⟩ => some ⟨.ret, a, v, w⟩
    | none => none
  | .ops all rest, a, w => match rest with
    | [] => some ⟨.normal, a, undef, w⟩
    | o :: rest => match wantedA all o a with
      | none => none
      | some false => match a.putd o.dst undef with
        | some a => ev (.ops all rest) a w
        | none => none
      | some true => match opKind o with
        | .defers => match deferA orc.gl o a with
          | some d => match ({ a with defers := d :: a.defers } : AF).putd o.dst undef with
            | some a => ev (.ops all rest) a w
            | none => none
          | none => none
        | _ => match opA P orc ev o a w with
          | some (v, w) => match a.putd o.dst v with
            | some a => ev (.ops all rest) a w
            | none => none
          | none => none
  | .dops all rest recs, a, w => match rest with
    | [] => match recsOk w recs with
      | true => some ⟨.normal, a, undef, w⟩
      | false => none
    | ⟨i, o, m⟩ :: rest => match isEff o with
      | true => match recsOk w recs with
        | false => none
        | true => match wantedA all o a with
          | none => none
          | some false => match a.putd o.dst undef with
            | some a => ev (.dops all rest (keepL (fun x => !(Nat.testBit m x.1)) recs)) a w
            | none => none
          | some true => match opA P orc ev o a w with
            | some (v, w) => match a.putd o.dst v with
              | some a => ev (.dops all rest (keepL (fun x => !(Nat.testBit m x.1)) recs)) a w
              | none => none
            | none => none
      | false => match wantedA all o a with
        | none => none
        | some false => match a.putd o.dst undef with
          | some a => ev (.dops all rest recs) a w
          | none => none
        | some true => match opA P orc ev o a w with
          | some (v, w') => match a.putd o.dst v with
            | some a' => match recd o with
              | true => ev (.dops all rest ((i, recOf P o (a.eval orc.gl) v w.size) :: recs)) a' w'
              | false => ev (.dops all rest recs) a' w'
            | none => none
          | none => none
  | .apply fn args captured, a, w =>
    match fn with
    | .func f => match appO args captured with
      | some args => match orc.special f with
        | true => match orc.run f args w with
          | some (v, w) => some ⟨.normal, a, v, w⟩
          | none => none
        | false => match hasBody P f with
          | true => ev (.call f args) a w
          | false => none
      | none => none
    | .yield l => match w.heap.get l with
      | some (.loop .ready _ fn tmps nt params assign body _) => match bindA params args tmps nt with
        | none => none
        | some t => match ev (.code assign) { tmps := t, nt, defers := [], fn, rnd := some l } w with
          | some ⟨.normal, a', _, w⟩ => match w.begins l with
            | none => none
            | some w => match ev (.code body) a' w with
              | none => none
              | some ⟨x, _, _, w⟩ => match w.ends l (jumpOf x) with
                | some w => some ⟨.normal, a, .bool (match jumpOf x with | none => true | some _ => false), w⟩
                | none => none
          | _ => none
      | _ => none
    | _ => none
  | .call f args, _, w =>
    match lget P.funcs.toList f with
    | none => none
    | some fn => match ev (.body fn f args) ⟨.nil, 0, [], 0, none⟩ w with
      | none => none
      | some ⟨_, a, _, w⟩ => match ev (.unwind a.defers) a w with
        | none => none
        | some ⟨_, _, _, w⟩ => match resultsA P a w fn.results.toList with
          | some vs => some ⟨.normal, a, oneA vs, w⟩
          | none => none
  | .dcall f args, _, w =>
    match lget P.funcs.toList f with
    | none => none
    | some fn => match ev (.body fn f args) ⟨.nil, 0, [], 0, none⟩ w with
      | none => none
      | some ⟨_, a, _, w⟩ => match a.defers with
        | [] => match resultsA P a w fn.results.toList with
          | some vs => some ⟨.normal, a, oneA vs, w⟩
          | none => none
        | _ => none
  | .body fn f args, _, w =>
    match fn.body, bindA (upto 0 (len args)) args .nil (Nat.max fn.ntmps (len args)) with
    | some body, some t => match ev (.code body) { tmps := t, nt := Nat.max fn.ntmps (len args), defers := [], fn := f, rnd := none } w with
      | some ⟨.ret, a, v, w⟩ => some ⟨.ret, a, v, w⟩
      | some ⟨.normal, a, v, w⟩ => some ⟨.normal, a, v, w⟩
      | _ => none
    | _, _ => none
  | .unwind ds, a, w => match ds with
    | [] => some ⟨.normal, a, undef, w⟩
    | d :: ds => match d.target with
      | .collected b => match w.heap.get b with
        | some (.deferred (some [])) => match w.heap.put (.deferred none) b with
          | some h => ev (.unwind ds) a { w with heap := h }
          | none => none
        | _ => none
      | .fn (.func f) captured => match appO d.args.toList captured.toList with
        | some args => match ev (.dcall f args) a w with
          | some ⟨_, _, _, w⟩ => ev (.unwind ds) a w
          | none => none
        | none => none
      | _ => none
end

/-- The evaluator, with so much fuel. -/
def ev (P : Program) (orc : Orc) (n : Nat) : Task → AF → AW → Option Ans :=
  Nat.rec (motive := fun _ => Task → AF → AW → Option Ans) (fun _ _ _ => none) (fun _ ih => stepA P orc ih) n
/-- A number reckoned out. -/
def forceN {β : Type} (n : Nat) (k : Nat → β) : β := Nat.rec (motive := fun _ => β) (k 0) (fun m _ => k (Nat.succ m)) n

def m32 (n : Nat) : Nat := Nat.mod n 4294967296
def rotr (x n : Nat) : Nat := Nat.lor (Nat.shiftRight x n) (m32 (Nat.shiftLeft x (Nat.sub 32 n)))
def sig0 (x : Nat) : Nat := Nat.xor (Nat.xor (rotr x 7) (rotr x 18)) (Nat.shiftRight x 3)
def sig1 (x : Nat) : Nat := Nat.xor (Nat.xor (rotr x 17) (rotr x 19)) (Nat.shiftRight x 10)
def sum0 (x : Nat) : Nat := Nat.xor (Nat.xor (rotr x 2) (rotr x 13)) (rotr x 22)
def sum1 (x : Nat) : Nat := Nat.xor (Nat.xor (rotr x 6) (rotr x 11)) (rotr x 25)
def chF (e f g : Nat) : Nat := Nat.xor (Nat.land e f) (Nat.land (Nat.sub 4294967295 e) g)
def majF (a b c : Nat) : Nat := Nat.xor (Nat.xor (Nat.land a b) (Nat.land a c)) (Nat.land b c)

structure S8 where
  a : Nat
  b : Nat
  c : Nat
  d : Nat
  e : Nat
  f : Nat
  g : Nat
  h : Nat

def round8 (s : S8) (k w : Nat) : S8 :=
  match s with
  | ⟨a, b, c, d, e, f, g, h⟩ =>
    forceN (m32 (h + sum1 e + chF e f g + k + w)) fun one => forceN (m32 (sum0 a + majF a b c)) fun two => forceN (m32 (one + two)) fun x => forceN (m32 (d + one)) fun y => ⟨x, a, b, c, y, e, f, g⟩

/-- The word behind sixteen, the last one first. -/
def word (l : List Nat) : Option Nat :=
  match lget l 15, lget l 14, lget l 6, lget l 1 with
  | some a, some b, some c, some d => some (m32 (a + sig0 b + c + sig1 d))
  | _, _, _, _ => none

/-- n words more. -/
def words (n : Nat) (l : List Nat) : Option (List Nat) :=
  match n with
  | 0 => some l
  | n + 1 => match word l with
    | some w => forceN w fun w => words n (w :: l)
    | none => none

def rounds8 : List Nat → List Nat → S8 → S8
  | k :: ks, w :: ws, s => match round8 s k w with
    | ⟨a, b, c, d, e, f, g, h⟩ => rounds8 ks ws ⟨a, b, c, d, e, f, g, h⟩
  | _, _, s => s

/-- sixteen words of 64 bytes, the last one first -/
def wordsOf : List Nat → List Nat → Option (List Nat)
  | [], acc => some acc
  | a :: b :: c :: d :: r, acc => forceN (a * 16777216 + b * 65536 + c * 256 + d) fun w => wordsOf r (w :: acc)
  | _, _ => none

def revL {α : Type} : List α → List α → List α
  | [], acc => acc
  | x :: r, acc => revL r (x :: acc)

def shaBlock (k : List Nat) (s : S8) (b : List Nat) : Option S8 :=
  match wordsOf b [] with
  | none => none
  | some l => match words 48 l with
    | none => none
    | some l => match rounds8 k (revL l []) s with
      | ⟨a, b, c, d, e, f, g, h⟩ => match s with
        | ⟨a', b', c', d', e', f', g', h'⟩ => some ⟨m32 (a' + a), m32 (b' + b), m32 (c' + c), m32 (d' + d), m32 (e' + e), m32 (f' + f), m32 (g' + g), m32 (h' + h)⟩

def natsOf (k : IntKind) : List Value → Option (List Nat)
  | [] => some []
  | .int q (.ofNat n) :: r => match Nat.beq (kno q) (kno k), natsOf k r with
    | true, some l => some (n :: l)
    | _, _ => none
  | _ => none

def u32 (n : Nat) : Value := forceN n fun n => .int .u32 (.ofNat n)

/-- What '(*state).block' does: the oracle's word. -/
def blockA (K : List Nat) (args : List Value) (W : AW) : Option (Value × AW) :=
  match args with
  | [p, .slice (some ⟨b, o, _⟩) n _] => match addrOf p, Nat.ble 64 n with
    | some (bs, os), true => match W.cellsAt bs os 8, W.cellsAt b o 64 with
      | some st, some by' => match natsOf .u32 st, natsOf .u8 by' with
        | some [a, b, c, d, e, f, g, h], some bl => match shaBlock K ⟨a, b, c, d, e, f, g, h⟩ bl with
          | some ⟨a, b, c, d, e, f, g, h⟩ => match W.storeAt bs os [u32 a, u32 b, u32 c, u32 d, u32 e, u32 f, u32 g, u32 h] with
            | some W => some (.tuple #[], W)
            | none => none
          | none => none
        | _, _ => none
      | _, _ => none
    | _, _ => none
  | _ => none

/-- 'bytealg.MakeNoZero': bytes of which nothing is known. -/
def noZeroA (args : List Value) (W : AW) : Option (Value × AW) :=
  match args with
  | [.int .i64 (.ofNat n)] => match Nat.ble n 100000, repO [junk] n with
    | true, some l => match W.new l 0 true with
      | some (b, W) => some (.slice (some ⟨b, 0, some 1⟩) n n, W)
      | none => none
    | _, _ => none
  | _ => none

/-- 'bits.Add64' -/
def add64A (args : List Value) (W : AW) : Option (Value × AW) :=
  match args with
  | [.int .u64 (.ofNat x), .int .u64 (.ofNat y), .int .u64 (.ofNat c)] => match Nat.ble c 1 with
    | true => some (.tuple #[.int .u64 (.ofNat (Nat.mod (x + y + c) 18446744073709551616)), .int .u64 (.ofNat (Nat.div (x + y + c) 18446744073709551616))], W)
    | false => none
  | _ => none

end
end Go.Ev
