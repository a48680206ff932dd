/- The abstract machine: values, heaps, operations, code. Own work. -/
import Derived.Orders
import Derived.LoopN
import Derived.Scope
import Derived.Below
namespace Go.AM
open Go

/-- Abstract values. 'bad': nothing is known of it. -/
inductive AV where
  | bad
  | bool (b : Bool)
  | int (k : IntKind) (n : Int)
  | str (s : List UInt8)
  | nilp
  | ptr (b o : Nat)
  | nils
  | sl (b o len cap sz : Nat) (ex : Bool)
  | nilm
  | mp (b : Nat)
  | nilf
  | fn (f : Nat) (first caps : List AV)
  | agg (cs : List AV)
  | tup (vs : List AV)
  | yld (b : Nat)
  | lst (ex : Bool) (sz n : Nat) (cs : List AV)
  | fp (cs : List AV)
  | mark (ds : List Nat)
  deriving Inhabited

/-- How a piece of code ends. -/
inductive Ex where
  | normal | exit (id : Nat) | ret

/-- The number under which a call of a loop's body goes. -/
def YLD : Nat := 4000000000
/-- The slot of a frame's marks. -/
def HID : Nat := 4000000001

def AV.cells : AV → Option (List AV)
  | .agg cs => some cs
  | .tup _ => none
  | .bad => none
  | .mark _ => none
  | v => some [v]

def AV.one : AV → Bool
  | .agg _ | .tup _ | .bad | .mark _ => false
  | _ => true

def ofScalar : Value → AV
  | .bool b => .bool b
  | .int k n => .int k n
  | .string s => .str s.data.toList
  | .pointer none => .nilp
  | .slice none 0 0 => .nils
  | .map none => .nilm
  | .nilFunc => .nilf
  | _ => .bad

def ofConst : Value → AV
  | .agg cs => .agg (cs.toList.map ofScalar)
  | v => ofScalar v

/-- Trees over numbers. -/
inductive PT (α : Type) where
  | leaf
  | node (v : Option α) (l r : PT α)

namespace PT
variable {α : Type}
def get : PT α → Nat → Option α
  | .leaf, _ => none
  | .node v l r, n => match Nat.beq n 0 with
    | true => v
    | false => match Nat.beq (n % 2) 1 with
      | true => l.get (n / 2)
      | false => r.get (n / 2 - 1)

def setF : Nat → PT α → Nat → α → PT α
  | 0, t, _, _ => t
  | k + 1, .leaf, n, x => match Nat.beq n 0 with
    | true => .node (some x) .leaf .leaf
    | false => match Nat.beq (n % 2) 1 with
      | true => .node none (setF k .leaf (n / 2) x) .leaf
      | false => .node none .leaf (setF k .leaf (n / 2 - 1) x)
  | k + 1, .node v l r, n, x => match Nat.beq n 0 with
    | true => .node (some x) l r
    | false => match Nat.beq (n % 2) 1 with
      | true => .node v (setF k l (n / 2) x) r
      | false => .node v l (setF k r (n / 2 - 1) x)

def set (t : PT α) (n : Nat) (x : α) : PT α := setF (n + 1) t n x

theorem get_setF : ∀ (k : Nat) (t : PT α) (n m : Nat) (x : α), n < k → (setF k t n x).get m = if m = n then some x else t.get m := by
  intro k
  induction k with
  | zero => intro t n m x h; omega
  | succ k ih =>
    intro t n m x h
    cases t with
    | leaf =>
      unfold setF
      cases h0 : Nat.beq n 0 with
      | true =>
        have hn : n = 0 := Nat.eq_of_beq_eq_true h0
        subst hn
        simp only [get]
        cases hm : Nat.beq m 0 with
        | true => have := Nat.eq_of_beq_eq_true hm; simp [this]
        | false => have := Nat.ne_of_beq_eq_false hm; simp [this]; split <;> rfl
      | false =>
        have hn : n ≠ 0 := Nat.ne_of_beq_eq_false h0
        cases h1 : Nat.beq (n % 2) 1 with
        | true =>
          have hn1 : n % 2 = 1 := Nat.eq_of_beq_eq_true h1
          simp only [get]
          cases hm : Nat.beq m 0 with
          | true => have := Nat.eq_of_beq_eq_true hm; simp; omega
          | false =>
            have hm0 := Nat.ne_of_beq_eq_false hm
            cases hm1 : Nat.beq (m % 2) 1 with
            | true =>
              have hm2 : m % 2 = 1 := Nat.eq_of_beq_eq_true hm1
              simp only [ih _ _ _ _ (show n / 2 < k by omega), get]
              by_cases e : m = n
              · subst e; simp
              · have : m / 2 ≠ n / 2 := by omega
                simp [e, this]
            | false =>
              have hm2 := Nat.ne_of_beq_eq_false hm1
              have e : m ≠ n := by intro e; subst e; exact hm2 hn1
              simp [e]
        | false =>
          have hn1 := Nat.ne_of_beq_eq_false h1
          simp only [get]
          cases hm : Nat.beq m 0 with
          | true => have := Nat.eq_of_beq_eq_true hm; simp; omega
          | false =>
            have hm0 := Nat.ne_of_beq_eq_false hm
            cases hm1 : Nat.beq (m % 2) 1 with
            | true =>
              have hm2 : m % 2 = 1 := Nat.eq_of_beq_eq_true hm1
              have e : m ≠ n := by intro e; subst e; exact hn1 hm2
              simp [e]
            | false =>
              have hm2 := Nat.ne_of_beq_eq_false hm1
              simp only [ih _ _ _ _ (show n / 2 - 1 < k by omega), get]
              by_cases e : m = n
              · subst e; simp
              · have : m / 2 - 1 ≠ n / 2 - 1 := by omega
                simp [e, this]
    | node v l r =>
      unfold setF
      cases h0 : Nat.beq n 0 with
      | true =>
        have hn : n = 0 := Nat.eq_of_beq_eq_true h0
        subst hn
        simp only [get]
        cases hm : Nat.beq m 0 with
        | true => have := Nat.eq_of_beq_eq_true hm; simp [this]
        | false => have := Nat.ne_of_beq_eq_false hm; simp [this]
      | false =>
        have hn : n ≠ 0 := Nat.ne_of_beq_eq_false h0
        cases h1 : Nat.beq (n % 2) 1 with
        | true =>
          have hn1 : n % 2 = 1 := Nat.eq_of_beq_eq_true h1
          simp only [get]
          cases hm : Nat.beq m 0 with
          | true => have := Nat.eq_of_beq_eq_true hm; have e : m ≠ n := by omega
                    simp [e]
          | false =>
            have hm0 := Nat.ne_of_beq_eq_false hm
            cases hm1 : Nat.beq (m % 2) 1 with
            | true =>
              have hm2 : m % 2 = 1 := Nat.eq_of_beq_eq_true hm1
              simp only [ih _ _ _ _ (show n / 2 < k by omega)]
              by_cases e : m = n
              · subst e; simp
              · have : m / 2 ≠ n / 2 := by omega
                simp [e, this]
            | false =>
              have hm2 := Nat.ne_of_beq_eq_false hm1
              have e : m ≠ n := by intro e; subst e; exact hm2 hn1
              simp [e]
        | false =>
          have hn1 := Nat.ne_of_beq_eq_false h1
          simp only [get]
          cases hm : Nat.beq m 0 with
          | true => have := Nat.eq_of_beq_eq_true hm; have e : m ≠ n := by omega
                    simp [e]
          | false =>
            have hm0 := Nat.ne_of_beq_eq_false hm
            cases hm1 : Nat.beq (m % 2) 1 with
            | true =>
              have hm2 : m % 2 = 1 := Nat.eq_of_beq_eq_true hm1
              have e : m ≠ n := by intro e; subst e; exact hn1 hm2
              simp [e]
            | false =>
              have hm2 := Nat.ne_of_beq_eq_false hm1
              simp only [ih _ _ _ _ (show n / 2 - 1 < k by omega)]
              by_cases e : m = n
              · subst e; simp
              · have : m / 2 - 1 ≠ n / 2 - 1 := by omega
                simp [e, this]

theorem get_set (t : PT α) (n m : Nat) (x : α) : (t.set n x).get m = if m = n then some x else t.get m :=
  get_setF (n + 1) t n m x (Nat.lt_succ_self n)
end PT

/-- What a block of the call's own is: 'own': written and read; 'byt': made of a string; 'ro': it came in, only read. -/
inductive BK where
  | own | byt | ro
  deriving DecidableEq

/-- How far a loop over a function is. -/
inductive LSt where
  | ready | busy | done (ex : Ex)

inductive AB where
  | cells (cs : List AV) (k : BK)
  | map (es : List (AV × AV))
  | dead
  | dfr
  | iter (s : List UInt8) (pos : Nat)
  | loop (e : Nat → AV) (ps : List Nat) (asg bdy : Code) (st : LSt)

structure AH where
  next : Nat
  t : PT AB

namespace AH
def get (h : AH) (b : Nat) : Option AB := h.t.get b
def alloc (h : AH) (x : AB) : AH := ⟨h.next + 1, h.t.set h.next x⟩
def put (h : AH) (b : Nat) (x : AB) : AH := ⟨h.next, h.t.set b x⟩

def loadn (h : AH) (b o n : Nat) : Option (List AV) :=
  match h.get b with
  | some (.cells cs _) => if o + n ≤ cs.length then some ((cs.drop o).take n) else none
  | _ => none

def loadc (h : AH) (b o : Nat) : Option AV :=
  match h.get b with
  | some (.cells cs _) => cs[o]?
  | _ => none

def splice (cs : List AV) (o : Nat) (vs : List AV) : List AV := cs.take o ++ vs ++ cs.drop (o + vs.length)

def storen (h : AH) (b o : Nat) (vs : List AV) : Option AH :=
  match h.get b with
  | some (.cells cs k) =>
    match k with
    | .ro => none
    | k => if o + vs.length ≤ cs.length ∧ vs.all AV.one = true then some (h.put b (.cells (splice cs o vs) k)) else none
  | _ => none
end AH

abbrev Env := Nat → AV
def Env.set (e : Env) (n : Nat) (v : AV) : Env := fun m => match Nat.beq m n with
  | true => v
  | false => e m
def Env.put (e : Env) (d : Option Nat) (v : AV) : Env := match d with
  | some n => e.set n v
  | none => e

def ev (e : Env) : Operand → AV
  | .tmp t => e t
  | .const v => ofConst v
  | .global _ => .bad
  | .func f => .fn f [] []

/-- The kinds of the cells of a struct whose values are compared. -/
inductive SK where
  | int (k : IntKind) | bool | str
  deriving DecidableEq

structure TI where
  desc : TypeDesc
  size : Nat
  bytes : Nat
  zero : List AV
  agg : Bool
  places : List (Nat × Nat × Bool)
  eqk : List SK
  zv : Option AV

abbrev TT := TypeId → Option TI

def intOp (op : BinOp) (k : IntKind) (x y : Int) : Option AV :=
  match op with
  | .add => some (.int k (k.wrap (x + y)))
  | .sub => some (.int k (k.wrap (x - y)))
  | .mul => some (.int k (k.wrap (x * y)))
  | .quo => if y = 0 then none else some (.int k (k.wrap (x.tdiv y)))
  | .rem => if y = 0 then none else some (.int k (x.tmod y))
  | .and => some (.int k (k.wrap (BitVec.ofInt k.bits x &&& BitVec.ofInt k.bits y).toNat))
  | .or => some (.int k (k.wrap (BitVec.ofInt k.bits x ||| BitVec.ofInt k.bits y).toNat))
  | .xor => some (.int k (k.wrap (BitVec.ofInt k.bits x ^^^ BitVec.ofInt k.bits y).toNat))
  | .andNot => some (.int k (k.wrap (BitVec.ofInt k.bits x &&& ~~~BitVec.ofInt k.bits y).toNat))
  | .eql => some (.bool (x == y))
  | .neq => some (.bool (x != y))
  | .lss => some (.bool (x < y))
  | .leq => some (.bool (x ≤ y))
  | .gtr => some (.bool (x > y))
  | .geq => some (.bool (x ≥ y))
  | _ => none

def strOp (op : BinOp) (x y : List UInt8) : Option AV :=
  match op with
  | .add => if ((x.length + y.length : Nat) : Int) > 9223372036854775807 then none else some (.str (x ++ y))
  | .eql => some (.bool (x == y))
  | .neq => some (.bool !(x == y))
  | .lss => some (.bool (Op.bytesLess x y))
  | .leq => some (.bool (Op.bytesLess x y || x == y))
  | .gtr => some (.bool !(Op.bytesLess x y || x == y))
  | .geq => some (.bool !(Op.bytesLess x y))
  | _ => none

def conf : List SK → List AV → Bool
  | [], [] => true
  | .int k :: ks, .int k' _ :: vs => decide (k = k') && conf ks vs
  | .bool :: ks, .bool _ :: vs => conf ks vs
  | .str :: ks, .str _ :: vs => conf ks vs
  | _, _ => false

def eqCells : List AV → List AV → Bool
  | .int _ a :: xs, .int _ b :: ys => a == b && eqCells xs ys
  | .bool a :: xs, .bool b :: ys => a == b && eqCells xs ys
  | .str a :: xs, .str b :: ys => a == b && eqCells xs ys
  | [], [] => true
  | _, _ => false

/-- Equality, but for two pointers. -/
def eqV (T : TT) (t : TypeId) (x y : AV) : Option Bool :=
  match T t with
  | none => none
  | some ti => match ti.desc, x, y with
    | .bool, .bool a, .bool b => some (a == b)
    | .pointer _, .nilp, .nilp => some true
    | .pointer _, .nilp, .ptr _ _ => some false
    | .pointer _, .ptr _ _, .nilp => some false
    | .slice _, .nils, .nils => some true
    | .slice _, .nils, .sl .. => some false
    | .slice _, .sl .., .nils => some false
    | .slice _, .nils, .lst _ _ n _ => if 0 < n then some false else none
    | .slice _, .lst _ _ n _, .nils => if 0 < n then some false else none
    | .pointer _, .nilp, .fp _ => some false
    | .pointer _, .fp _, .nilp => some false
    | .map _ _, .nilm, .nilm => some true
    | .map _ _, .nilm, .mp _ => some false
    | .map _ _, .mp _, .nilm => some false
    | .func _ _ _, .nilf, .nilf => some true
    | .func _ _ _, .nilf, .fn .. => some false
    | .func _ _ _, .fn .., .nilf => some false
    | .struct _, .agg xs, .agg ys => if conf ti.eqk xs && conf ti.eqk ys && !ti.eqk.isEmpty then some (eqCells xs ys) else none
    | .array _ _, .agg xs, .agg ys => if conf ti.eqk xs && conf ti.eqk ys && !ti.eqk.isEmpty then some (eqCells xs ys) else none
    | _, _, _ => none

/-- Equality of two pointers to blocks of the call's own. -/
def eqP (h : AH) (b o b' o' : Nat) : Option Bool :=
  match h.get b, h.get b' with
  | some (.cells _ .own), some (.cells _ .own) => some (Nat.beq b b' && Nat.beq o o')
  | _, _ => none

/-- A type of pointers to what has a size. -/
def isPtr (T : TT) (t : TypeId) : Bool :=
  match T t with
  | some ti => match ti.desc with
    | .pointer e => match T e with
      | some te => !Nat.beq te.size 0
      | none => false
    | _ => false
  | none => false

def aBin (T : TT) (op : BinOp) (t : TypeId) (x y : AV) (h : AH) : Option AV :=
  match x, y with
  | .int k a, .int k' b =>
    match op with
    | .shl => if b < 0 then none else some (.int k (k.wrap (a * 2 ^ min b.toNat k.bits)))
    | .shr => if b < 0 then none else some (.int k (a.fdiv (2 ^ min b.toNat k.bits)))
    | op => if k = k' then intOp op k a b else none
  | .str a, .str b => strOp op a b
  | .ptr b o, .ptr b' o' =>
    match isPtr T t with
    | true => match op with
      | .eql => (eqP h b o b' o').map .bool
      | .neq => (eqP h b o b' o').map fun r => .bool !r
      | _ => none
    | false => none
  | x, y =>
    match op with
    | .eql => (eqV T t x y).map .bool
    | .neq => (eqV T t x y).map fun r => .bool !r
    | _ => none

def aUn (op : UnOp) (x : AV) : Option AV :=
  match op, x with
  | .neg, .int k n => some (.int k (k.wrap (0 - n)))
  | .not, .bool b => some (.bool !b)
  | _, _ => none

def aPick (c a b : AV) : Option AV :=
  match c with
  | .bool true => some a
  | .bool false => some b
  | _ => none

def aLoad (T : TT) (t : TypeId) (a : AV) (h : AH) : Option AV :=
  match a with
  | .ptr b o => match T t with
    | some ti => match ti.agg with
      | true => (h.loadn b o ti.size).map .agg
      | false => h.loadc b o
    | none => none
  | .fp cs => match T t with
    | some ti => match ti.agg with
      | true => if ti.size ≤ cs.length then some (.agg (cs.take ti.size)) else none
      | false => cs[0]?
    | none => none
  | _ => none

def aStore (T : TT) (t : TypeId) (a v : AV) (h : AH) : Option AH :=
  match a with
  | .ptr b o => match T t with
    | some ti => match v.cells with
      | some cs => if cs.length = ti.size then h.storen b o cs else none
      | none => none
    | none => none
  | _ => none

def aAlloc (T : TT) (t : TypeId) (h : AH) : Option (AV × AH) :=
  match T t with
  | some ti => some (.ptr h.next 0, h.alloc (.cells ti.zero .own))
  | none => none

def aBox (v : AV) (h : AH) : Option (AV × AH) :=
  match v.cells with
  | some cs => some (.ptr h.next 0, h.alloc (.cells cs .own))
  | none => none

def fillA (places : Nat → Option (Nat × Nat)) (cells : List AV) : List (Nat × AV) → Option (List AV)
  | [] => some cells
  | (i, v) :: rest =>
    match places i, v.cells with
    | some (off, size), some cs =>
      if cs.length = size ∧ off + cs.length ≤ cells.length then fillA places (AH.splice cells off cs) rest else none
    | _, _ => none

def aBuild (T : TT) (t : TypeId) (parts : List (Nat × AV)) : Option AV :=
  match T t with
  | some ti => match ti.desc with
    | .struct _ => (fillA (fun i => (ti.places[i]?).map fun p => (p.1, p.2.1)) ti.zero parts).map .agg
    | .array _ e => match T e with
      | some te => (fillA (fun i => some (i * te.size, te.size)) ti.zero parts).map .agg
      | none => none
    | _ => none
  | none => none

def repl (zero : List AV) : Nat → List AV
  | 0 => []
  | n + 1 => zero ++ repl zero n

def aBuildSlice (T : TT) (t : TypeId) (len : Nat) (parts : List (Nat × AV)) (h : AH) : Option (AV × AH) :=
  match T t with
  | some ti => match ti.desc with
    | .slice e => match T e with
      | some te =>
        if len * te.size ≤ 16777216 then
          match fillA (fun i => some (i * te.size, te.size)) (repl te.zero len) parts with
          | some cs => some (.sl h.next 0 len len te.size true, h.alloc (.cells cs .own))
          | none => none
        else none
      | none => none
    | _ => none
  | none => none

def aNil (x : AV) : Option AV :=
  match x with
  | .ptr b o => some (.ptr b o)
  | .fp cs => some (.fp cs)
  | _ => none

def isU8 (T : TT) (e : TypeId) : Bool :=
  match T e with
  | some te => match te.desc with
    | .int .u8 => Nat.beq te.size 1
    | _ => false
  | none => false

def bytesOf : List AV → Option (List UInt8)
  | [] => some []
  | .int .u8 n :: l => (bytesOf l).map fun r => UInt8.ofNat n.toNat :: r
  | _ => none

def ofBytes (s : List UInt8) : List AV := s.map fun c => .int .u8 c.toNat

def maxBytes : Nat := 140737488355328

def aConv (T : TT) (src dst : TypeId) (x : AV) (h : AH) : Option (AV × AH) :=
  match T src, T dst with
  | some ts, some td =>
    match td.desc, x with
    | .int k, .int _ n => some (.int k (k.wrap n), h)
    | .string, .str s => match ts.desc with
      | .slice _ => none
      | _ => some (.str s, h)
    | .slice e, .str s => match ts.desc with
      | .string => match isU8 T e with
        | true => if s.length < maxBytes then some (.sl h.next 0 s.length s.length 1 false, h.alloc (.cells (ofBytes s) .byt)) else none
        | false => none
      | _ => none
    | .string, .nils => match ts.desc with
      | .slice e => match isU8 T e with
        | true => some (.str [], h)
        | false => none
      | _ => none
    | .string, .sl b o len _ _ _ => match ts.desc with
      | .slice e => match isU8 T e with
        | true => match h.loadn b o len with
          | some cs => (bytesOf cs).map fun s => (.str s, h)
          | none => none
        | false => none
      | _ => none
    | .string, .lst _ sz _ cs => match ts.desc with
      | .slice e => match isU8 T e with
        | true => if sz = 1 then (bytesOf cs).map fun s => (.str s, h) else none
        | false => none
      | _ => none
    | .string, .int _ n => match ts.desc with
      | .int _ => some (.str (Utf8.encode n).data.toList, h)
      | _ => none
    | _, _ => none
  | _, _ => none

def aMakeSlice (T : TT) (t : TypeId) (l c : AV) (h : AH) : Option (AV × AH) :=
  match T t, l, c with
  | some ti, .int _ l, .int _ c => match ti.desc with
    | .slice e => match T e with
      | some te =>
        if 0 ≤ l ∧ l ≤ c ∧ c < 9223372036854775808 ∧ c.toNat * te.bytes ≤ maxBytes then
          some (.sl h.next 0 l.toNat c.toNat te.size true, h.alloc (.cells (repl te.zero c.toNat) .own))
        else none
      | none => none
    | _ => none
  | _, _, _ => none

/-- A bound that is given, or one that is taken. -/
def bnd (x : Option AV) (d : Nat) : Option Nat :=
  match x with
  | none => some d
  | some (.int _ n) => if 0 ≤ n then some n.toNat else none
  | some _ => none

def aSlice (T : TT) (t : TypeId) (x : AV) (lo hi mx : Option AV) : Option AV :=
  match T t with
  | some ti => match ti.desc, x with
    | .string, .str s => match mx with
      | none => match bnd hi s.length with
        | some h => match bnd lo 0 with
          | some l => if l ≤ h ∧ h ≤ s.length then some (.str ((s.take h).drop l)) else none
          | none => none
        | none => none
      | some _ => none
    | .slice e, .sl b o len cap sz ex => match T e with
      | some te => match bnd mx cap with
        | some m => match bnd hi len with
          | some h => match bnd lo 0 with
            | some l => if l ≤ h ∧ h ≤ m ∧ m ≤ cap ∧ te.size = sz ∧ (mx.isSome → hi.isSome) then some (.sl b (o + l * sz) (h - l) (m - l) sz (ex || mx.isSome)) else none
            | none => none
          | none => none
        | none => none
      | none => none
    | .slice e, .lst ex sz n cs => match T e with
      | some te => match bnd mx n with
        | some m => match bnd hi n with
          | some h => match bnd lo 0 with
            | some l => if l ≤ h ∧ h ≤ m ∧ m ≤ n ∧ te.size = sz ∧ (mx.isSome → hi.isSome) then some (.lst (bif mx.isSome then Nat.beq m h else (ex && Nat.beq h n)) sz (h - l) ((cs.drop (l * sz)).take ((h - l) * sz))) else none
            | none => none
          | none => none
        | none => none
      | none => none
    | .slice e, .nils => match T e with
      | some _ => match bnd mx 0 with
        | some m => match bnd hi 0 with
          | some h => match bnd lo 0 with
            | some l => if l = 0 ∧ h = 0 ∧ m = 0 ∧ (mx.isSome → hi.isSome) then some .nils else none
            | none => none
          | none => none
        | none => none
      | none => none
    | _, _ => none
  | none => none

def aFieldAddr (T : TT) (t : TypeId) (x : AV) (f : Nat) : Option AV :=
  match T t, x with
  | some ti, .ptr b o => match ti.places[f]? with
    | some (off, size, _) => if size = 0 then none else some (.ptr b (o + off))
    | none => none
  | some ti, .fp cs => match ti.places[f]? with
    | some (off, size, _) => if size = 0 ∨ cs.length < off then none else some (.fp (cs.drop off))
    | none => none
  | _, _ => none

def aPart (off size : Nat) (agg : Bool) (cs : List AV) : Option AV :=
  match agg with
  | true => some (.agg ((cs.drop off).take size))
  | false => cs[off]?

def aField (T : TT) (t : TypeId) (x : AV) (f : Nat) : Option AV :=
  match T t, x with
  | some ti, .agg cs => match ti.places[f]? with
    | some (off, size, agg) => aPart off size agg cs
    | none => none
  | _, _ => none

def aIndexAddr (T : TT) (t : TypeId) (x i : AV) : Option AV :=
  match T t, i with
  | some ti, .int _ n => match ti.desc, x with
    | .slice e, .sl b o len _ sz _ => match T e with
      | some te => if 0 ≤ n ∧ n < len ∧ te.size = sz then some (.ptr b (o + n.toNat * sz)) else none
      | none => none
    | .slice e, .lst _ sz len cs => match T e with
      | some te => if 0 ≤ n ∧ n < len ∧ te.size = sz then some (.fp (cs.drop (n.toNat * sz))) else none
      | none => none
    | .array len e, .ptr b o => match T e with
      | some te => if 0 ≤ n ∧ n < len then some (.ptr b (o + n.toNat * te.size)) else none
      | none => none
    | _, _ => none
  | _, _ => none

def aIndex (T : TT) (t : TypeId) (x i : AV) : Option AV :=
  match T t, i with
  | some ti, .int _ n => match ti.desc, x with
    | .array len e, .agg cs => match T e with
      | some te => if 0 ≤ n ∧ n < len then aPart (n.toNat * te.size) te.size te.agg cs else none
      | none => none
    | .string, .str s => if 0 ≤ n then (s[n.toNat]?).map fun c => .int .u8 c.toNat else none
    | _, _ => none
  | _, _ => none

def aExtract (x : AV) (i : Nat) : Option AV :=
  match x with
  | .tup vs => vs[i]?
  | _ => none

def aLen (T : TT) (t : TypeId) (x : AV) (h : AH) : Option AV :=
  match T t with
  | some ti => match ti.desc, x with
    | .string, .str s => some (.int .i64 s.length)
    | .slice _, .nils => some (.int .i64 0)
    | .slice _, .sl _ _ len _ _ _ => some (.int .i64 len)
    | .slice _, .lst _ _ n _ => some (.int .i64 n)
    | .array n _, _ => some (.int .i64 n)
    | .map _ _, .nilm => some (.int .i64 0)
    | .map _ _, .mp b => match h.get b with
      | some (.map es) => some (.int .i64 es.length)
      | _ => none
    | _, _ => none
  | none => none

/-- The cells of what is appended, or copied: how many elements, and their cells. -/
def aSource (sz : Nat) (x : AV) (h : AH) : Option (Nat × List AV) :=
  match x with
  | .nils => some (0, [])
  | .sl b o len _ z _ => if z = sz then (h.loadn b o (len * sz)).map fun cs => (len, cs) else none
  | .str s => if sz = 1 then some (s.length, ofBytes s) else none
  | .lst _ z n cs => if z = sz then some (n, cs) else none
  | _ => none

/-- A type of slices, or of texts. -/
def isSrc (T : TT) (t : TypeId) : Bool :=
  match T t with
  | some ti => match ti.desc with
    | .slice _ => true
    | .string => true
    | _ => false
  | none => false

def aAppend (T : TT) (t xt : TypeId) (s x : AV) (h : AH) : Option (AV × AH) :=
  match T t with
  | some ti => match ti.desc with
    | .slice e => match T e with
      | some te => match isSrc T xt with
        | false => none
        | true => match aSource te.size x h with
          | none => none
          | some (n, new) =>
            match s with
            | .nils =>
              if n = 0 then some (.nils, h)
              else if 0 < te.bytes ∧ n * te.bytes < maxBytes then some (.sl h.next 0 n n te.size false, h.alloc (.cells new .own)) else none
            | .sl b o len cap sz ex =>
              if te.size = sz then
                if len + n ≤ cap then (h.storen b (o + len * sz) new).map fun h' => (.sl b o (len + n) cap sz ex, h')
                else if 0 < te.bytes ∧ (len + n) * te.bytes < maxBytes then
                  match h.get b with
                  | some (.cells cs k) =>
                    if o + len * sz ≤ cs.length then
                      let all := (cs.drop o).take (len * sz) ++ new
                      match ex with
                      | true => some (.sl h.next 0 (len + n) (len + n) sz false, h.alloc (.cells all .own))
                      | false => match k with
                        | .ro => none
                        | .byt => none
                        | .own => if new.all AV.one = true then some (.sl h.next 0 (len + n) (len + n) sz false, (h.put b .dead).alloc (.cells all .own)) else none
                    else none
                  | _ => none
                else none
              else none
            | .lst ex z len cs =>
              if n = 0 then some (.lst ex z len cs, h)
              else if ex = true ∧ z = te.size ∧ 0 < te.bytes ∧ (len + n) * te.bytes < maxBytes then some (.sl h.next 0 (len + n) (len + n) z false, h.alloc (.cells (cs ++ new) .own)) else none
            | _ => none
      | none => none
    | _ => none
  | none => none

def aCopy (T : TT) (t : TypeId) (d s : AV) (h : AH) : Option (AV × AH) :=
  match T t with
  | some ti => match ti.desc with
    | .slice e => match T e with
      | some te => match aSource te.size s h with
        | none => none
        | some (n, cs) => match d with
          | .nils => some (.int .i64 0, h)
          | .sl b o len _ sz _ =>
            if te.size = sz then (h.storen b o (cs.take (min n len * sz))).map fun h' => (.int .i64 ((min n len : Nat) : Int), h') else none
          | _ => none
      | none => none
    | _ => none
  | none => none

def aClear (T : TT) (t : TypeId) (x : AV) (h : AH) : Option AH :=
  match T t with
  | some ti => match x with
    | .nils => some h
    | .nilm => some h
    | .sl b o len _ sz _ => match ti.desc with
      | .slice e => match T e with
        | some te => if te.size = sz then h.storen b o (repl te.zero len) else none
        | none => none
      | _ => none
    | .mp b => match h.get b with
      | some (.map _) => some (h.put b (.map []))
      | _ => none
    | _ => none
  | none => none

def aMin (x y : AV) : Option AV :=
  match x, y with
  | .int k a, .int _ b => some (.int k (if b < a then b else a))
  | _, _ => none
def aMax (x y : AV) : Option AV :=
  match x, y with
  | .int k a, .int _ b => some (.int k (if b > a then b else a))
  | _, _ => none

/-- Keys of maps: whole numbers, texts, and rows of them. -/
def keyOk : AV → Bool
  | .int .. => true
  | .str _ => true
  | .bool _ => true
  | .agg cs => cs.all fun | .int .. => true | _ => false
  | _ => false
def keyEq : AV → AV → Bool
  | .int _ a, .int _ b => a == b
  | .str a, .str b => a == b
  | .bool a, .bool b => a == b
  | .agg xs, .agg ys => eqCells xs ys
  | _, _ => false
def mapFind (es : List (AV × AV)) (k : AV) : Option AV := (es.find? fun e => keyEq e.1 k).map (·.2)

/-- Over a text, from its beginning. -/
def aRange (T : TT) (t : TypeId) (x : AV) (h : AH) : Option (AV × AH) :=
  match T t with
  | some ti => match ti.desc, x with
    | .string, .str s => some (.ptr h.next 0, h.alloc (.iter s 0))
    | _, _ => none
  | none => none
def aNext (it : AV) (isString : Bool) (h : AH) : Option (AV × AH) :=
  match it, isString with
  | .ptr b 0, true => match h.get b with
    | some (.iter s pos) => if pos < s.length then some (.tup [.bool true, .int .i64 pos, .int .i32 (Utf8.decode ⟨⟨s⟩⟩ pos).1], h.put b (.iter s (pos + (Utf8.decode ⟨⟨s⟩⟩ pos).2))) else some (.tup [.bool false], h)
    | _ => none
  | _, _ => none

/-- A whole number among the keys. -/
def sameA : AV → AV → Option Bool
  | .int k a, .int k' b => if k = k' then some (a == b) else none
  | _, _ => none
def findA (k : AV) : List (AV × AV) → Nat → Option (Option (Nat × AV))
  | [], _ => some none
  | (k', v) :: es, i => match sameA k k' with
    | some true => some (some (i, v))
    | some false => findA k es (i + 1)
    | none => none
def mapEs (x : AV) (h : AH) : Option (List (AV × AV)) :=
  match x with
  | .nilm => some []
  | .mp b => match h.get b with
    | some (.map es) => some es
    | _ => none
  | _ => none
def lkOut (ok : Bool) (v : AV) (b : Bool) : AV :=
  match ok with
  | true => .tup [v, .bool b]
  | false => v
/-- The maps whose keys are whole numbers: what their values' zero is. -/
def intMap (T : TT) (t : TypeId) : Option (Option AV) :=
  match T t with
  | some ti => match ti.desc with
    | .map kt et => match T kt, T et with
      | some tk, some te => match tk.desc with
        | .int _ => some te.zv
        | _ => none
      | _, _ => none
    | _ => none
  | none => none
def aLookup (T : TT) (t : TypeId) (x k : AV) (ok : Bool) (h : AH) : Option AV :=
  match intMap T t with
  | some zv => match mapEs x h with
    | some es => match findA k es 0 with
      | some (some p) => some (lkOut ok p.2 true)
      | some none => zv.map fun z => lkOut ok z false
      | none => none
    | none => none
  | none => none
def aMapUpd (T : TT) (t : TypeId) (m k v : AV) (h : AH) : Option AH :=
  match intMap T t with
  | some _ => match m with
    | .mp b => match h.get b with
      | some (.map es) => match findA k es 0 with
        | some (some p) => some (h.put b (.map (es.set p.1 (k, v))))
        | some none => some (h.put b (.map (es ++ [(k, v)])))
        | none => none
      | _ => none
    | _ => none
  | none => none
def aMakeMap (T : TT) (t : TypeId) (r : Option AV) (h : AH) : Option (AV × AH) :=
  match r with
  | none => some (.mp h.next, h.alloc (.map []))
  | some (.int _ _) => match intMap T t with
    | some _ => some (.mp h.next, h.alloc (.map []))
    | none => none
  | some _ => none

abbrev Rs := Option (AV × AH)
abbrev Cf := Nat → List AV → AH → Rs

def callF (C : Cf) (f : AV) (args : List AV) (h : AH) : Rs :=
  match f with
  | .fn g first caps => bif Nat.beq g YLD then none else C g (first ++ args ++ caps) h
  | _ => none
def callV (C : Cf) (f : AV) (args : List AV) (h : AH) : Rs :=
  match f with
  | .fn g first caps => bif Nat.beq g YLD then none else C g (first ++ args ++ caps) h
  | .yld l => C YLD (.yld l :: args) h
  | _ => none

abbrev Kt := Ex → Env → AH → Rs

/-- Whether a guarded operation is carried out. -/
def wants (g : AV) (want : Bool) : Option Bool :=
  match g with
  | .bool true => some want
  | .bool false => some (bif want then false else true)
  | .tup _ => some false
  | _ => none

/-- What an operation comes to: a value, a heap, both. -/
inductive Out where
  | v (x : Option AV)
  | h (x : Option AH)
  | r (x : Rs)

def parts (e : Env) (ps : Array (Nat × Operand)) : List (Nat × AV) := ps.toList.map fun p => (p.1, ev e p.2)

def outOf (C : Cf) (T : TT) (o : Oper) (e : Env) (h : AH) : Out :=
  match o.op with
  | .move x | .assign x => .v (some (ev e x))
  | .pick c a b => .v (aPick (ev e c) (ev e a) (ev e b))
  | .alloc t => .r (aAlloc T t h)
  | .box _ x => .r (aBox (ev e x) h)
  | .build t ps => .v (aBuild T t (parts e ps))
  | .buildSlice t n ps => .r (aBuildSlice T t n (parts e ps) h)
  | .load t a => .v (aLoad T t (ev e a) h)
  | .store t a x => .h (aStore T t (ev e a) (ev e x) h)
  | .nilCheck x => .v (aNil (ev e x))
  | .binOp op t x y _ => .v (aBin T op t (ev e x) (ev e y) h)
  | .unOp op _ x => .v (aUn op (ev e x))
  | .convert s d x => .r (aConv T s d (ev e x) h)
  | .makeFunc fn first caps => match fn with
    | .func f => .v (some (.fn f (first.toList.map (ev e)) (caps.toList.map (ev e))))
    | _ => .v none
  | .makeSlice t l c => .r (aMakeSlice T t (ev e l) (ev e c) h)
  | .slice t x lo hi mx => .v (aSlice T t (ev e x) (lo.map (ev e)) (hi.map (ev e)) (mx.map (ev e)))
  | .fieldAddr t x f => .v (aFieldAddr T t (ev e x) f)
  | .field t x f => .v (aField T t (ev e x) f)
  | .indexAddr t x i => .v (aIndexAddr T t (ev e x) (ev e i))
  | .index t x i => .v (aIndex T t (ev e x) (ev e i))
  | .extract x i => .v (aExtract (ev e x) i)
  | .range t x => .r (aRange T t (ev e x) h)
  | .next it s => .r (aNext (ev e it) s h)
  | .makeMap t r => .r (aMakeMap T t (r.map (ev e)) h)
  | .lookup t x k ok => .v (aLookup T t (ev e x) (ev e k) ok h)
  | .mapUpdate t m k x => .h (aMapUpd T t (ev e m) (ev e k) (ev e x) h)
  | .call c => match c.callee with
    | .value f => .r (callV C (ev e f) (c.args.toList.map (ev e)) h)
    | .builtin b => match b, c.args.toList, c.argTypes.toList with
      | .len, [x], [t] => .v (aLen T t (ev e x) h)
      | .append, [s, x], [t, xt] => .r (aAppend T t xt (ev e s) (ev e x) h)
      | .copy, [d, s], t :: _ => .r (aCopy T t (ev e d) (ev e s) h)
      | .clear, [x], [t] => .h (aClear T t (ev e x) h)
      | .min, [x, y], _ => .v (aMin (ev e x) (ev e y))
      | .max, [x, y], _ => .v (aMax (ev e x) (ev e y))
      | _, _, _ => .v none
    | _ => .v none
  | _ => .v none

def Out.val (o : Out) (h : AH) : Rs :=
  match o with
  | .v x => x.map fun v => (v, h)
  | .h x => x.map fun h' => (.bad, h')
  | .r x => x

def Out.run0 (o : Out) (h : AH) (K : AV → AH → Rs) : Rs :=
  match o with
  | .v x => x.bind fun v => K v h
  | .h x => x.bind fun h' => K .bad h'
  | .r x => x.bind fun p => K p.1 p.2

def Out.run (o : Out) (g : Option (AV × Bool)) (h : AH) (K : AV → AH → Rs) : Rs :=
  match g with
  | none => o.run0 h K
  | some (g, want) => match wants g want with
    | some true => o.run0 h K
    | some false => K (.tup []) h
    | none => none

def guardOf (all : Array Oper) (o : Oper) (e : Env) : Option (AV × Bool) :=
  match o.guard with
  | none => none
  | some (j, want) => match (all[j]?).bind (·.dst) with
    | some d => some (e d, want)
    | none => some (.bad, want)

def ops (C : Cf) (T : TT) (all : Array Oper) : List Oper → Env → AH → (Env → AH → Rs) → Rs
  | [], e, h, K => K e h
  | o :: rest, e, h, K => (outOf C T o e h).run (guardOf all o e) h fun v h' => ops C T all rest (e.put o.dst v) h' K

def aCond (c : AV) (x y : Rs) : Rs :=
  match c with
  | .bool true => x
  | .bool false => y
  | _ => none

def iterL (n : Nat) (f : Env → AH → Kt → Rs) (e : Env) (h : AH) (K : Kt) : Rs :=
  match n with
  | 0 => none
  | m + 1 => f e h fun ex e h => match ex with
    | .normal => iterL m f e h K
    | ex => K ex e h

def seqK (f : Env → AH → Kt → Rs) (K : Kt) : Kt := fun ex e h => match ex with
  | .normal => f e h K
  | ex => K ex e h

def blkK (id : Nat) (K : Kt) : Kt := fun ex e h => match ex with
  | .exit i => match Nat.beq i id with
    | true => K .normal e h
    | false => K (.exit i) e h
  | ex => K ex e h


/-! Regions whose order is open: which operations may come in either order. -/
inductive Cls where
  | pure | read | alloc | eff
  deriving DecidableEq

def clsOf (T : TT) : Op → Cls
  | .move _ | .assign _ | .pick .. | .build .. | .nilCheck _ | .unOp .. | .makeFunc .. | .slice .. | .fieldAddr .. | .field .. | .indexAddr .. | .index .. | .extract .. => .pure
  | .load .. => .read
  | .binOp op t _ _ _ => match op with
    | .eql | .neq => match isPtr T t with
      | true => .read
      | false => .pure
    | _ => .pure
  | .alloc _ | .box .. | .buildSlice .. | .makeSlice .. => .alloc
  | .convert s d _ => match T s, T d with
    | some ts, some td => match td.desc with
      | .int _ => .pure
      | .string => match ts.desc with
        | .slice _ => .read
        | _ => .pure
      | _ => .alloc
    | _, _ => .pure
  | .call c => match c.callee with
    | .builtin .len => match c.argTypes.toList with
      | t :: _ => match T t with
        | some ti => match ti.desc with
          | .map _ _ => .read
          | _ => .pure
        | none => .pure
      | [] => .pure
    | .builtin .min | .builtin .max => .pure
    | _ => .eff
  | _ => .eff

def mayPass : Cls → Cls → Bool
  | .pure, _ | _, .pure => true
  | .read, .read => true
  | .read, .alloc | .alloc, .read => true
  | _, _ => false

/-- The slots that an operation looks at or writes. -/
def names (all : Array Oper) (o : Oper) : List Nat := o.dst.toList ++ o.looksAt all

/-- What must have come before each operation: the numbers, as bits. -/
def edges (o : Oper) : List Nat := (o.after.toList.filter (Region.binds .any ·)).map (·.on)
def closN (cl : List Nat) (es : List Nat) : Nat := es.foldl (fun s e => s ||| 2 ^ e ||| cl.getD e 0) 0
def clos : List Oper → List Nat → List Nat
  | [], cl => cl
  | o :: rest, cl => clos rest (cl ++ [closN cl (edges o)])

def mayPass2 (a b : Cls) : Bool :=
  match a, b with
  | .read, .eff | .eff, .read => true
  | a, b => mayPass a b

def clsAt (T : TT) (all : Array Oper) (j : Nat) : Cls := match all[j]? with
  | some o => clsOf T o.op
  | none => .pure
def heavy (T : TT) (all : Array Oper) (j : Nat) : Bool := match clsAt T all j with
  | .alloc | .eff => true
  | _ => false
def isEff (T : TT) (all : Array Oper) (j : Nat) : Bool := match clsAt T all j with
  | .eff => true
  | _ => false
def isRead (T : TT) (all : Array Oper) (j : Nat) : Bool := match clsAt T all j with
  | .read => true
  | _ => false

def drawOk (T : TT) (all : Array Oper) : Bool :=
  let l := all.toList
  let cl := clos l []
  l.zipIdx.all fun (o, j) =>
    (edges o).all (fun e => decide (e < j)) &&
    l.zipIdx.all fun (p, i) =>
      !decide (i < j) || (cl.getD j 0).testBit i ||
        (mayPass2 (clsOf T p.op) (clsOf T o.op) &&
          (match p.dst with | some d => !(names all o).contains d | none => true) &&
          (match o.dst with | some d => !(names all p).contains d | none => true))

/-- Between which places a read may come: the last one that it waits for, the first one that waits for it. -/
def loOf (T : TT) (all : Array Oper) (cl : List Nat) (i : Nat) : Nat → Nat
  | 0 => 0
  | j + 1 => if (cl.getD i 0).testBit j && heavy T all j then j + 1 else loOf T all cl i j
def hiOf (T : TT) (all : Array Oper) (cl : List Nat) (i : Nat) : Nat → Nat → Nat
  | 0, j => j
  | f + 1, j => if (cl.getD j 0).testBit i && heavy T all j then j else hiOf T all cl i f (j + 1)
/-- A read that is not ordered against a call, or a write. -/
def isSoft (T : TT) (all : Array Oper) (cl : List Nat) (i : Nat) : Bool :=
  isRead T all i && (List.range all.size).any fun j => isEff T all j && !((cl.getD i 0).testBit j) && !((cl.getD j 0).testBit i)
def softs (T : TT) (all : Array Oper) : List (Nat × Nat × Nat) :=
  let cl := clos all.toList []
  ((List.range all.size).filter (isSoft T all cl)).map fun i => (i, loOf T all cl i i, hiOf T all cl i (all.size - (i + 1)) (i + 1))

mutual
def sameV : AV → AV → Bool
  | .bad, .bad => true
  | .bool a, .bool b => decide (a = b)
  | .int k a, .int k' b => decide (k = k') && decide (a = b)
  | .str a, .str b => decide (a = b)
  | .nilp, .nilp => true
  | .ptr a b, .ptr c d => Nat.beq a c && Nat.beq b d
  | .nils, .nils => true
  | .sl a b c d e x, .sl a' b' c' d' e' x' => Nat.beq a a' && Nat.beq b b' && Nat.beq c c' && Nat.beq d d' && Nat.beq e e' && decide (x = x')
  | .nilm, .nilm => true
  | .mp a, .mp b => Nat.beq a b
  | .nilf, .nilf => true
  | .fn f as bs, .fn g cs ds => Nat.beq f g && sameL as cs && sameL bs ds
  | .agg as, .agg bs => sameL as bs
  | .lst x a b cs, .lst x' a' b' cs' => decide (x = x') && Nat.beq a a' && Nat.beq b b' && sameL cs cs'
  | .fp as, .fp bs => sameL as bs
  | _, _ => false
def sameL : List AV → List AV → Bool
  | [], [] => true
  | a :: as, b :: bs => sameV a b && sameL as bs
  | _, _ => false
end

def stepV (C : Cf) (T : TT) (all : Array Oper) (o : Oper) (e : Env) (h : AH) : Rs := (outOf C T o e h).run (guardOf all o e) h fun v h' => some (v, h')

def opsTr (C : Cf) (T : TT) (all : Array Oper) : List Oper → Env → AH → List (Env × AH) → (Env → AH → List (Env × AH) → Rs) → Rs
  | [], e, h, tr, K => K e h (tr ++ [(e, h)])
  | o :: rest, e, h, tr, K => (outOf C T o e h).run (guardOf all o e) h fun v h' => opsTr C T all rest (e.put o.dst v) h' (tr ++ [(e, h)]) K

/-- The read comes to the same at each of these places. -/
def sameAt (C : Cf) (T : TT) (all : Array Oper) (o : Oper) (e : Env) (v : AV) (st : List (Env × AH)) : Nat → Nat → Bool
  | 0, _ => true
  | n + 1, m => match st[m]? with
    | some p => match stepV C T all o e p.2 with
      | some q => sameV v q.1 && sameAt C T all o e v st n (m + 1)
      | none => false
    | none => false
def softOk (C : Cf) (T : TT) (all : Array Oper) (st : List (Env × AH)) : List (Nat × Nat × Nat) → Bool
  | [] => true
  | (i, lo, hi) :: ss => match all[i]?, st[i]? with
    | some o, some p => match stepV C T all o p.1 p.2 with
      | some q => sameAt C T all o p.1 q.1 st (hi + 1 - lo) lo && softOk C T all st ss
      | none => false
    | _, _ => false

/-! Blocks that may be made at any time of a region: in the abstract heap they are reserved, and laid down before the first operation that may write and waits for them. -/
def isFree (o : Oper) : Bool := match o.guard with
  | some _ => false
  | none => match o.op with
    | .alloc _ | .box .. | .buildSlice .. => true
    | _ => false
def freeAt (all : Array Oper) (j : Nat) : Bool := match all[j]? with
  | some o => isFree o
  | none => false
def mkOf (T : TT) (o : Oper) (e : Env) (id : Nat) : Option (AV × List AV) :=
  match o.op with
  | .alloc t => (T t).map fun ti => (.ptr id 0, ti.zero)
  | .box _ x => (ev e x).cells.map fun cs => (.ptr id 0, cs)
  | .buildSlice t len ps => match aBuildSlice T t len (parts e ps) ⟨id, .leaf⟩ with
    | some (v, h) => match h.get id with
      | some (.cells cs _) => some (v, cs)
      | _ => none
    | none => none
  | _ => none
def mtAt (T : TT) (all : Array Oper) (cl : List Nat) (a : Nat) : Nat → Nat → Nat
  | 0, j => j
  | f + 1, j => if isEff T all j && (cl.getD j 0).testBit a then j else mtAt T all cl a f (j + 1)
/-- Before which operation each block is laid down. -/
def mts (T : TT) (all : Array Oper) : List Nat :=
  let cl := clos all.toList []
  (List.range all.size).map fun a => mtAt T all cl a (all.size - (a + 1)) (a + 1)
def matz (all : Array Oper) (n0 : Nat) (mt : List Nat) (ct : Nat → List AV) (i : Nat) : Nat → AH → AH
  | 0, h => h
  | k + 1, h => match freeAt all k && Nat.beq (mt.getD k 0) i with
    | true => (matz all n0 mt ct i k h).put (n0 + k) (.cells (ct k) .own)
    | false => matz all n0 mt ct i k h
def opsF (C : Cf) (T : TT) (all : Array Oper) (n0 : Nat) (mt : List Nat) : List Oper → Nat → Env → AH → (Nat → List AV) → List (Env × AH) → (Env → AH → List (Env × AH) → Rs) → Rs
  | [], i, e, h, ct, tr, K => K e (matz all n0 mt ct i i h) (tr ++ [(e, h)])
  | o :: rest, i, e, h, ct, tr, K => match isFree o with
    | true => match mkOf T o e (n0 + i) with
      | some (v, cs) => opsF C T all n0 mt rest (i + 1) (e.put o.dst v) h (fun a => match Nat.beq a i with | true => cs | false => ct a) (tr ++ [(e, h)]) K
      | none => none
    | false => (outOf C T o e (matz all n0 mt ct i i h)).run (guardOf all o e) (matz all n0 mt ct i i h) fun v h' => opsF C T all n0 mt rest (i + 1) (e.put o.dst v) h' ct (tr ++ [(e, h)]) K
def clsF (T : TT) (o : Oper) : Cls := match isFree o with
  | true => .pure
  | false => clsOf T o.op
def drawOkF (T : TT) (all : Array Oper) : Bool :=
  let l := all.toList
  let cl := clos l []
  l.zipIdx.all fun (o, j) =>
    (isFree o || (match clsOf T o.op with | .alloc => false | _ => true)) &&
    (edges o).all (fun e => decide (e < j)) &&
    l.zipIdx.all fun (p, i) =>
      !decide (i < j) || (cl.getD j 0).testBit i ||
        (mayPass2 (clsF T p) (clsF T o) &&
          (match p.dst with | some d => !(names all o).contains d | none => true) &&
          (match o.dst with | some d => !(names all p).contains d | none => true))
def loF (T : TT) (all : Array Oper) (cl : List Nat) (i : Nat) : Nat → Nat
  | 0 => 0
  | j + 1 => if (cl.getD i 0).testBit j && isEff T all j then j + 1 else loF T all cl i j
def hiF (T : TT) (all : Array Oper) (cl : List Nat) (i : Nat) : Nat → Nat → Nat
  | 0, j => j
  | f + 1, j => if (cl.getD j 0).testBit i && isEff T all j then j else hiF T all cl i f (j + 1)
def softsF (T : TT) (all : Array Oper) : List (Nat × Nat × Nat) :=
  let cl := clos all.toList []
  ((List.range all.size).filter (isSoft T all cl)).map fun i => (i, loF T all cl i i, hiF T all cl i (all.size - (i + 1)) (i + 1))

def marks : AV → List Nat
  | .mark ds => ds
  | _ => []

/-- Behind a loop over a function. -/
def endRange (K : Kt) (e : Env) (l : Nat) (h : AH) : Rs :=
  match h.get l with
  | some (.loop _ _ _ _ .ready) => K .normal e (h.put l .dead)
  | some (.loop _ _ _ _ (.done ex)) => K ex e (h.put l .dead)
  | _ => none

def code (C : Cf) (T : TT) (n : Nat) (rf : Bool) : Code → Env → AH → Kt → Rs
  | .skip, e, h, K => K .normal e h
  | .region _ all draw, e, h, K =>
    match draw with
    | false => ops C T all all.toList e h (K .normal)
    | true => match drawOk T all with
      | true => match softs T all with
        | [] => ops C T all all.toList e h (K .normal)
        | ss => opsTr C T all all.toList e h [] fun e' h' st => match softOk C T all st ss with
          | true => K .normal e' h'
          | false => none
      | false => match drawOkF T all with
        | true => opsF C T all h.next (mts T all) all.toList 0 e ⟨h.next + all.size, h.t⟩ (fun _ => []) [] fun e' h' st => match softOk C T all st (softsF T all) with
          | true => K .normal e' h'
          | false => none
        | false => none
  | .seq a b, e, h, K => code C T n rf a e h (seqK (code C T n rf b) K)
  | .cond c x y, e, h, K => aCond (ev e c) (code C T n rf x e h K) (code C T n rf y e h K)
  | .block id c, e, h, K => code C T n rf c e h (blkK id K)
  | .scope c, e, h, K => code C T n rf c e h K
  | .label _, e, h, K => K .normal e h
  | .loop c, e, h, K => iterL n (code C T n rf c) e h K
  | .exit id, e, h, K => K (.exit id) e h
  | .ret, e, h, K => K .ret e h
  | .rangeFunc f ps asg bdy, e, h, K => match rf with
    | false => none
    | true => (callF C (ev e f) [.yld (h.next + 1)] ((h.alloc .dfr).alloc (.loop e ps.toList asg bdy .ready))).bind fun p =>
      endRange K (e.set HID (.mark (h.next :: marks (e HID)))) (h.next + 1) p.2
  | _, _, _, _ => none

def setPs (e : Env) : List Nat → List AV → Env
  | p :: ps, v :: vs => setPs (e.set p v) ps vs
  | _, _ => e

/-- A round: the loop's body, called. -/
def endRound (l : Nat) : Kt := fun ex _ h => match h.get l with
  | some (.loop e ps asg bdy .busy) => match ex with
    | .normal => some (.bool true, h.put l (.loop e ps asg bdy .ready))
    | ex => some (.bool false, h.put l (.loop e ps asg bdy (.done ex)))
  | _ => none
def midRound (C : Cf) (T : TT) (n l : Nat) (b : Code) : Kt := fun ex e1 h => match ex with
  | .normal => match h.get l with
    | some (.loop e ps asg bdy .ready) => code C T n false b e1 (h.put l (.loop e ps asg bdy .busy)) (endRound l)
    | _ => none
  | _ => none
def yieldRun (C : Cf) (T : TT) (n : Nat) (args : List AV) (h : AH) : Rs :=
  match args with
  | .yld l :: vs => match h.get l with
    | some (.loop e ps asg bdy .ready) => if vs.length = ps.length then code C T n false asg (setPs e ps vs) h (midRound C T n l bdy) else none
    | _ => none
  | _ => none


/-- All slots that code writes are the frame's. -/
def dstOk (N : Nat) : Code → Bool
  | .region _ all _ => all.toList.all fun o => match o.dst with
    | some d => Nat.blt d N
    | none => true
  | .seq a b => dstOk N a && dstOk N b
  | .cond _ x y => dstOk N x && dstOk N y
  | .block _ c => dstOk N c
  | .scope c => dstOk N c
  | .loop c => dstOk N c
  | .rangeFunc _ ps asg bdy => ps.toList.all (fun p => Nat.blt p N) && dstOk N asg && dstOk N bdy
  | _ => true

def usesRange : Code → Bool
  | .seq a b => usesRange a || usesRange b
  | .cond _ x y => usesRange x || usesRange y
  | .block _ c => usesRange c
  | .scope c => usesRange c
  | .loop c => usesRange c
  | .rangeFunc .. => true
  | _ => false

/-- A function of the program, as the abstract machine has it. -/
structure FI where
  body : Code
  results : List ResultVar
  rf : Bool := false

def resultsOf (T : TT) (rs : List ResultVar) (e : Env) (h : AH) : Option (List AV) :=
  match rs with
  | [] => some []
  | .tmp t :: rest => (resultsOf T rest e h).map (e t :: ·)
  | .cell a t :: rest => (aLoad T t (e a) h).bind fun v => (resultsOf T rest e h).map (v :: ·)

def oneOrAll : List AV → AV
  | [v] => v
  | vs => .tup vs

def retK (T : TT) (rs : List ResultVar) : Kt := fun ex e h => match ex with
  | .exit _ => none
  | _ => (resultsOf T rs e h).map fun vs => (oneOrAll vs, h)

def env0 (args : List AV) : Env := fun n => (args[n]?).getD .bad

def marksEnd (h : AH) : List Nat → Option AH
  | [] => some h
  | d :: ds => match h.get d with
    | some .dfr => marksEnd (h.put d .dead) ds
    | _ => none
/-- The return behind loops over functions. -/
def retM (T : TT) (rs : List ResultVar) : Kt := fun ex e h => (marksEnd h (marks (e HID))).bind fun h' => retK T rs ex e h'

def body (C : Cf) (T : TT) (n : Nat) (f : FI) (args : List AV) (h : AH) : Rs :=
  match f.rf with
  | false => code C T n false f.body (env0 args) h (retK T f.results)
  | true => match Nat.ble args.length HID with
    | true => code C T n true f.body ((env0 args).set HID .bad) h (retM T f.results)
    | false => none

/-- Calls, to a depth. 'I': functions that are taken by what they are known to do. -/
def call (F : Nat → Option FI) (I : Nat → Option (List AV → AH → Rs)) (T : TT) : Nat → Cf
  | 0, _, _, _ => none
  | n + 1, f, args, h => match Nat.beq f YLD with
    | true => yieldRun (call F I T n) T n args h
    | false => match I f with
      | some g => g args h
      | none => match F f with
        | some fi => body (call F I T n) T n fi args h
        | none => none

end Go.AM
