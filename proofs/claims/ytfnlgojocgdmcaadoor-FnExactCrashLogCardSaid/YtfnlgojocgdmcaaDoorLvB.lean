/-
  The operations that only read, over pure values, and that a program's operations do just that. Conditions: none.
-/
import Derived.Test.YtfnlgojocgdmcaaDoorLvA
import Derived.Laws.BytesArg
set_option linter.unusedSimpArgs false
set_option linter.unusedVariables false
namespace Go.Lv

def lf : Value → V
  | .bool b => .bool b
  | .int k n => .int k n
  | .string s => .str s
  | .slice none 0 0 => .nilsl
  | v => .lit v

/-- A constant as a pure value. -/
def cv : Value → V
  | .agg cs => .agg (cs.toList.map lf)
  | v => lf v

theorem rv_lf (w : World) (m : Nat → Nat) (h : Hp) (av : Nat → Prop) (o : Bool) (v : Value) : RV w m h av o v (lf v) := by
  unfold lf
  split <;> first | exact .bool _ | exact .int _ _ | exact .str _ | exact .nilsl | exact .lit _

theorem rv_cv (w : World) (m : Nat → Nat) (h : Hp) (av : Nat → Prop) (o : Bool) (v : Value) : RV w m h av o v (cv v) := by
  unfold cv
  split
  · rename_i cs
    refine .agg cs _ (by simp) (fun i hi => ?_)
    have hi' : i < cs.size := by simpa using hi
    simp only [List.getElem_map, Array.getElem_toList]
    have : cs.getD i Go.undef = cs[i] := by simp [Array.getD, hi']
    rw [this]
    exact rv_lf w m h av o _
  · exact rv_lf w m h av o v

/-- The value of an operand. -/
def ev (t : List V) : Operand → V
  | .tmp i => t.getD i .undef
  | .const v => cv v
  | .global _ => .undef
  | .func f => .fn (.func f) [] []

def isAggD : TypeDesc → Bool
  | .struct _ => true
  | .array _ _ => true
  | _ => false

/-- Of a type: the number of its cells, and whether its values are rows of cells. -/
def tszOf (P : Program) (t : TypeId) : Option (Nat × Bool) :=
  match P.info? t, P.underlying t with
  | some i, some d => some (i.size, isAggD d)
  | _, _ => none

/-- Of a slice's type: the element's type, its cells and bytes. -/
def elOf (P : Program) (t : TypeId) : Option (TypeId × Nat × Nat) :=
  match P.underlying t with
  | some (.slice e) => match P.info? e with
    | some i => some (e, i.size, i.bytes)
    | none => none
  | _ => none

/-- Of a struct's field: its place and its cells. -/
def fdOf (P : Program) (t : TypeId) (f : Nat) : Option (Nat × Nat × Bool) :=
  match P.underlying t with
  | some (.struct fs) => match fs[f]? with
    | some fd => match tszOf P fd.type with
      | some (sz, ag) => some (fd.offset, sz, ag)
      | none => none
    | none => none
  | _ => none

/-- Of an array's type: its length and the element's cells. -/
def arOf (P : Program) (t : TypeId) : Option (Nat × Nat × Bool) :=
  match P.underlying t with
  | some (.array n e) => match tszOf P e with
    | some (sz, ag) => some (n, sz, ag)
    | none => none
  | _ => none

def zeroOf (P : Program) (t : TypeId) : Option (List V) :=
  match P.info? t with
  | some i => match i.zero with
    | some z => some (z.cells.toList.map lf)
    | none => none
  | none => none

def isStr (P : Program) (t : TypeId) : Bool :=
  match P.underlying t with
  | some .string => true
  | _ => false

def isBoolT (P : Program) (t : TypeId) : Bool :=
  match P.underlying t with
  | some .bool => true
  | _ => false

def isPt (P : Program) (t : TypeId) : Bool :=
  match P.underlying t with
  | some (.pointer _) => true
  | _ => false

def isSl (P : Program) (t : TypeId) : Bool :=
  match P.underlying t with
  | some (.slice _) => true
  | _ => false

def isIntT (P : Program) (t : TypeId) : Option IntKind :=
  match P.underlying t with
  | some (.int k) => some k
  | _ => none

/-- A variable's value out of its cells. -/
def mk : Bool → List V → V
  | true, l => .agg l
  | false, l => l.getD 0 .undef

def cells : V → List V
  | .agg cs => cs
  | v => [v]

/-- The bits that both have. -/
def andI (k : IntKind) (a b : Int) : Int := k.wrap (((BitVec.ofInt k.bits a &&& BitVec.ofInt k.bits b).toNat : Nat) : Int)
def shrI (k : IntKind) (a b : Int) : Int := a.fdiv (2 ^ (min b.toNat k.bits))

def intBin (op : BinOp) (k : IntKind) (a b : Int) (K : V → Prop) : Prop :=
  match op with
  | .add => K (.int k (k.wrap (a + b)))
  | .sub => K (.int k (k.wrap (a - b)))
  | .mul => K (.int k (k.wrap (a * b)))
  | .quo => b ≠ 0 ∧ K (.int k (k.wrap (a.tdiv b)))
  | .rem => b ≠ 0 ∧ K (.int k (a.tmod b))
  | .and => K (.int k (andI k a b))
  | .shr => 0 ≤ b ∧ K (.int k (shrI k a b))
  | .eql => K (.bool (a == b))
  | .neq => K (.bool (a != b))
  | .lss => K (.bool (decide (a < b)))
  | .leq => K (.bool (decide (a ≤ b)))
  | .gtr => K (.bool (decide (b < a)))
  | .geq => K (.bool (decide (b ≤ a)))
  | _ => False

def strBin (op : BinOp) (x y : ByteArray) (K : V → Prop) : Prop :=
  match op with
  | .add => x.size + y.size ≤ 9223372036854775807 ∧ K (.str (x ++ y))
  | .eql => K (.bool (x.toList == y.toList))
  | .neq => K (.bool (!(x.toList == y.toList)))
  | .lss => K (.bool (Op.bytesLess x.toList y.toList))
  | .leq => K (.bool (Op.bytesLess x.toList y.toList || x.toList == y.toList))
  | .gtr => K (.bool (!(Op.bytesLess x.toList y.toList || x.toList == y.toList)))
  | .geq => K (.bool (!(Op.bytesLess x.toList y.toList)))
  | _ => False

/-- Two plain values, or two rows of them, held against each other. -/
def eqV : TypeDesc → V → V → Option Bool
  | .int _, .int k a, .int k' b => if k = k' then some (a == b) else none
  | .bool, .bool a, .bool b => some (a == b)
  | .string, .str a, .str b => some (a.toList == b.toList)
  | _, _, _ => none
def eqL : List TypeDesc → List V → List V → Option Bool
  | [], [], [] => some true
  | d :: ds, a :: l, b :: l' => match eqV d a b, eqL ds l l' with
    | some x, some y => some (x && y)
    | _, _ => none
  | _, _, _ => none

def plainD : TypeDesc → Bool
  | .int _ => true
  | .bool => true
  | .string => true
  | _ => false

/-- A struct's fields, all plain values, one a cell. -/
def flatFs (P : Program) : List Field → Nat → Option (List TypeDesc)
  | [], _ => some []
  | f :: fs, i => if f.offset == i && f.name != "_" then match P.info? f.type, P.underlying f.type with
    | some inf, some d => if inf.size == 1 && plainD d then (flatFs P fs (i + 1)).map (d :: ·) else none
    | _, _ => none else none

/-- Of a struct's type whose values are held against each other: its fields' types. -/
def flatEq (P : Program) (t : TypeId) : Option (List TypeDesc) :=
  match P.underlying t with
  | some (.struct fs) => if P.stoodInHeld t || P.eqGuardType P.depth t then none else flatFs P fs.toList 0
  | _ => none

def bin (P : Program) (op : BinOp) (t : TypeId) (x y : V) (K : V → Prop) : Prop :=
  match x, y with
  | .int k a, .int k' b => k = k' ∧ intBin op k a b K
  | .str a, .str b => strBin op a b K
  | .bool a, .bool b => isBoolT P t = true ∧ match op with
    | .eql => K (.bool (a == b))
    | .neq => K (.bool (!(a == b)))
    | _ => False
  | .agg a, .agg b => match flatEq P t with
    | some ds => match eqL ds a b with
      | some r => match op with
        | .eql => K (.bool r)
        | .neq => K (.bool (!r))
        | _ => False
      | none => False
    | none => False
  | _, _ => False

def loadV (P : Program) (h : Hp) (t : TypeId) (x : V) (K : V → Prop) : Prop :=
  match tszOf P t with
  | some (sz, ag) => match x with
    | .pt cs => sz ≤ cs.length ∧ (ag = true ∨ sz = 1) ∧ K (mk ag (cs.take sz))
    | .ptr id off => match h[id]? with
      | some (some cs) => off + sz ≤ cs.length ∧ (ag = true ∨ sz = 1) ∧ K (mk ag ((cs.drop off).take sz))
      | _ => False
    | _ => False
  | none => False

def fieldAddrV (P : Program) (s : TypeId) (f : Nat) (x : V) (K : V → Prop) : Prop :=
  match fdOf P s f with
  | some (off, sz, _) => 0 < sz ∧ match x with
    | .pt cs => K (.pt (cs.drop off))
    | .ptr id o => K (.ptr id (o + off))
    | _ => False
  | none => False

def fieldV (P : Program) (s : TypeId) (f : Nat) (x : V) (K : V → Prop) : Prop :=
  match fdOf P s f with
  | some (off, sz, ag) => match x with
    | .agg cs => off + sz ≤ cs.length ∧ (ag = true ∨ sz = 1) ∧ K (mk ag ((cs.drop off).take sz))
    | _ => False
  | none => False

def indexAddrV (P : Program) (t : TypeId) (x : V) (z : Int) (K : V → Prop) : Prop :=
  match x with
  | .sl n w cs => match elOf P t with
    | some (_, sz, _) => (0 ≤ z ∧ z < n) ∧ w = sz ∧ K (.pt ((cs.drop (z.toNat * w)).take w))
    | none => False
  | .osl id off n w => match elOf P t with
    | some (_, sz, _) => (0 ≤ z ∧ z < n) ∧ w = sz ∧ K (.ptr id (off + z.toNat * w))
    | none => False
  | .ptr id off => match arOf P t with
    | some (n, sz, _) => (0 ≤ z ∧ z < n) ∧ K (.ptr id (off + z.toNat * sz))
    | none => False
  | .pt cs => match arOf P t with
    | some (n, sz, _) => (0 ≤ z ∧ z < n) ∧ K (.pt (cs.drop (z.toNat * sz)))
    | none => False
  | _ => False

def indexV (P : Program) (t : TypeId) (x : V) (z : Int) (K : V → Prop) : Prop :=
  match x with
  | .str s => isStr P t = true ∧ ∃ hi : 0 ≤ z ∧ z.toNat < s.size, K (.int .u8 ((s[z.toNat]'hi.2).toNat : Int))
  | .agg cs => match arOf P t with
    | some (n, sz, ag) => (0 ≤ z ∧ z < n) ∧ z.toNat * sz + sz ≤ cs.length ∧ (ag = true ∨ sz = 1) ∧ K (mk ag ((cs.drop (z.toNat * sz)).take sz))
    | none => False
  | _ => False

/-- The low bound of a slice expression, as a number. -/
def lowOf (ρ : Operand → V) : Option Operand → Option Int
  | none => some 0
  | some l => match ρ l with
    | .int _ l => some l
    | _ => none

def sliceV (P : Program) (ρ : Operand → V) (t : TypeId) (x : V) (l : Int) (hi : Option Operand) (K : V → Prop) : Prop :=
  match x with
  | .sl n w cs => match elOf P t with
    | some (_, sz, _) => match hi with
      | none => (0 ≤ l ∧ l ≤ n) ∧ w = sz ∧ K (.sl (n - l.toNat) w (cs.drop (l.toNat * w)))
      | some hh => match ρ hh with
        | .int _ u => (0 ≤ l ∧ l ≤ u ∧ u ≤ n) ∧ w = sz ∧ K (.sl (u.toNat - l.toNat) w ((cs.drop (l.toNat * w)).take ((u.toNat - l.toNat) * w)))
        | _ => False
    | none => False
  | .osl id off n w => match elOf P t with
    | some (_, sz, _) => match hi with
      | none => (0 ≤ l ∧ l ≤ n) ∧ w = sz ∧ K (if l = 0 ∨ l < n then .osl id (off + l.toNat * w) (n - l.toNat) w else .sl 0 w [])
      | some hh => match ρ hh with
        | .int _ u => (0 ≤ l ∧ l ≤ u ∧ u ≤ n) ∧ w = sz ∧ K (if l = 0 ∨ l < u then .osl id (off + l.toNat * w) (u.toNat - l.toNat) w else .sl 0 w [])
        | _ => False
    | none => False
  | .str s => isStr P t = true ∧ match hi with
    | none => (0 ≤ l ∧ l ≤ s.size) ∧ K (.str (s.extract l.toNat s.size))
    | some hh => match ρ hh with
      | .int _ u => (0 ≤ l ∧ l ≤ u ∧ u ≤ s.size) ∧ K (.str (s.extract l.toNat u.toNat))
      | _ => False
  | _ => False

def lenV (P : Program) (t : TypeId) (x : V) (K : V → Prop) : Prop :=
  match x with
  | .sl n _ _ => isSl P t = true ∧ K (.int .i64 n)
  | .osl _ _ n _ => isSl P t = true ∧ K (.int .i64 n)
  | .nilsl => isSl P t = true ∧ K (.int .i64 0)
  | .str s => isStr P t = true ∧ K (.int .i64 s.size)
  | _ => False

def convV (P : Program) (s d : TypeId) (x : V) (K : V → Prop) : Prop :=
  (P.underlying s).isSome = true ∧ match x with
  | .int _ n => match isIntT P d with
    | some k => K (.int k (k.wrap n))
    | none => isStr P d = true ∧ K (.str (Utf8.encode n))
  | .str b => isStr P d = true ∧ K (.str b)
  | _ => False

/-- Cells that are bytes. -/
def bytesL : List V → Option (List Int)
  | [] => some []
  | .int .u8 n :: cs => (bytesL cs).map (n :: ·)
  | _ => none

def isU8S (P : Program) (s : TypeId) : Bool :=
  match P.underlying s with
  | some (.slice e) => match P.underlying e with
    | some (.int .u8) => true
    | _ => false
  | _ => false

/-- A conversion: of a row of bytes of our own to a string, or of what needs no block. -/
def convH (P : Program) (h : Hp) (s d : TypeId) (x : V) (K : V → Prop) : Prop :=
  match x with
  | .osl id off n wd => (isU8S P s = true ∧ isStr P d = true ∧ wd = 1) ∧ match h[id]? with
    | some (some cs) => match bytesL ((cs.drop off).take n) with
      | some xs => K (.str (strOfNums xs))
      | none => False
    | _ => False
  | x => convV P s d x K

/-- The bytes of a string, as cells. -/
def strCells (b : ByteArray) : List V := b.data.toList.map fun c => .int .u8 c.toNat

def nilV (x : V) (K : V → Prop) : Prop :=
  match x with
  | .ptr id off => K (.ptr id off)
  | .pt cs => K (.pt cs)
  | .fn (.func f) a c => K (.fn (.func f) a c)
  | _ => False

def atInt (x : V) (K : IntKind → Int → Prop) : Prop :=
  match x with
  | .int k z => K k z
  | _ => False

def atBool (x : V) (K : Bool → Prop) : Prop :=
  match x with
  | .bool b => K b
  | _ => False

def atTup (x : V) (i : Nat) (K : V → Prop) : Prop :=
  match x with
  | .tup vs => match vs[i]? with
    | some v => K v
    | none => False
  | _ => False

/-- A key, a small value. -/
def keyV : V → Option Value
  | .int k n => some (.int k n)
  | .str s => some (.string s)
  | .bool b => some (.bool b)
  | _ => none

/-- Of a map's type: the keys' kind, the elements' zero. -/
def mapOf (P : Program) (t : TypeId) : Option (TypeDesc × V) :=
  match P.underlying t with
  | some (.map k e) => match P.underlying k, P.info? e with
    | some d, some i => match i.zero with
      | some z => some (d, lf z)
      | none => none
    | _, _ => none
  | _ => none

def keyOk : TypeDesc → Value → Bool
  | .int k, .int k' _ => decide (k = k')
  | .string, .string _ => true
  | _, _ => false

/-- What a map holds at a key, and at which place. -/
def mpFind (d : TypeDesc) (k : Value) : List (Value × Value) → Nat → Option (Option (Nat × Value))
  | [], _ => some none
  | e :: es, i =>
    match Instr.sameNow d k e.1 with
    | some true => some (some (i, e.2))
    | some false => mpFind d k es (i + 1)
    | none => none

def lookupV (P : Program) (h : Hp) (t : TypeId) (x y : V) (ok : Bool) (K : V → Prop) : Prop :=
  match x with
  | .mp id => match h[id]? with
    | some (some [.mb es]) => match keyV y, mapOf P t with
      | some k, some (d, z) => keyOk d k = true ∧ match mpFind d k es 0 with
        | some (some (_, v)) => K (if ok then .tup [lf v, .bool true] else lf v)
        | some none => K (if ok then .tup [z, .bool false] else z)
        | none => False
      | _, _ => False
    | _ => False
  | _ => False

/-- The operations that only read; calls of Go functions stand elsewhere. -/
def qop (P : Program) (h : Hp) (ρ : Operand → V) (op : Op) (K : V → Prop) : Prop :=
  match op with
  | .move x => K (ρ x)
  | .assign x => K (ρ x)
  | .pick c a b => atBool (ρ c) fun t => K (if t then ρ a else ρ b)
  | .load t a => loadV P h t (ρ a) K
  | .fieldAddr s a f => fieldAddrV P s f (ρ a) K
  | .field s a f => fieldV P s f (ρ a) K
  | .indexAddr t x i => atInt (ρ i) fun _ z => indexAddrV P t (ρ x) z K
  | .index t x i => atInt (ρ i) fun _ z => indexV P t (ρ x) z K
  | .slice t x lo hi none => match lowOf ρ lo with
    | none => False
    | some l => sliceV P ρ t (ρ x) l hi K
  | .binOp op t x y _ => bin P op t (ρ x) (ρ y) K
  | .unOp .not _ x => atBool (ρ x) fun b => K (.bool (!b))
  | .unOp .neg _ x => atInt (ρ x) fun k n => K (.int k (k.wrap (0 - n)))
  | .convert s d x => convH P h s d (ρ x) K
  | .extract x i => atTup (ρ x) i K
  | .nilCheck x => nilV (ρ x) K
  | .lookup t x y ok => lookupV P h t (ρ x) (ρ y) ok K
  | .makeFunc f a c => K (.fn f (a.toList.map ρ) (c.toList.map ρ))
  | .call { callee := .builtin .len, args := ⟨[x]⟩, argTypes := ⟨[t]⟩ } => lenV P t (ρ x) K
  | .call { callee := .builtin .max, args := ⟨[x, y]⟩, .. } => atInt (ρ x) fun k a => atInt (ρ y) fun _ b => K (.int k (if b > a then b else a))
  | .call { callee := .builtin .min, args := ⟨[x, y]⟩, .. } => atInt (ρ x) fun k a => atInt (ρ y) fun _ b => K (.int k (if b < a then b else a))
  | _ => False

end Go.Lv
