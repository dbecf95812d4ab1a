/- Texts of this claim, one after the other: the calculus V and the functions' contracts. Conditions: as each states. -/
import Derived.Calls
namespace Go.V

inductive Ty where
  | int (k : IntKind) | bool | str | nil | cons (a b : Ty) | slice (e : Ty)
  deriving DecidableEq

def Ty.den : Ty → Type
  | .int _ => Int
  | .bool => Bool
  | .str => ByteArray
  | .nil => Unit
  | .cons a b => a.den × b.den
  | .slice e => List e.den

def Ty.sz : Ty → Nat
  | .nil => 0
  | .cons a b => a.sz + b.sz
  | _ => 1

def Ty.agg : Ty → Bool
  | .nil | .cons _ _ => true
  | _ => false

def Ty.dflt : (t : Ty) → t.den
  | .int _ => (0 : Int)
  | .bool => false
  | .str => ByteArray.empty
  | .nil => ()
  | .cons a b => (a.dflt, b.dflt)
  | .slice _ => []

def Ty.cast? (a b : Ty) (x : a.den) : Option b.den :=
  if h : a = b then some (h ▸ x) else none

/-- names of rows that a function owns -/
inductive Ow where
  | sl (d : Nat) | ce (k o : Nat) | rt (j : Nat) | tp (d j : Nat)
  deriving DecidableEq

inductive A0 where
  | undef
  | val (t : Ty) (x : t.den)
  | pv (t : Ty) (x : t.den)
  | al (w : Ow) (e : Ty) (l : List e.den)
  | vp (w : Ow) (e : Ty) (l : List e.den) (i : Nat) (t : Ty) (off : Nat) (get : e.den → t.den) (set : e.den → t.den → e.den)
  | full (e : Ty) (l : List e.den)
  | sc (v : Value)
  | ptr (k off : Nat)

inductive AV where
  | lf (a : A0)
  | tup (xs : List A0)
  | fn (f : Fn) (first cap : List A0)
  | iface (t : TypeId) (a : A0)
  | st (xs : List A0)

abbrev Regs := List AV
abbrev Mem := List (Nat × List A0)

inductive Out where
  | ret (v : AV) (m : Mem)
  | panic (v : AV) (m : Mem)

/-! ### walking over states -/

def A0.kill (w : Ow) : A0 → A0
  | .al u e l => if u = w then .undef else .al u e l
  | .vp u e l i t off g s => if u = w then .undef else .vp u e l i t off g s
  | a => a
def A0.ren (w w' : Ow) : A0 → A0
  | .al u e l => .al (if u = w then w' else u) e l
  | .vp u e l i t off g s => .vp (if u = w then w' else u) e l i t off g s
  | a => a
def A0.frz (w : Ow) : A0 → A0
  | .al u e l => if u = w then .val (.slice e) l else .al u e l
  | .vp u e l i t off g s => if u = w then .undef else .vp u e l i t off g s
  | a => a
/-- element i of the row is changed -/
def A0.upd (w : Ow) (e : Ty) (i : Nat) (f : e.den → e.den) : A0 → A0
  | .al u e' l => if u = w then (match (Ty.slice e').cast? (.slice e) l with | some l => .al u e (List.modify l i f) | none => .undef) else .al u e' l
  | .vp u e' l i' t off g s => if u = w then .undef else .vp u e' l i' t off g s
  | a => a
/-- pointers to the object, and rows named after its cells, are struck -/
def A0.drop (k : Nat) : A0 → A0
  | .ptr j off => if j = k then .undef else .ptr j off
  | a => a

def AV.map (f : A0 → A0) : AV → AV
  | .lf a => .lf (f a)
  | .tup xs => .tup (xs.map f)
  | .fn g a b => .fn g (a.map f) (b.map f)
  | .iface t a => .iface t (f a)
  | .st xs => .st (xs.map f)

def mmap (f : A0 → A0) (m : Mem) : Mem := m.map fun p => (p.1, p.2.map f)

/-- a value laid out -/
def fv0 (a : A0) (K : A0 → Prop) : Prop :=
  match a with
  | .undef => K .undef
  | .val t x => K (.val t x)
  | .pv t x => K (.pv t x)
  | .al w e l => K (.al w e l)
  | .vp w e l i t off g s => K (.vp w e l i t off g s)
  | .full e l => K (.full e l)
  | .sc v => K (.sc v)
  | .ptr k off => K (.ptr k off)

def fl0 : List A0 → (List A0 → Prop) → Prop
  | [], K => K []
  | a :: l, K => fv0 a fun a' => fl0 l fun l' => K (a' :: l')

def fv (a : AV) (K : AV → Prop) : Prop :=
  match a with
  | .lf a => fv0 a fun a => K (.lf a)
  | .tup xs => fl0 xs fun xs => K (.tup xs)
  | .fn g a b => fl0 a fun a => fl0 b fun b => K (.fn g a b)
  | .iface t a => fv0 a fun a => K (.iface t a)
  | .st xs => fl0 xs fun xs => K (.st xs)

def fr : Regs → (Regs → Prop) → Prop
  | [], K => K []
  | a :: l, K => fv a fun a' => fr l fun l' => K (a' :: l')

/-- the spine alone -/
def fs : Regs → (Regs → Prop) → Prop
  | [], K => K []
  | a :: l, K => fs l fun l' => K (a :: l')

def fm : Mem → (Mem → Prop) → Prop
  | [], K => K []
  | (k, c) :: l, K => fl0 c fun c' => fm l fun l' => K ((k, c') :: l')

def mapS (f : A0 → A0) (r : Regs) (m : Mem) (K : Regs → Mem → Prop) : Prop :=
  fr (r.map (AV.map f)) fun r => fm (mmap f m) fun m => K r m

def mget (m : Mem) (k : Nat) : Option (List A0) := (m.find? fun p => Nat.beq p.1 k).map (·.2)
def mset (m : Mem) (k : Nat) (c : List A0) : Mem := m.map fun p => bif Nat.beq p.1 k then (p.1, c) else p
def mdel (m : Mem) (k : Nat) : Mem := m.filter fun p => !Nat.beq p.1 k

/-- a small number laid out -/
def fN (n : Nat) (K : Nat → Prop) : Prop :=
  match n with
  | 0 => K 0 | 1 => K 1 | 2 => K 2 | 3 => K 3 | 4 => K 4 | 5 => K 5 | 6 => K 6 | 7 => K 7 | 8 => K 8 | 9 => K 9 | 10 => K 10 | 11 => K 11 | 12 => K 12 | 13 => K 13 | 14 => K 14 | 15 => K 15 | 16 => K 16
  | n => K n
theorem fN_eq (n : Nat) (K : Nat → Prop) : fN n K = K n := by unfold fN; split <;> rfl

def vif (b : Bool) (x y : Prop) : Prop := match b with | true => x | false => y
/-- what is to be shown, and what follows -/
def vand (p k : Prop) : Prop := p ∧ k
/-- what is decided by sight -/
def vchk (b : Bool) (k : Prop) : Prop := match b with | true => k | false => False
def optK {α : Type} (x : Option α) (K : α → Prop) : Prop := match x with | some a => K a | none => False

/-! ### values -/

def ofVal : Value → A0
  | .int k n => .val (.int k) n
  | .bool b => .val .bool b
  | .string s => .val .str s
  | v => .sc v

def AV.leaf : AV → A0
  | .lf a => a
  | _ => .undef

def vval (r : Regs) : Operand → AV
  | .tmp t => r.getD t (.lf .undef)
  | .const v => .lf (ofVal v)
  | .global _ => .lf .undef
  | .func f => .fn (.func f) [] []

def tyOf (P : Program) : Nat → TypeId → Option Ty
  | 0, _ => none
  | n + 1, t => match P.underlying t with
    | some (.int k) => some (.int k)
    | some .bool => some .bool
    | some .string => some .str
    | some (.slice e) => (tyOf P n e).map .slice
    | some (.struct fs) => fs.toList.foldr (fun f acc => match tyOf P n f.type, acc with | some a, some b => some (.cons a b) | _, _ => none) (some .nil)
    | _ => none

def isAggB (P : Program) (t : TypeId) : Bool :=
  match P.underlying t with
  | some (.struct _) | some (.array _ _) => true
  | _ => false

def szIs (P : Program) (t : TypeId) (n : Nat) : Bool :=
  match P.info? t with
  | some i => Nat.beq i.size n
  | none => false

def cellsT : (t : Ty) → t.den → List A0
  | .nil, _ => []
  | .cons a b, x => cellsT a x.1 ++ cellsT b x.2
  | .int k, x => [.val (.int k) x]
  | .bool, x => [.val .bool x]
  | .str, x => [.val .str x]
  | .slice e, x => [.val (.slice e) x]

def typed (t : Ty) (a : A0) : Option t.den :=
  match a with
  | .val t' x => t'.cast? t x
  | .sc (.slice none 0 0) => match t with | .slice _ => some [] | _ => none
  | _ => none

def packT : (t : Ty) → List A0 → Option (t.den × List A0)
  | .nil, l => some ((), l)
  | .cons a b, l => match packT a l with
    | some (x, l) => match packT b l with
      | some (y, l) => some ((x, y), l)
      | none => none
    | none => none
  | .int k, a :: l => (typed (.int k) a).map fun x => (x, l)
  | .bool, a :: l => (typed .bool a).map fun x => (x, l)
  | .str, a :: l => (typed .str a).map fun x => (x, l)
  | .slice e, a :: l => (typed (.slice e) a).map fun x => (x, l)
  | _, [] => none

def packN (e : Ty) : Nat → List A0 → Option (List e.den)
  | 0, [] => some []
  | 0, _ :: _ => none
  | n + 1, l => match packT e l with
    | some (x, l) => (packN e n l).map fun xs => x :: xs
    | none => none

/-- field i of a value: where it begins, and what it is -/
def projT : (t : Ty) → t.den → Nat → Nat → Option (Nat × (u : Ty) × u.den)
  | .cons a _, x, 0, off => some (off, ⟨a, x.1⟩)
  | .cons a b, x, i + 1, off => projT b x.2 i (off + a.sz)
  | _, _, _, _ => none

/-- field i of an element: where it begins, and how it is read and written -/
def lensT : (t : Ty) → Nat → Nat → Option (Nat × (u : Ty) × (t.den → u.den) × (t.den → u.den → t.den))
  | .cons a _, 0, off => some (off, ⟨a, fun x => x.1, fun x y => (y, x.2)⟩)
  | .cons a b, i + 1, off => (lensT b i (off + a.sz)).map fun (o, ⟨u, g, s⟩) => (o, ⟨u, fun x => g x.2, fun x y => (x.1, s x.2 y)⟩)
  | _, _, _ => none

/-- zero cells: what is nil is owned, under the cell's name -/
def zeroA (k : Nat) : (t : Ty) → Nat → List Value → Option (List A0 × List Value)
  | .nil, _, l => some ([], l)
  | .cons a b, o, l => match zeroA k a o l with
    | some (x, l) => match zeroA k b (o + a.sz) l with
      | some (y, l) => some (x ++ y, l)
      | none => none
    | none => none
  | .int _, _, .int q n :: l => some ([.val (.int q) n], l)
  | .bool, _, .bool b :: l => some ([.val .bool b], l)
  | .str, _, .string s :: l => some ([.val .str s], l)
  | .slice e, o, .slice none 0 0 :: l => some ([.al (.ce k o) e []], l)
  | _, _, _ => none

def zeroObj (k : Nat) (t : Ty) (z : List Value) : Option (List A0) :=
  match zeroA k t 0 z with
  | some (c, []) => some c
  | _ => none

def zeroCells? (P : Program) (t : TypeId) : Option (List Value) :=
  match P.info? t with
  | some i => i.zero.map fun z => z.cells.toList
  | none => none

def zeroOK (P : Program) (t : TypeId) (n : Nat) : Bool :=
  match zeroCells? P t with
  | some z => Nat.beq z.length n
  | none => false

def flatT : Ty → List Ty
  | .nil => []
  | .cons a b => flatT a ++ flatT b
  | t => [t]
/-- nil rows among a new object's cells are owned, under the cell's name -/
def nilsL (k : Nat) : Nat → List Ty → List A0 → List A0
  | o, .slice e :: ts, .sc (.slice none 0 0) :: l => .al (.ce k o) e [] :: nilsL k (o + 1) ts l
  | o, _ :: ts, a :: l => a :: nilsL k (o + 1) ts l
  | _, _, l => l
def nilsO (P : Program) (k : Nat) (t : TypeId) (c : List A0) : List A0 :=
  match tyOf P 9 t with
  | some T => nilsL k 0 (flatT T) c
  | none => c

def A0.row? : A0 → Option ((e : Ty) × List e.den)
  | .val (.slice e) l => some ⟨e, l⟩
  | .al _ e l => some ⟨e, l⟩
  | .full e l => some ⟨e, l⟩
  | _ => none

def vput (r : Regs) (m : Mem) (d : Option Nat) (v : AV) (K : Regs → Mem → Prop) : Prop :=
  match d with
  | none => K r m
  | some d => fv v fun v => fs (r.set d v) fun r => K r m

/-- a row of one's own is made in slot d -/
def vnew (r : Regs) (m : Mem) (d : Nat) (e : Ty) (l : List e.den) (K : Regs → Mem → Prop) : Prop :=
  mapS (A0.kill (.sl d)) r m fun r m => fs (r.set d (.lf (.al (.sl d) e l))) fun r => K r m

/-- rows among operands are frozen -/
def vfreeze (r : Regs) (m : Mem) : List Operand → (Regs → Mem → Prop) → Prop
  | [], K => K r m
  | x :: xs, K => match vval r x with
    | .lf (.al w _ _) => mapS (A0.frz w) r m fun r m => vfreeze r m xs K
    | _ => vfreeze r m xs K

/-- rows among cells are frozen -/
def vfreezeC (r : Regs) (m : Mem) : List A0 → (Regs → Mem → Prop) → Prop
  | [], K => K r m
  | .al w _ _ :: xs, K => mapS (A0.frz w) r m fun r m => vfreezeC r m xs K
  | _ :: xs, K => vfreezeC r m xs K

def pureBits (op : BinOp) (k : IntKind) (x y : Int) : Int :=
  let a := BitVec.ofInt k.bits x
  let b := BitVec.ofInt k.bits y
  match op with
  | .and => k.wrap (a &&& b).toNat
  | .or => k.wrap (a ||| b).toNat
  | .xor => k.wrap (a ^^^ b).toNat
  | _ => k.wrap (a &&& ~~~b).toNat

def binI (op : BinOp) (k : IntKind) (a b : Int) (K : A0 → Prop) : Prop :=
  match op with
  | .add => K (.val (.int k) (k.wrap (a + b)))
  | .sub => K (.val (.int k) (k.wrap (a - b)))
  | .mul => K (.val (.int k) (k.wrap (a * b)))
  | .quo => vand (b ≠ (0 : Int)) (K (.val (.int k) (k.wrap (a.tdiv b))))
  | .rem => vand (b ≠ (0 : Int)) (K (.val (.int k) (a.tmod b)))
  | .eql => K (.val .bool (a == b))
  | .neq => K (.val .bool (a != b))
  | .lss => K (.val .bool (decide (a < b)))
  | .leq => K (.val .bool (decide (a ≤ b)))
  | .gtr => K (.val .bool (decide (a > b)))
  | .geq => K (.val .bool (decide (a ≥ b)))
  | .and | .or | .xor | .andNot => K (.val (.int k) (pureBits op k a b))
  | _ => False

def shI (op : BinOp) (k : IntKind) (a b : Int) (K : A0 → Prop) : Prop :=
  match op with
  | .shl => vand (0 ≤ b) (K (.val (.int k) (k.wrap (a * 2 ^ (min b.toNat k.bits)))))
  | .shr => vand (0 ≤ b) (K (.val (.int k) (a.fdiv (2 ^ (min b.toNat k.bits)))))
  | _ => False

def negI (k : IntKind) (n : Int) (K : A0 → Prop) : Prop := K (.val (.int k) (k.wrap (0 - n)))

def binS (op : BinOp) (a b : ByteArray) (K : A0 → Prop) : Prop :=
  match op with
  | .add => vand (a.size + b.size ≤ 9223372036854775807) (K (.val .str (a ++ b)))
  | .eql => K (.val .bool (a.toList == b.toList))
  | .neq => K (.val .bool (!(a.toList == b.toList)))
  | _ => False

def binB (P : Program) (t : TypeId) (op : BinOp) (a b : Bool) (K : A0 → Prop) : Prop :=
  match P.underlying t with
  | some .bool => match op with
    | .eql => K (.val .bool (a == b))
    | .neq => K (.val .bool (!(a == b)))
    | _ => False
  | _ => False

def isSh : BinOp → Bool
  | .shl | .shr => true
  | _ => false

def vbin (P : Program) (op : BinOp) (t : TypeId) (x y : AV) (K : A0 → Prop) : Prop :=
  match x, y with
  | .lf (.val (.int k) a), .lf (.val (.int k') b) => match isSh op with
    | true => shI op k a b K
    | false => vchk (decide (k = k')) (binI op k a b K)
  | .lf (.val .str a), .lf (.val .str b) => binS op a b K
  | .lf (.val .bool a), .lf (.val .bool b) => binB P t op a b K
  | _, _ => False

def isNat (x : AV) (K : Int → Prop) : Prop :=
  match x with
  | .lf (.val (.int _) n) => K n
  | _ => False

def strOfNums (l : List Int) : ByteArray := ⟨(l.map fun n => UInt8.ofNat n.toNat).toArray⟩
def numsOfStr (s : ByteArray) : List Int := s.data.toList.map fun b => (b.toNat : Int)

/-- s[lo:hi] of a string -/
def sliceS (s : ByteArray) (lo hi : Int) (K : A0 → Prop) : Prop :=
  vand (0 ≤ lo ∧ lo ≤ hi ∧ hi ≤ s.size) (K (.val .str (s.extract lo.toNat hi.toNat)))

def sliceV (e : Ty) (l : List e.den) (lo hi : Int) (K : A0 → Prop) : Prop :=
  vand (0 ≤ lo ∧ lo ≤ hi ∧ hi ≤ l.length) (K (.val (.slice e) ((l.take hi.toNat).drop lo.toNat)))

def sliceF (e : Ty) (l : List e.den) (lo hi mx : Int) (K : A0 → Prop) : Prop :=
  vand (0 ≤ lo ∧ lo ≤ hi ∧ hi = mx ∧ hi ≤ l.length) (K (.full e ((l.take hi.toNat).drop lo.toNat)))

def sliceA (w : Ow) (e : Ty) (l : List e.den) (hi : Int) (K : A0 → Prop) : Prop :=
  vand (0 ≤ hi ∧ hi ≤ l.length) (K (.al w e (l.take hi.toNat)))

def optI (r : Regs) (x : Option Operand) (d : Int) (K : Int → Prop) : Prop :=
  match x with
  | none => K d
  | some x => isNat (vval r x) K

def vslice (P : Program) (r : Regs) (t : TypeId) (x : AV) (lo hi mx : Option Operand) (K : A0 → Prop) : Prop :=
  match x with
  | .lf (.val .str s) => match P.underlying t, mx with
    | some .string, none => optI r lo 0 fun a => optI r hi (ByteArray.size s) fun b => sliceS s a b K
    | _, _ => False
  | .lf (.val (.slice e) l) => match P.underlying t with
    | some (.slice el) => vchk (szIs P el e.sz) (optI r lo 0 fun a => match mx with
      | none => optI r hi (List.length l) fun b => sliceV e l a b K
      | some z => match hi with
        | some h => isNat (vval r h) fun b => isNat (vval r z) fun c => sliceF e l a b c K
        | none => False)
    | _ => False
  | .lf (.al w e l) => match P.underlying t, lo, mx with
    | some (.slice el), none, none => vchk (szIs P el e.sz) (optI r hi l.length fun b => sliceA w e l b K)
    | _, _, _ => False
  | _ => False

def idxK (n len : Int) (K : Prop) : Prop := vand (0 ≤ n ∧ n < len) K

/-- the value of an operation that leaves the state alone -/
def vpure (P : Program) (r : Regs) (m : Mem) (o : Oper) (K : AV → Prop) : Prop :=
  match o.op with
  | .move x => K (vval r x)
  | .binOp op t x y _ => vbin P op t (vval r x) (vval r y) fun a => K (.lf a)
  | .unOp op _ x => match op, vval r x with
    | .not, .lf (.val .bool b) => K (.lf (.val .bool (!(b : Bool))))
    | .neg, .lf (.val (.int k) n) => negI k n fun a => K (.lf a)
    | _, _ => False
  | .nilCheck x => match vval r x with
    | .lf (.ptr k off) => K (.lf (.ptr k off))
    | .lf (.pv t y) => K (.lf (.pv t y))
    | _ => False
  | .index t x i => match P.underlying t, vval r x with
    | some .string, .lf (.val .str s) => isNat (vval r i) fun n => idxK n (ByteArray.size s) (K (.lf (.val (.int .u8) (((ByteArray.data s).toList.getD n.toNat 0).toNat : Int))))
    | _, _ => False
  | .indexAddr t x i => match P.underlying t with
    | some (.slice el) => match vval r x with
      | .lf (.val (.slice e) l) => vchk (szIs P el e.sz) (isNat (vval r i) fun n => idxK n (List.length l) (K (.lf (.pv e (List.getD l n.toNat e.dflt)))))
      | .lf (.al w e l) => vchk (szIs P el e.sz) (isNat (vval r i) fun n => idxK n l.length (K (.lf (.vp w e l n.toNat e 0 id fun _ y => y))))
      | _ => False
    | _ => False
  | .fieldAddr s x f => match P.underlying s with
    | some (.struct fs) => match vval r x with
      | .lf (.ptr k off) => optK fs[f]? fun fd => vchk (!szIs P fd.type 0 && (P.info? fd.type).isSome) (fN (off + fd.offset) fun o => K (.lf (.ptr k o)))
      | .lf (.pv t y) => optK fs[f]? fun fd => optK (projT t y f 0) fun (o, ⟨u, z⟩) => vchk (Nat.beq fd.offset o && !szIs P fd.type 0 && (P.info? fd.type).isSome) (K (.lf (.pv u z)))
      | .lf (.vp w e l i t off g s) => optK fs[f]? fun fd => optK (lensT t f 0) fun (o, ⟨u, g', s'⟩) => vchk (Nat.beq fd.offset o && !szIs P fd.type 0 && (P.info? fd.type).isSome) (K (.lf (.vp w e l i u (off + o) (fun x => g' (g x)) fun x y => s x (s' (g x) y))))
      | _ => False
    | _ => False
  | .field s x f => match P.underlying s, vval r x with
    | some (.struct fs), .lf (.val t y) => optK fs[f]? fun fd => optK (projT t y f 0) fun (o, ⟨u, z⟩) => vchk (t.agg && Nat.beq fd.offset o && (isAggB P fd.type == u.agg) && szIs P fd.type u.sz && (P.underlying fd.type).isSome) (K (.lf (.val u z)))
    | _, _ => False
  | .extract x i => match vval r x with
    | .tup xs => optK xs[i]? fun a => K (.lf a)
    | _ => False
  | .load t a => vchk (P.underlying t).isSome (match vval r a with
    | .lf (.ptr k off) => optK (mget m k) fun c => match isAggB P t with
      | false => optK c[off]? fun a => K (.lf a)
      | true => optK (tyOf P 9 t) fun T => vchk (szIs P t T.sz && T.agg) (optK (packT T (c.drop off)) fun p => K (.lf (.val T p.1)))
    | .lf (.pv u x) => vchk (szIs P t u.sz && (isAggB P t == u.agg)) (K (.lf (.val u x)))
    | .lf (.vp _ e l i u _ g _) => vchk (szIs P t u.sz && (isAggB P t == u.agg)) (K (.lf (.val u (g (l.getD i e.dflt)))))
    | _ => False)
  | .convert src dst x => match vval r x with
    | .lf (.val (.int _) n) => match P.underlying src, P.underlying dst with
      | some (.int _), some (.int k) => K (.lf (.val (.int k) (k.wrap n)))
      | _, _ => False
    | .lf (.val (.slice (.int .u8)) l) => match P.underlying src, P.underlying dst with
      | some (.slice e), some .string => match P.underlying e with
        | some (.int .u8) => K (.lf (.val .str (strOfNums l)))
        | _ => False
      | _, _ => False
    | .lf (.al _ (.int .u8) l) => match P.underlying src, P.underlying dst with
      | some (.slice e), some .string => match P.underlying e with
        | some (.int .u8) => K (.lf (.val .str (strOfNums l)))
        | _ => False
      | _, _ => False
    | .lf (.val .str s) => match P.underlying src, P.underlying dst with
      | some .string, some .string => K (.lf (.val .str s))
      | _, _ => False
    | _ => False
  | .slice t x lo hi mx => vslice P r t (vval r x) lo hi mx fun a => K (.lf a)
  | .makeInterface t x => match P.underlying t, vval r x with
    | some (.interface _), _ => False
    | some _, .lf a => K (.iface t a)
    | _, _ => False
  | .makeFunc f a b => K (.fn f (a.toList.map fun x => (vval r x).leaf) (b.toList.map fun x => (vval r x).leaf))
  | .call { callee := .builtin .len, args, argTypes } => match args.toList, argTypes.toList with
    | [x], [t] => match P.underlying t, vval r x with
      | some .string, .lf (.val .str s) => K (.lf (.val (.int .i64) (ByteArray.size s : Int)))
      | some (.slice _), .lf a => optK a.row? fun ⟨_, l⟩ => K (.lf (.val (.int .i64) (l.length : Int)))
      | _, _ => False
    | _, _ => False
  | .call { callee := .builtin .max, args, .. } => match args.toList with
    | [x, y] => match vval r x, vval r y with
      | .lf (.val (.int k) a), .lf (.val (.int _) b) => K (.lf (.val (.int k) (maxI a b)))
      | _, _ => False
    | _ => False
  | .call { callee := .builtin .min, args, .. } => match args.toList with
    | [x, y] => match vval r x, vval r y with
      | .lf (.val (.int k) a), .lf (.val (.int _) b) => K (.lf (.val (.int k) (minI a b)))
      | _, _ => False
    | _ => False
  | _ => False
where
  maxI (a b : Int) : Int := if b > a then b else a
  minI (a b : Int) : Int := if b < a then b else a

/-! ### parts of struct and slice literals -/

def fillA (place : Nat → Option (Nat × Nat)) (cells : List A0) : List (Nat × List A0) → Option (List A0)
  | [] => some cells
  | (i, v) :: rest => match place i with
    | none => none
    | some (off, size) => match Nat.beq v.length size && Nat.ble (off + size) cells.length with
      | true => fillA place (cells.take off ++ v ++ cells.drop (off + size)) rest
      | false => none

/-- a value's cells -/
def AV.cells : AV → Option (List A0)
  | .lf (.val t x) => some (cellsT t x)
  | .lf (.sc v) => match v with | .agg _ => none | v => some [.sc v]
  | .lf (.ptr k off) => some [.ptr k off]
  | .st xs => some xs
  | _ => none

def partsA (r : Regs) : List (Nat × Operand) → Option (List (Nat × List A0))
  | [] => some []
  | (i, x) :: l => match (vval r x).cells, partsA r l with
    | some c, some l => some ((i, c) :: l)
    | _, _ => none

def valCells : List Value → List A0
  | [] => []
  | v :: l => ofVal v :: valCells l

def placesOf (P : Program) : List Field → Option (List (Nat × Nat))
  | [] => some []
  | f :: fs => match P.info? f.type, placesOf P fs with
    | some i, some l => some ((f.offset, i.size) :: l)
    | _, _ => none

def usedOwn (ops : List Oper) (d : Nat) : Bool := ops.any fun o => match o.op with
  | .assign (.tmp t) => Nat.beq t d
  | .call { callee := .builtin .append, args, .. } => match args.toList with | .tmp t :: _ => Nat.beq t d | _ => false
  | _ => false

/-- a literal that is put into a variable keeps its cells -/
def boxedIn (ops : List Oper) (dst : Option Nat) : Bool :=
  match dst with
  | some d => ops.any fun o => match o.op with
    | .box _ (.tmp t) => Nat.beq t d
    | .store _ _ (.tmp t) => Nat.beq t d
    | _ => false
  | none => false

def repA : Nat → List A0 → List A0
  | 0, _ => []
  | n + 1, c => c ++ repA n c

/-! ### calls -/

def idxOf (k : Nat) : List Nat → Nat → Option Nat
  | [], _ => none
  | x :: l, j => bif Nat.beq x k then some j else idxOf k l (j + 1)

def mvOf (w : Ow) : List (Ow × Nat) → Option Nat
  | [] => none
  | (u, i) :: l => if u = w then some i else mvOf w l

def inOw (ks : List Nat) (mv : List (Ow × Nat)) (w : Ow) : Option Ow :=
  match mvOf w mv with
  | some i => some (.sl i)
  | none => match w with
    | .ce k o => (idxOf k ks 0).map fun j => .ce (1000 + j) o
    | _ => none

/-- from the caller to the callee -/
def A0.into (ks : List Nat) (mv : List (Ow × Nat)) : A0 → A0
  | .ptr k off => match idxOf k ks 0 with | some j => .ptr (1000 + j) off | none => .undef
  | .al w e l => match inOw ks mv w with | some w' => .al w' e l | none => .undef
  | .vp .. => .undef
  | a => a

/-- names that a call gives anew -/
def newOw (d : Nat) : Ow → Bool
  | .sl s => Nat.beq s d
  | .tp s _ => Nat.beq s d
  | .ce k _ => Nat.beq k (3000 + d)
  | .rt _ => false

/-- what the caller loses at a call whose result goes to slot d -/
def A0.outn (ks : List Nat) (mv : List (Ow × Nat)) (d : Nat) : A0 → A0
  | .al w e l => bif (inOw ks mv w).isSome || newOw d w then .undef else .al w e l
  | .vp w e l i t off g s => bif (inOw ks mv w).isSome || newOw d w then .undef else .vp w e l i t off g s
  | .ptr k off => bif Nat.beq k (3000 + d) then .undef else .ptr k off
  | a => a

def backKey (ks : List Nat) (d : Nat) (k : Nat) : Option Nat :=
  bif Nat.beq k 2000 then some (3000 + d) else bif Nat.ble 1000 k then ks[k - 1000]? else none

def backOw (ks : List Nat) (d : Nat) : Ow → Option Ow
  | .rt 0 => some (.sl d)
  | .rt (j + 1) => some (.tp d (j + 1))
  | .ce k o => (backKey ks d k).map fun k' => .ce k' o
  | _ => none

/-- from the callee back -/
def A0.back (ks : List Nat) (d : Nat) : A0 → A0
  | .ptr k off => match backKey ks d k with | some k' => .ptr k' off | none => .undef
  | .al w e l => match backOw ks d w with | some w' => .al w' e l | none => .undef
  | .vp .. => .undef
  | a => a

def backM (ks : List Nat) (d : Nat) : Mem → Mem
  | [] => []
  | (k, c) :: l => match backKey ks d k with
    | some k' => (k', c.map (A0.back ks d)) :: backM ks d l
    | none => backM ks d l

def subM (m : Mem) (ks : List Nat) (mv : List (Ow × Nat)) : List Nat → Nat → Mem
  | [], _ => []
  | k :: l, j => (1000 + j, ((mget m k).getD []).map (A0.into ks mv)) :: subM m ks mv l (j + 1)

def leftM (m : Mem) (ks : List Nat) (d : Nat) : Mem := m.filter fun p => !(idxOf p.1 ks 0).isSome && !Nat.beq p.1 (3000 + d)

def fl : List AV → (List AV → Prop) → Prop
  | [], K => K []
  | a :: l, K => fv a fun a' => fl l fun l' => K (a' :: l')

def nodupN : List Nat → Bool
  | [] => true
  | x :: l => !(idxOf x l 0).isSome && nodupN l

/-- names handed over: each once, each with a place of its own, none of them a cell's of an object that goes along -/
def mvOK (ks : List Nat) : List (Ow × Nat) → Bool
  | [] => true
  | (w, i) :: l => !(mvOf w l).isSome && !((l.map (·.2)).contains i) && (match w with | .ce k _ => !(idxOf k ks 0).isSome | _ => true) && mvOK ks l

/-- an argument: a nil slice has its parameter's type -/
def coerce (P : Program) (t : TypeId) : AV → AV
  | .lf (.sc (.slice none 0 0)) => match P.underlying t with
    | some (.slice e) => match tyOf P 9 e with
      | some E => .lf (.val (.slice E) [])
      | none => .lf (.sc (.slice none 0 0))
    | _ => .lf (.sc (.slice none 0 0))
  | v => v

def argsOf (P : Program) (r : Regs) : List Operand → List TypeId → List AV
  | [], _ => []
  | x :: l, [] => vval r x :: argsOf P r l []
  | x :: l, t :: ts => coerce P t (vval r x) :: argsOf P r l ts

def callOK (ks : List Nat) (mv : List (Ow × Nat)) (d : Nat) (m : Mem) : Bool :=
  nodupN ks && mvOK ks mv && (ks.all fun k => (mget m k).isSome) && !(idxOf (3000 + d) ks 0).isSome && Nat.ble ks.length 1000

abbrev SND := FuncId → List AV → Mem → (Out → Prop) → Prop

/-- A call: ks are the objects that go along, mv the rows that are handed over, each with the argument's place. -/
def vcall (Snd : SND) (f : FuncId) (xs : List AV) (d : Nat) (r : Regs) (m : Mem) (K : AV → Regs → Mem → Prop) (E : AV → Mem → Prop) : Prop :=
  ∃ (ks : List Nat) (mv : List (Ow × Nat)) (Q : Out → Prop),
    vchk (callOK ks mv d m) (
      fl (xs.map (AV.map (A0.into ks mv))) fun xs => fm (subM m ks mv ks 0) fun sm =>
        fr (r.map (AV.map (A0.outn ks mv d))) fun r => fm (mmap (A0.outn ks mv d) (leftM m ks d)) fun lm =>
          Snd f xs sm Q ∧ ∀ o, Q o → match o with
            | .ret v m' => fv (v.map (A0.back ks d)) fun v => fm (lm ++ backM ks d m') fun m => K v r m
            | .panic v m' => fv (v.map (A0.back ks d)) fun v => fm (lm ++ backM ks d m') fun m => E v m)

theorem vcall_intro {Snd : SND} {f : FuncId} {xs : List AV} {d : Nat} {r : Regs} {m : Mem} {K : AV → Regs → Mem → Prop} {E : AV → Mem → Prop} (ks : List Nat) (mv : List (Ow × Nat)) {Q : Out → Prop}
    (h : vchk (callOK ks mv d m) (
      fl (xs.map (AV.map (A0.into ks mv))) fun xs => fm (subM m ks mv ks 0) fun sm =>
        fr (r.map (AV.map (A0.outn ks mv d))) fun r => fm (mmap (A0.outn ks mv d) (leftM m ks d)) fun lm =>
          Snd f xs sm Q ∧ ∀ o, Q o → match o with
            | .ret v m' => fv (v.map (A0.back ks d)) fun v => fm (lm ++ backM ks d m') fun m => K v r m
            | .panic v m' => fv (v.map (A0.back ks d)) fun v => fm (lm ++ backM ks d m') fun m => E v m)) : vcall Snd f xs d r m K E := ⟨ks, mv, Q, h⟩

/-! ### operations that change the state -/

def isTmpOw : Ow → Bool
  | .sl _ | .tp _ _ => true
  | _ => false

/-- a row comes under a new name -/
def vname (r : Regs) (m : Mem) (u w : Ow) (K : Regs → Mem → Prop) : Prop :=
  match decide (u = w) with
  | true => K r m
  | false => mapS (A0.kill w) r m fun r m => mapS (A0.ren u w) r m K

def nvOf (e : Ty) (v : AV) : Option (List e.den) :=
  match v with
  | .lf a => match a.row? with
    | some ⟨e', l⟩ => (Ty.slice e').cast? (.slice e) l
    | none => match a with
      | .val .str s => (Ty.slice (.int .u8)).cast? (.slice e) (numsOfStr s)
      | _ => none
  | _ => none

/-- the second type of an append: a slice, or a string -/
def apT (P : Program) (t : TypeId) : Bool := match P.underlying t with | some (.slice _) | some .string => true | _ => false

def fits (P : Program) (el : TypeId) (n : Nat) : Prop := n ≤ 4611686018427387904 ∧ n * P.bytesOf el ≤ 140737488355328

def vappend (P : Program) (r : Regs) (m : Mem) (d : Nat) (t : TypeId) (s x : AV) (K : Regs → Mem → Prop) : Prop :=
  match P.underlying t with
  | some (.slice el) => match s with
    | .lf (.al w e l) => vchk (szIs P el e.sz && zeroOK P el e.sz) (optK (nvOf e x) fun l2 => vand (fits P el (l.length + l2.length))
        (mapS (A0.kill w) r m fun r m => fs (r.set d (.lf (.al w e (l ++ l2)))) fun r => K r m))
    | .lf (.full e l) => vchk (szIs P el e.sz && zeroOK P el e.sz) (optK (nvOf e x) fun l2 => vand (fits P el (l.length + l2.length) ∧ 0 < l2.length) (vnew r m d e (l ++ l2) K))
    | .lf (.sc (.slice none 0 0)) => optK (tyOf P 9 el) fun e => vchk (szIs P el e.sz && zeroOK P el e.sz) (optK (nvOf e x) fun l2 => vand (fits P el l2.length) (vnew r m d e l2 K))
    | _ => False
  | _ => False

/-- one cell of an object is written -/
def into1 (a x : Operand) (K : Regs → Mem → Prop) (r : Regs) (m : Mem) : Prop :=
  match vval r a, vval r x with
  | .lf (.ptr k off), .lf y => match y with
    | .undef | .vp .. | .full .. => False
    | .val T y => vchk (!T.agg) (optK (mget m k) fun c => vchk (Nat.blt off c.length) (fl0 (c.set off (.val T y)) fun c => fm (mset m k c) fun m => K r m))
    | .sc (.agg _) | .sc (.tuple _) => False
    | y => optK (mget m k) fun c => vchk (Nat.blt off c.length) (fl0 (c.set off y) fun c => fm (mset m k c) fun m => K r m)
  | _, _ => False

/-- a nil row is put into a cell -/
def intoNil (P : Program) (t : TypeId) (a : Operand) (k off : Nat) (K : Regs → Mem → Prop) (r : Regs) (m : Mem) : Prop :=
  match P.underlying t with
  | some (.slice e) => optK (tyOf P 9 e) fun E => mapS (A0.kill (.ce k off)) r m fun r m => match vval r a with
    | .lf (.ptr k' off') => vchk (Nat.beq k' k && Nat.beq off' off) (optK (mget m k) fun c => vchk (Nat.blt off c.length) (fl0 (c.set off (.al (.ce k off) E [])) fun c => fm (mset m k c) fun m => K r m))
    | _ => False
  | _ => False

/-- one cell's value -/
def okCell : A0 → Bool
  | .val T _ => !T.agg
  | .al _ _ _ => true
  | .ptr _ _ => true
  | .pv _ _ => true
  | .sc (.agg _) => false
  | .sc (.tuple _) => false
  | .sc _ => true
  | _ => false
def okCells : List A0 → Bool
  | [] => true
  | a :: l => okCell a && okCells l
def nilsAt (P : Program) (k off : Nat) (t : TypeId) (c : List A0) : List A0 :=
  match tyOf P 9 t with
  | some T => nilsL k off (flatT T) c
  | none => c
/-- a struct is put into an object -/
def intoN (P : Program) (t : TypeId) (a x : Operand) (K : Regs → Mem → Prop) (r : Regs) (m : Mem) : Prop :=
  match vval r a, vval r x with
  | .lf (.ptr k off), .lf (.val T y) => vchk (szIs P t T.sz && T.agg) (optK (mget m k) fun c => vchk (Nat.ble (off + T.sz) c.length) (fl0 (c.take off ++ cellsT T y ++ c.drop (off + T.sz)) fun c => fm (mset m k c) fun m => K r m))
  | .lf (.ptr k off), .st xs => vchk (szIs P t xs.length && okCells xs) (optK (mget m k) fun c => vchk (Nat.ble (off + xs.length) c.length) (fl0 (c.take off ++ nilsAt P k off t xs ++ c.drop (off + xs.length)) fun c => fm (mset m k c) fun m => K r m))
  | _, _ => False

/-- a part of an element of a row is written -/
def intoE (P : Program) (t : TypeId) (a x : Operand) (K : Regs → Mem → Prop) (r : Regs) (m : Mem) : Prop :=
  match vval r a, vval r x with
  | .lf (.vp w e _ i u _ _ s), .lf (.val T y) => vchk (szIs P t T.sz && (isAggB P t == T.agg)) (optK (T.cast? u y) fun y => mapS (A0.upd w e i fun z => s z y) r m fun r m => K r m)
  | _, _ => False

def vstore (P : Program) (t : TypeId) (a x : Operand) (r : Regs) (m : Mem) (K : Regs → Mem → Prop) : Prop :=
  match vval r a with
  | .lf (.ptr k off) => match isAggB P t with
    | true => vfreeze r m [x] (intoN P t a x K)
    | false => vchk (szIs P t 1) (match vval r x with
      | .lf (.sc (.slice none 0 0)) => intoNil P t a k off K r m
      | .lf (.al u _ _) => match isTmpOw u || decide (u = .ce k off) with
        | true => vname r m u (.ce k off) (into1 a x K)
        | false => vfreeze r m [x] (into1 a x K)
      | _ => into1 a x K r m)
  | .lf (.vp ..) => vfreeze r m [x] (intoE P t a x K)
  | _ => False

def vop (P : Program) (Snd : SND) (all : List Oper) (o : Oper) (r : Regs) (m : Mem) (K : Regs → Mem → Prop) (E : AV → Mem → Prop) : Prop :=
  match o.op with
  | .assign x => match o.dst with
    | some d => match vval r x with
      | .lf (.sc (.slice none 0 0)) => match P.underlying o.type with
        | some (.slice e) => optK (tyOf P 9 e) fun E => vnew r m d E [] K
        | _ => vput r m (some d) (vval r x) K
      | .lf (.al u _ _) => match isTmpOw u with
        | true => vname r m u (.sl d) fun r m => vput r m (some d) (vval r x) K
        | false => vput r m (some d) (vval r x) K
      | v => vput r m (some d) v K
    | none => False
  | .pick c a b => match vval r c with
    | .lf (.val .bool t) => vif t (vput r m o.dst (vval r a) K) (vput r m o.dst (vval r b) K)
    | _ => False
  | .alloc t => match o.dst with
    | some d => vchk (Nat.blt d 1000) (optK (zeroCells? P t) fun z =>
        optK (match tyOf P 9 t with | some T => zeroObj d T z | none => some (valCells z)) fun c => fr (r.map (AV.map (A0.drop d))) fun r => fm (mmap (A0.drop d) (mdel m d)) fun m => fl0 c fun c => vput r ((d, c) :: m) (some d) (.lf (.ptr d 0)) K)
    | none => False
  | .box t x => match o.dst with
    | some d => vfreeze r m [x] fun r m => vchk (Nat.blt d 1000) (optK ((vval r x).cells) fun c => fr (r.map (AV.map (A0.drop d))) fun r => fm (mmap (A0.drop d) (mdel m d)) fun m => fl0 (nilsO P d t (c.map (A0.drop d))) fun c => vput r ((d, c) :: m) (some d) (.lf (.ptr d 0)) K)
    | none => False
  | .build t ps => vfreeze r m (ps.toList.map fun p => p.2) fun r m => match P.underlying t with
    | some (.struct fs) => optK (tyOf P 9 t) fun T => optK (zeroCells? P t) fun z => optK (placesOf P fs.toList) fun pl => optK (partsA r ps.toList) fun qs => optK (fillA (pl[·]?) (valCells z) qs) fun c => match boxedIn all o.dst with | true => vput r m o.dst (.st c) K | false => vchk T.agg (optK (packT T c) fun p => vchk p.2.isEmpty (vput r m o.dst (.lf (.val T p.1)) K))
    | _ => False
  | .buildSlice t n ps => match o.dst, P.underlying t with
    | some d, some (.slice el) => vfreeze r m (ps.toList.map fun p => p.2) fun r m => optK (tyOf P 9 el) fun E => optK (zeroCells? P el) fun z => vchk (szIs P el E.sz && Nat.beq z.length E.sz && Nat.ble (n * E.sz) 16777216) (optK (partsA r ps.toList) fun qs =>
        optK (fillA (fun i => some (i * E.sz, E.sz)) (repA n (valCells z)) qs) fun c => optK (packN E n c) fun l => match usedOwn all d with
          | true => vnew r m d E l K
          | false => vput r m (some d) (.lf (.val (.slice E) l)) K)
    | _, _ => False
  | .makeSlice t n c => match o.dst, P.underlying t with
    | some d, some (.slice el) => optK (tyOf P 9 el) fun E => optK (zeroCells? P el) fun z => vchk (szIs P el E.sz && Nat.beq z.length E.sz) (isNat (vval r n) fun a => isNat (vval r c) fun b => optK (packT E (valCells z)) fun p => vchk p.2.isEmpty (vand (0 ≤ a ∧ a = b ∧ fits P el a.toNat) (vnew r m d E (List.replicate a.toNat p.1) K)))
    | _, _ => False
  | .store t a x => match o.dst with | none => vstore P t a x r m K | some _ => False
  | .load t a => match vval r a, isAggB P t with
    | .lf (.ptr k off), true => optK (mget m k) fun c => vfreezeC r m (c.drop off) fun r m => vpure P r m o fun v => vput r m o.dst v K
    | _, _ => vpure P r m o fun v => vput r m o.dst v K
  | .slice _ x lo _ mx => match lo, mx with
    | none, none => vpure P r m o fun v => vput r m o.dst v K
    | _, _ => vfreeze r m [x] fun r m => vpure P r m o fun v => vput r m o.dst v K
  | .convert src dst x => match vval r x with
    | .lf (.val .str s) => match P.underlying src, P.underlying dst with
      | some .string, some (.slice e) => match P.underlying e, o.dst with
        | some (.int .u8), some d => vchk (szIs P e 1) (vnew r m d (.int .u8) (numsOfStr s) K)
        | _, _ => False
      | _, _ => vpure P r m o fun v => vput r m o.dst v K
    | .lf (.al w (.int .u8) l) => match P.underlying src, P.underlying dst with
      | some (.slice _), some (.slice e) => match P.underlying e with
        | some (.int .u8) => vchk (Nat.beq src dst) (vand (0 < List.length l) (vput r m o.dst (.lf (.al w (.int .u8) l)) K))
        | _ => False
      | _, _ => vpure P r m o fun v => vput r m o.dst v K
    | _ => vpure P r m o fun v => vput r m o.dst v K
  | .panic x => match vval r x with
    | .iface t a => E (.iface t a) m
    | _ => False
  | .call { callee := .builtin .append, args, argTypes } => match o.dst, args.toList, argTypes.toList with
    | some d, [s, x], [t, u] => vchk (apT P u) (vappend P r m d t (vval r s) (vval r x) K)
    | _, _, _ => False
  | .call { callee := .builtin .panic, args, .. } => match args.toList with
    | [x] => match vval r x with
      | .iface t a => E (.iface t a) m
      | _ => False
    | _ => False
  | .call { callee := .builtin _, .. } => vpure P r m o fun v => vput r m o.dst v K
  | .call { callee := .value f, args, argTypes } => match vval r f with
    | .fn (.func g) a b => vcall Snd g (a.map .lf ++ argsOf P r args.toList argTypes.toList ++ b.map .lf) (o.dst.getD 9999) r m (fun v r m => vput r m o.dst v K) E
    | _ => False
  | _ => vpure P r m o fun v => vput r m o.dst v K

def vguard (all : List Oper) (r : Regs) (o : Oper) (X Y : Prop) : Prop :=
  match o.guard with
  | none => X
  | some (j, want) => match (all[j]?).bind (·.dst) with
    | some d => match r.getD d (.lf .undef) with
      | .lf (.val .bool t) => match want with | true => vif t X Y | false => vif t Y X
      | .lf (.sc (.tuple _)) => Y
      | _ => False
    | none => False

def skipped : AV := .lf (.sc (.tuple #[]))

def vopG (P : Program) (Snd : SND) (all : List Oper) (o : Oper) (r : Regs) (m : Mem) (K : Regs → Mem → Prop) (E : AV → Mem → Prop) : Prop :=
  vguard all r o (vop P Snd all o r m K E) (vput r m o.dst skipped K)

def vops (P : Program) (Snd : SND) (all : List Oper) : List Oper → Regs → Mem → (Regs → Mem → Prop) → (AV → Mem → Prop) → Prop
  | [], r, m, K, _ => K r m
  | o :: l, r, m, K, E => vopG P Snd all o r m (fun r m => vops P Snd all l r m K E) E

/-- what an operation looks at -/
def opnds : Op → List Operand
  | .move x | .assign x | .unOp _ _ x | .nilCheck x | .fieldAddr _ x _ | .field _ x _ | .extract x _ | .load _ x | .convert _ _ x | .makeInterface _ x | .box _ x | .panic x => [x]
  | .binOp _ _ x y _ | .index _ x y | .indexAddr _ x y | .store _ x y | .makeSlice _ x y => [x, y]
  | .pick x y z => [x, y, z]
  | .slice _ x lo hi mx => x :: (lo.toList ++ (hi.toList ++ mx.toList))
  | .makeFunc _ a b => a.toList ++ b.toList
  | .call { callee := .value f, args, .. } => f :: args.toList
  | .call { callee := .builtin _, args, .. } => args.toList
  | .build _ ps | .buildSlice _ _ ps => ps.toList.map (·.2)
  | _ => []

def notAl : AV → Bool
  | .lf (.al _ _ _) => false
  | _ => true
def noAl : List A0 → Bool
  | [] => true
  | .al _ _ _ :: _ => false
  | _ :: l => noAl l

/-- nothing but a value comes of it -/
def calm (P : Program) (all : List Oper) (o : Oper) (r : Regs) (m : Mem) : Bool :=
  match o.op with
  | .load t a => match vval r a, isAggB P t with
    | .lf (.ptr k off), true => match mget m k with
      | some c => noAl (c.drop off)
      | none => false
    | _, _ => true
  | .slice _ x lo _ mx => match lo, mx with
    | none, none => true
    | _, _ => notAl (vval r x)
  | .convert src dst x => match vval r x with
    | .lf (.val .str _) => match P.underlying dst with | some .string => true | _ => false
    | .lf (.al _ _ _) => match P.underlying dst with | some .string => true | _ => false
    | _ => true
  | .build _ ps => ps.toList.all fun p => notAl (vval r p.2)
  | .buildSlice _ _ ps => (ps.toList.all fun p => notAl (vval r p.2)) && (match o.dst with | some d => !usedOwn all d | none => false)
  | .move _ | .binOp _ _ _ _ _ | .unOp _ _ _ | .nilCheck _ | .index _ _ _ | .indexAddr _ _ _ | .fieldAddr _ _ _ | .field _ _ _ | .extract _ _ | .makeInterface _ _ | .makeFunc _ _ _ | .pick _ _ _ => true
  | .call { callee := .builtin .len, .. } | .call { callee := .builtin .max, .. } | .call { callee := .builtin .min, .. } => true
  | _ => false

/-- no name of a row is in it -/
def in0 : A0 → Bool
  | .al _ _ _ => false
  | .vp _ _ _ _ _ _ _ _ => false
  | .ptr k _ => Nat.blt k 3000
  | _ => true
def inL : List A0 → Bool
  | [] => true
  | a :: l => in0 a && inL l
def inA : AV → Bool
  | .lf a => in0 a
  | .tup xs => inL xs
  | .fn _ a b => inL a && inL b
  | .iface _ a => in0 a
  | .st xs => inL xs

def isStore : Op → Bool
  | .store _ _ _ => true
  | _ => false
def wKind : Op → Bool
  | .call { callee := .value _, .. } | .call { callee := .builtin .append, .. } | .assign _ | .store _ _ _ => true
  | _ => false

/-! ### operations in any order -/

def isLoad : Op → Bool
  | .load _ _ => true
  | _ => false
def depsOf (o : Oper) : List Nat := (o.after.toList.filter (Region.binds .any)).map (·.on)
def clos : List (List Nat) → List Nat → List Nat
  | [], acc => acc
  | ds :: l, acc => clos l (acc ++ [ds.foldl (fun b e => b ||| (1 <<< e) ||| acc.getD e 0) 0])
def waits (cl : List Nat) (j i : Nat) : Bool := (cl.getD j 0).testBit i
def tmpsOf : List Operand → List Nat
  | [] => []
  | .tmp t :: l => t :: tmpsOf l
  | _ :: l => tmpsOf l
def slots (all : List Oper) (o : Oper) : List Nat :=
  match o.guard with
  | none => tmpsOf (opnds o.op)
  | some (j, _) => match (all[j]?).bind (·.dst) with
    | some d => d :: tmpsOf (opnds o.op)
    | none => tmpsOf (opnds o.op)
/-- neither reads or writes what the other writes -/
def apart (all : List Oper) (o p : Oper) : Bool :=
  match o.dst with
  | none => false
  | some d => !(slots all p).contains d && (match p.dst with
    | none => true
    | some e => !Nat.beq e d && !(slots all o).contains e)
def stepOK (all : List Oper) (ds : List (List Nat)) (cl : List Nat) (pk : Nat → Bool) (L : List Nat) (i md : Nat) : Bool :=
  match all[i]? with
  | none => false
  | some o => (Nat.beq md 0 != pk i) && !L.contains i && (ds.getD i []).all (L.contains ·) && (Nat.beq md 0 || o.dst.isSome) &&
    (List.range all.length).all fun j => Nat.beq j i || L.contains j || (match md with
      | 0 => !(ds.getD j []).all (L.contains ·)
      | md + 1 => waits cl j i || (match all[j]? with
        | none => false
        | some p => apart all o p && (pk j || (!Nat.beq md 0 && wKind p.op))))
def planGo (all : List Oper) (ds : List (List Nat)) (cl : List Nat) (pk : Nat → Bool) : List Nat → List (Nat × Nat) → Bool
  | L, [] => (List.range all.length).all (L.contains ·)
  | L, (i, md) :: rest => Nat.ble md 2 && stepOK all ds cl pk L i md && planGo all ds cl pk (i :: L) rest
def planPk (plan : List (Nat × Nat)) (i : Nat) : Bool := plan.any fun p => Nat.beq p.1 i && !Nat.beq p.2 0
def upTo : List (List Nat) → Nat → Bool
  | [], _ => true
  | ds :: l, i => ds.all (Nat.blt · i) && upTo l (i + 1)
def planOK (all : List Oper) (plan : List (Nat × Nat)) : Bool :=
  upTo (all.map depsOf) 0 && Nat.beq plan.length all.length && planGo all (all.map depsOf) (clos (all.map depsOf) []) (planPk plan) [] plan

def inSlots (r : Regs) : List Nat → Bool
  | [] => true
  | t :: l => (match r[t]? with | some x => inA x | none => false) && inSlots r l
def inDst (r : Regs) : Option Nat → Bool
  | some d => match r[d]? with | some x => inA x | none => false
  | none => false
def tgtOK (prot : List Nat) (r : Regs) (o : Oper) : Bool :=
  match o.op with
  | .store _ a _ => match vval r a with
    | .lf (.ptr k _) => Nat.blt k 3000 && !prot.contains k
    | _ => prot.isEmpty
  | _ => true
def objOK (fl : Bool) (prot : List Nat) (r : Regs) (m : Mem) (o : Oper) : Bool :=
  match o.op with
  | .load _ x => match vval r x with
    | .lf (.ptr k _) => fl && prot.contains k && Nat.blt k 3000 && (match mget m k with | some c => inL c | none => false)
    | _ => true
  | _ => true
def sndOf (fl : Bool) (Snd : SND) : SND := match fl with
  | true => fun f xs sm Q => sm = [] ∧ Snd f xs sm Q
  | false => Snd

def vplan (P : Program) (Snd : SND) (all : List Oper) (fl : Bool) (prot : List Nat) : List (Nat × Nat) → Regs → Mem → (Regs → Mem → Prop) → (AV → Mem → Prop) → Prop
  | [], r, m, K, _ => K r m
  | (i, md) :: rest, r, m, K, E => match all[i]? with
    | none => False
    | some o => match md with
      | 0 => vchk ((wKind o.op || calm P all o r m) && tgtOK prot r o) (vopG P Snd all o r m (fun r m => vplan P Snd all fl prot rest r m K E) E)
      | 1 => vchk (calm P all o r m) (vopG P Snd all o r m (fun r m => vplan P Snd all fl prot rest r m K E) E)
      | _ => vchk (calm P all o r m && inSlots r (slots all o) && objOK fl prot r m o) (vopG P Snd all o r m (fun r m => vchk (inDst r o.dst) (vplan P Snd all fl prot rest r m K E)) E)

/-- a plan with forks: at a fork, operation i comes next, or another that is ready (mode 3: a calm operation among those) -/
inductive PT where
  | nil
  | st (i md : Nat) (p : PT)
  | alt (i md : Nat) (p q : PT)
def PT.pk : PT → Nat → Bool
  | .nil, _ => false
  | .st i md p, j => (Nat.beq i j && !Nat.beq md 0) || p.pk j
  | .alt i md p q, j => (Nat.beq i j && !Nat.beq md 0) || p.pk j || q.pk j
def PT.depth : PT → Nat
  | .nil => 0
  | .st _ _ p => p.depth + 1
  | .alt _ _ p q => max (p.depth + 1) q.depth
def stepOKT (all : List Oper) (ds : List (List Nat)) (cl : List Nat) (pk : Nat → Bool) (L X : List Nat) (i md : Nat) : Bool :=
  match all[i]? with
  | none => false
  | some o => (Nat.beq md 0 != pk i) && !L.contains i && (ds.getD i []).all (L.contains ·) && (Nat.beq md 0 || o.dst.isSome) &&
    (List.range all.length).all fun j => Nat.beq j i || L.contains j || (match md with
      | 0 => X.contains j || !(ds.getD j []).all (L.contains ·)
      | 1 => waits cl j i || (match all[j]? with
        | none => false
        | some p => apart all o p && pk j)
      | 2 => waits cl j i || (match all[j]? with
        | none => false
        | some p => apart all o p && (pk j || wKind p.op))
      | _ => X.contains j || !(ds.getD j []).all (L.contains ·))
def planGoT (all : List Oper) (ds : List (List Nat)) (cl : List Nat) (pk : Nat → Bool) : List Nat → List Nat → PT → Bool
  | L, _, .nil => (List.range all.length).all (L.contains ·)
  | L, X, .st i md p => Nat.ble md 3 && stepOKT all ds cl pk L X i md && planGoT all ds cl pk (i :: L) [] p
  | L, X, .alt i md p q => (all[i]?).isSome && (Nat.beq md 0 != pk i) && !L.contains i && (ds.getD i []).all (L.contains ·) && planGoT all ds cl pk (i :: L) [] p && planGoT all ds cl pk L (i :: X) q
def planOKT (all : List Oper) (p : PT) : Bool :=
  upTo (all.map depsOf) 0 && Nat.ble p.depth all.length && planGoT all (all.map depsOf) (clos (all.map depsOf) []) p.pk [] [] p
def vturn (P : Program) (all : List Oper) (prot : List Nat) (md : Nat) (o : Oper) (r : Regs) (m : Mem) : Bool :=
  match md with
  | 0 => (wKind o.op || calm P all o r m) && tgtOK prot r o
  | _ => calm P all o r m
def vplanT (P : Program) (Snd : SND) (all : List Oper) (fl : Bool) (prot : List Nat) : PT → Regs → Mem → (Regs → Mem → Prop) → (AV → Mem → Prop) → Prop
  | .nil, r, m, K, _ => K r m
  | .st i md p, r, m, K, E => match all[i]? with
    | none => False
    | some o => match md with
      | 0 => vchk ((wKind o.op || calm P all o r m) && tgtOK prot r o) (vopG P Snd all o r m (fun r m => vplanT P Snd all fl prot p r m K E) E)
      | 1 => vchk (calm P all o r m) (vopG P Snd all o r m (fun r m => vplanT P Snd all fl prot p r m K E) E)
      | 2 => vchk (calm P all o r m && inSlots r (slots all o) && objOK fl prot r m o) (vopG P Snd all o r m (fun r m => vchk (inDst r o.dst) (vplanT P Snd all fl prot p r m K E)) E)
      | _ => vchk (calm P all o r m) (vopG P Snd all o r m (fun r m => vplanT P Snd all fl prot p r m K E) E)
  | .alt i md p q, r, m, K, E => match all[i]? with
    | none => False
    | some o => vchk (vturn P all prot md o r m) (vopG P Snd all o r m (fun r m => vplanT P Snd all fl prot p r m K E) E) ∧ vplanT P Snd all fl prot q r m K E

def vdraw (P : Program) (Snd : SND) (all : List Oper) (r : Regs) (m : Mem) (K : Regs → Mem → Prop) (E : AV → Mem → Prop) : Prop :=
  (∃ (fl : Bool) (prot : List Nat) (plan : List (Nat × Nat)), planOK all plan = true ∧ vplan P (sndOf fl Snd) all fl prot plan r m K E) ∨
  ∃ (fl : Bool) (prot : List Nat) (plan : PT), planOKT all plan = true ∧ vplanT P (sndOf fl Snd) all fl prot plan r m K E

inductive VX where
  | normal | exit (id : Nat) | ret | panic (v : AV)

def keepR (ks : List Nat) : Nat → Regs → Regs
  | _, [] => []
  | i, a :: l => (bif (idxOf i ks 0).isSome then a else .lf .undef) :: keepR ks (i + 1) l

/-- the objects kept, in the order of their keys' list -/
def keepM : List Nat → Mem → Mem
  | [], _ => []
  | k :: l, m => bif (idxOf k l 0).isSome then keepM l m else match mget m k with
    | some c => (k, c) :: keepM l m
    | none => keepM l m

def vloop (body : Regs → Mem → (VX → Regs → Mem → Prop) → Prop) (r : Regs) (m : Mem) (K : VX → Regs → Mem → Prop) : Prop :=
  ∃ (ks kms : List Nat) (I : Nat → Regs → Mem → Prop), (∃ n, I n (keepR ks 0 r) (keepM kms m)) ∧ ∀ n r m, I n r m → body r m fun x r m => match x with
    | .normal => ∃ n', n' < n ∧ I n' (keepR ks 0 r) (keepM kms m)
    | x => K x r m

def vexec (P : Program) (Snd : SND) : Code → Regs → Mem → (VX → Regs → Mem → Prop) → Prop
  | .skip, r, m, K => K .normal r m
  | .label _, r, m, K => K .normal r m
  | .region _ ops false, r, m, K => vops P Snd ops.toList ops.toList r m (K .normal) fun v m => K (.panic v) r m
  | .region _ ops true, r, m, K => vdraw P Snd ops.toList r m (K .normal) fun v m => K (.panic v) r m
  | .seq a b, r, m, K => vexec P Snd a r m fun x r m => match x with
    | .normal => vexec P Snd b r m K
    | x => K x r m
  | .cond c a b, r, m, K => match vval r c with
    | .lf (.val .bool t) => vif t (vexec P Snd a r m K) (vexec P Snd b r m K)
    | _ => False
  | .block id b, r, m, K => vexec P Snd b r m fun x r m => match x with
    | .exit i => bif Nat.beq i id then K .normal r m else K (.exit i) r m
    | x => K x r m
  | .scope b, r, m, K => vexec P Snd b r m K
  | .exit id, r, m, K => K (.exit id) r m
  | .ret, r, m, K => K .ret r m
  | .loop b, r, m, K => vloop (vexec P Snd b) r m K
  | _, _, _, _ => False

/-! ### the end of a function -/

/-- what leaves a function -/
def A0.exitN : A0 → A0
  | .ptr k off => bif Nat.ble 1000 k then .ptr k off else .undef
  | .al w e l => match w with
    | .rt _ => .al w e l
    | .ce k _ => bif Nat.ble 1000 k then .al w e l else .undef
    | _ => .undef
  | .vp .. => .undef
  | a => a

def exitM (m : Mem) : Mem := (m.filter fun p => Nat.ble 1000 p.1).map fun p => (p.1, p.2.map A0.exitN)

/-- the results' rows are frozen, or, those of 'own', named -/
def vresults (P : Program) (own : List Nat) : List ResultVar → Nat → Regs → Mem → (Regs → Mem → Prop) → Prop
  | [], _, r, m, K => K r m
  | .tmp t :: l, j, r, m, K => match r.getD t (.lf .undef) with
    | .lf (.al w _ _) => match (idxOf j own 0).isSome with
      | true => vname r m w (.rt j) fun r m => vresults P own l (j + 1) r m K
      | false => mapS (A0.frz w) r m fun r m => vresults P own l (j + 1) r m K
    | _ => vresults P own l (j + 1) r m K
  | .cell a t :: l, j, r, m, K => match r.getD a (.lf .undef) with
    | .lf (.ptr k off) => optK (mget m k) fun c => match isAggB P t with
      | true => vfreezeC r m (c.drop off) fun r m => vresults P own l (j + 1) r m K
      | false => optK c[off]? fun a => match a with
        | .al w _ _ => match (idxOf j own 0).isSome with
          | true => vname r m w (.rt j) fun r m => vresults P own l (j + 1) r m K
          | false => mapS (A0.frz w) r m fun r m => vresults P own l (j + 1) r m K
        | _ => vresults P own l (j + 1) r m K
    | _ => False

/-- the results, one after the other -/
def collect (P : Program) (r : Regs) (m : Mem) : List ResultVar → Option (List A0)
  | [] => some []
  | .tmp t :: l => match r.getD t (.lf .undef), collect P r m l with
    | .lf a, some xs => some (a :: xs)
    | _, _ => none
  | .cell a t :: l => match r.getD a (.lf .undef), P.underlying t, collect P r m l with
    | .lf (.ptr k off), some _, some xs => match mget m k, isAggB P t with
      | some c, false => match c[off]? with | some a => some (a :: xs) | none => none
      | some c, true => match tyOf P 9 t with
        | some T => match szIs P t T.sz && T.agg, packT T (c.drop off) with
          | true, some (x, _) => some (.val T x :: xs)
          | _, _ => none
        | none => none
      | none, _ => none
    | _, _, _ => none

def ofResults : List A0 → AV
  | [a] => .lf a
  | l => .tup l

/-- an object of one's own leaves under key 2000 -/
def A0.reKey (k : Nat) : A0 → A0
  | .ptr j off => bif Nat.beq j 2000 then .undef else bif Nat.beq j k then .ptr 2000 off else .ptr j off
  | .al w e l => match w with
    | .ce j o => bif Nat.beq j 2000 then .undef else bif Nat.beq j k then .al (.ce 2000 o) e l else .al w e l
    | _ => .al w e l
  | .vp w e l i t off g s => match w with
    | .ce j o => bif Nat.beq j 2000 || Nat.beq j k then .undef else .vp w e l i t off g s
    | _ => .vp w e l i t off g s
  | a => a
def reMem (k : Nat) : Mem → Mem
  | [] => []
  | (j, c) :: l => bif Nat.beq j 2000 then reMem k l else bif Nat.beq j k then (2000, c.map (A0.reKey k)) :: reMem k l else (j, c.map (A0.reKey k)) :: reMem k l
def escOf : List Nat → Option Nat
  | [] => none
  | x :: l => bif Nat.ble 1000 x then some (x - 1000) else escOf l
def vesc (own : List Nat) (r : Regs) (m : Mem) (K : Regs → Mem → Prop) : Prop :=
  match escOf own with
  | none => K r m
  | some k => vchk (Nat.blt k 1000) (fr (r.map (AV.map (A0.reKey k))) fun r => fm (reMem k m) fun m => K r m)

def vend (P : Program) (fn : Func) (own : List Nat) (Q : Out → Prop) (x : VX) (r : Regs) (m : Mem) : Prop :=
  match x with
  | .normal | .ret => vesc own r m fun r m => vresults P own fn.results.toList 0 r m fun r m => optK (collect P r m fn.results.toList) fun xs => fl0 (xs.map A0.exitN) fun xs => fm (exitM m) fun m => Q (.ret (ofResults xs) m)
  | .panic v => fv (v.map A0.exitN) fun v => fm (exitM m) fun m => Q (.panic v m)
  | .exit _ => False

def undefs : Nat → Regs
  | 0 => []
  | n + 1 => .lf .undef :: undefs n

end Go.V
