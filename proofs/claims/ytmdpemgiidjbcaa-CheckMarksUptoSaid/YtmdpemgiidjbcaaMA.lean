import Derived.Below
import Derived.Calls
import Derived.Recover
import Derived.Orders
import Derived.Laws.Cells
import Derived.Laws.CopyRow
import Derived.Laws.BytesArg
set_option linter.unusedSimpArgs false
set_option linter.unusedVariables false
/-! A small abstract machine: values as trees, local boxes, a heap of own objects. -/
namespace Go.Am

/-! ### 1. Values -/
inductive AV where
  | int (k : IntKind) (n : Int)
  | bool (b : Bool)
  | str (s : ByteArray)
  | nilptr
  | hptr (id pos : Nat)
  | lptr (slot off : Nat)
  | fptr (elem : AV) (off : Nat)
  | sl (sz : Nat) (elems : List AV)
  | xsl (sz : Nat) (elems : List AV)
  | hsl (id sz lo len : Nat)
  | agg (cells : List AV)
  | tup (vs : List AV)
  | iface (t : TypeId) (v : AV)
  | nilif
  | fn (f : FuncId) (caps : List AV)
  | nilfn
  | nsl
  | map (id : Nat)
  | undef
  deriving Inhabited

def AV.cells : AV → List AV
  | .agg cs => cs
  | v => [v]
/-- One cell's content without the right to grow. -/
def AV.dg1 : AV → AV
  | .xsl sz l => .sl sz l
  | v => v
def AV.dgc : AV → AV
  | .agg cs => .agg (cs.map AV.dg1)
  | v => v.dg1
def AV.dg : AV → AV
  | .tup vs => .tup (vs.map AV.dgc)
  | v => v.dgc

/-! ### 2. Stores -/
def look {α : Type} : List (Nat × α) → Nat → Option α
  | [], _ => none
  | (k, v) :: l, j => match Nat.beq k j with
    | true => some v
    | false => look l j
def put {α : Type} : List (Nat × α) → Nat → α → List (Nat × α)
  | [], j, v => [(j, v)]
  | (k, u) :: l, j, v => match Nat.beq k j with
    | true => (k, v) :: l
    | false => (k, u) :: put l j v
theorem look_put {α : Type} (l : List (Nat × α)) (j i : Nat) (v : α) : look (put l j v) i = if i = j then some v else look l i := by
  induction l with
  | nil =>
    simp only [put, look]
    by_cases h : i = j
    · subst h; simp
    · have : Nat.beq j i = false := by
        cases hb : Nat.beq j i
        · rfl
        · exact absurd (Nat.eq_of_beq_eq_true hb).symm h
      simp [this, h]
  | cons p l ih =>
    obtain ⟨k, u⟩ := p
    simp only [put]
    cases hb : Nat.beq k j with
    | true =>
      have hk := Nat.eq_of_beq_eq_true hb
      subst hk
      simp only [look]
      by_cases h : i = k
      · subst h; simp [Nat.beq_refl]
      · have : Nat.beq k i = false := by
          cases hb : Nat.beq k i
          · rfl
          · exact absurd (Nat.eq_of_beq_eq_true hb).symm h
        simp [this, h]
    | false =>
      simp only [look]
      cases hb' : Nat.beq k i with
      | true =>
        have hk := Nat.eq_of_beq_eq_true hb'
        subst hk
        have : ¬ k = j := fun e => by subst e; simp [Nat.beq_refl] at hb
        simp [this]
      | false => simpa using ih

inductive HObj where
  | obj (cells : List AV)
  | dead
  | map (entries : List (AV × AV))
  deriving Inhabited

structure AS where
  dep : List (Nat × List Nat)
  tm : List (Nat × AV)
  bx : List (Nat × List AV)
  hp : List HObj
  df : List (AV × List AV)
  deriving Inhabited

/-! ### 3. Operations -/
inductive X where
  | t (n : Nat)
  | c (v : AV)
  deriving Inhabited
/-- What '==' is asked of. -/
inductive BT where
  | num | str | bool | ifnil | ptr | slnil | fn | agg
  deriving Inhabited
inductive AOp where
  | mv (x : X) (steal : Bool)
  | pick (c a b : X)
  | alloc (zero : List AV) (heap : Bool)
  | box (x : X) (heap : Bool)
  | build (zero : List AV) (parts : List (Nat × Nat × X))
  | bslice (sz : Nat) (n : Nat) (zero : AV) (parts : List (Nat × X)) (heap : Bool)
  | load (a : X) (n : Nat) (ag : Bool) (steal : Bool)
  | store (a x : X) (n : Nat)
  | nilchk (x : X)
  | bin (ty : BT) (op : BinOp) (x y : X)
  | eqst (neg : Bool) (fs : List (Nat × BT)) (x y : X)
  | un (op : UnOp) (x : X)
  | conv (k : IntKind) (x : X)
  | b2s (x : X)
  | mkif (t : TypeId) (x : X)
  | mkfn (f : FuncId) (caps : List X)
  | mkmap
  | mkarr (sz : Nat) (bytes : Nat) (zero : AV) (n : X) (heap : Bool)
  | slcS (x : X) (lo hi : Option X)
  | slc (x : X) (lo hi : Option X) (sz : Nat)
  | faddr (x : X) (off : Nat)
  | fld (x : X) (off n : Nat) (ag : Bool)
  | iaddr (x ix : X) (sz : Nat)
  | iaddrA (x ix : X) (len sz : Nat)
  | idxS (x ix : X)
  | idxA (x ix : X) (len sz : Nat) (ag : Bool)
  | lookup (m k : X) (zero : AV) (ok str : Bool)
  | mapup (m k v : X) (str : Bool)
  | tassert (x : X) (t : TypeId) (zero : AV) (ok : Bool)
  | extr (x : X) (i : Nat)
  | app (s x : X) (sz bytes : Nat)
  | len (str : Bool) (x : X)
  | mx (xs : List X)
  | mn (xs : List X)
  | call (f : FuncId) (args : List X)
  | callv (f : X) (args : List X)
  | recov
  | panic (x : X)
  | defer (f : X) (args : List X)
  | bad
  deriving Inhabited
structure AOper where
  d : Option Nat
  g : Option (Nat × Bool)
  op : AOp
  deriving Inhabited
inductive AC where
  | skip
  | ops (l : List AOper)
  | draw (l : List (AOper × List Nat))
  | seq (a b : AC)
  | cond (c : X) (a b : AC)
  | blk (id : Nat) (a : AC)
  | loop (a : AC)
  | exit (id : Nat)
  | ret
  | keep (ks bs : List Nat) (a : AC)
  | bad
  deriving Inhabited
inductive ARes where
  | tmp (t : Nat)
  | cell (a : Nat) (n : Nat) (ag : Bool)
  deriving Inhabited
/-- 'dep': of each of the frame's own variables the temporaries that may hold an address in it. -/
structure AFun where
  np : Nat
  dep : List (Nat × List Nat)
  body : AC
  res : List ARes
  deriving Inhabited

/-! ### 4. What operations do -/
/-- What may stand in a cell, or as a whole value of cells. -/
def AV.isV : AV → Bool
  | .lptr _ _ => false
  | .tup _ => false
  | .undef => false
  | _ => true
def AV.chk (v : AV) : Option AV := match v.isV with
  | true => some v
  | false => none
/-- What an operation reads: temporaries, the frame's variables, the heap. -/
structure View where
  dep : List (Nat × List Nat)
  tm : Nat → Option AV
  bx : Nat → Option (List AV)
  hp : List HObj
def View.ev (s : View) : X → Option AV
  | .t n => s.tm n
  | .c v => some v
/-- A copy. -/
def View.cp (s : View) (x : X) : Option AV := (s.ev x).map AV.dg
def View.val (s : View) (x : X) : Option AV := match s.ev x with
  | some v => v.dg.chk
  | none => none
def valAll (s : View) : List X → Option (List AV)
  | [] => some []
  | x :: xs => match s.val x, valAll s xs with
    | some v, some vs => some (v :: vs)
    | _, _ => none
/-- What it leaves. -/
structure Eff where
  v : AV
  tw : List (Nat × AV) := []
  bw : Option (Nat × List AV) := none
  hw : Option (List HObj) := none
  dw : Option (AV × List AV) := none
  deriving Inhabited
/-- What is handed on from a temporary stays there as a copy. -/
def left (x : X) (v : AV) : List (Nat × AV) := match x with
  | .t n => [(n, v.dg)]
  | .c _ => []
/-- Cells written over others, from a place on. -/
def splice (cs : List AV) (off : Nat) (new : List AV) : List AV := cs.take off ++ new ++ cs.drop (off + new.length)
def fillA (s : View) : List AV → List (Nat × Nat × X) → Option (List AV)
  | cs, [] => some cs
  | cs, (off, n, x) :: r => match s.val x with
    | some v => match Nat.beq v.cells.length n, Nat.ble (off + n) cs.length with
      | true, true => fillA s (splice cs off v.cells) r
      | _, _ => none
    | none => none
def fillE (s : View) (sz : Nat) : List AV → List (Nat × X) → Option (List AV)
  | es, [] => some es
  | es, (i, x) :: r => match s.val x with
    | some v => match Nat.beq v.cells.length sz, Nat.blt i es.length with
      | true, true => fillE s sz (es.set i v) r
      | _, _ => none
    | none => none
/-- The nil slice as a slice of no elements. -/
def AV.asX (sz : Nat) : AV → AV
  | .nsl => .xsl sz []
  | v => v
def AV.asS (sz : Nat) : AV → AV
  | .nsl => .sl sz []
  | v => v
/-- A value out of cells. -/
def mkv (ag : Bool) (cs : List AV) : Option AV :=
  match ag with
  | true => some (.agg cs)
  | false => match cs with
    | [v] => some v
    | _ => none
def window (cs : List AV) (off n : Nat) : Option (List AV) :=
  match Nat.ble (off + n) cs.length with
  | true => some ((cs.drop off).take n)
  | false => none
def eqA (ty : BT) (x y : AV) : Option Bool :=
  match ty, x, y with
  | .bool, .bool a, .bool b => some (a == b)
  | .ifnil, .nilif, .nilif => some true
  | .ifnil, .iface _ _, .nilif => some false
  | .ptr, .nilptr, .nilptr => some true
  | .ptr, .hptr _ _, .nilptr => some false
  | .ptr, .lptr _ _, .nilptr => some false
  | .ptr, .fptr _ _, .nilptr => some false
  | .fn, .nilfn, .nilfn => some true
  | .fn, .fn _ _, .nilfn => some false
  | .slnil, .nsl, .nsl => some true
  | .slnil, .sl _ (_ :: _), .nsl => some false
  | .slnil, .hsl _ _ _ (_ + 1), .nsl => some false
  | _, _, _ => none
/-- Two structs of texts, numbers and bools. -/
def eqCell : BT → AV → AV → Option Bool
  | .num, .int k a, .int k' b => if k = k' then some (a == b) else none
  | .str, .str a, .str b => some (a == b)
  | .bool, .bool a, .bool b => some (a == b)
  | _, _, _ => none
def eqCells (cs ds : List AV) : List (Nat × BT) → Option Bool
  | [] => some true
  | (off, t) :: r => match cs[off]?, ds[off]? with
    | some a, some b => match eqCell t a b with
      | some true => eqCells cs ds r
      | some false => some false
      | none => none
    | _, _ => none
def abin (ty : BT) (op : BinOp) : AV → AV → Option AV
  | .int k a, .int k' b =>
    match op with
    | .shl => if b < 0 then none else some (.int k (k.wrap (a * 2 ^ (min b.toNat k.bits))))
    | .shr => if b < 0 then none else some (.int k (a.fdiv (2 ^ (min b.toNat k.bits))))
    | _ => if k = k' then (match op with
      | .add => some (.int k (k.wrap (a + b)))
      | .sub => some (.int k (k.wrap (a - b)))
      | .mul => some (.int k (k.wrap (a * b)))
      | .quo => if b = 0 then none else some (.int k (k.wrap (a.tdiv b)))
      | .rem => if b = 0 then none else some (.int k (a.tmod b))
      | .and => some (.int k (k.wrap (BitVec.ofInt k.bits a &&& BitVec.ofInt k.bits b).toNat))
      | .or => some (.int k (k.wrap (BitVec.ofInt k.bits a ||| BitVec.ofInt k.bits b).toNat))
      | .xor => some (.int k (k.wrap (BitVec.ofInt k.bits a ^^^ BitVec.ofInt k.bits b).toNat))
      | .andNot => some (.int k (k.wrap (BitVec.ofInt k.bits a &&& ~~~(BitVec.ofInt k.bits b)).toNat))
      | .eql => some (.bool (a == b))
      | .neq => some (.bool (a != b))
      | .lss => some (.bool (decide (a < b)))
      | .leq => some (.bool (decide (a ≤ b)))
      | .gtr => some (.bool (decide (a > b)))
      | .geq => some (.bool (decide (a ≥ b)))
      | _ => none) else none
  | .str a, .str b =>
    match op with
    | .add => if a.size + b.size ≤ 9223372036854775807 then some (.str (a ++ b)) else none
    | .eql => some (.bool (a.toList == b.toList))
    | .neq => some (.bool (!(a.toList == b.toList)))
    | .lss => some (.bool (Op.bytesLess a.toList b.toList))
    | .leq => some (.bool (Op.bytesLess a.toList b.toList || a.toList == b.toList))
    | .gtr => some (.bool (!(Op.bytesLess a.toList b.toList || a.toList == b.toList)))
    | .geq => some (.bool (!Op.bytesLess a.toList b.toList))
    | _ => none
  | x, y => match op, eqA ty x y with
    | .eql, some b => some (.bool b)
    | .neq, some b => some (.bool (!b))
    | _, _ => none
def aun (op : UnOp) : AV → Option AV
  | .int k n => match op with
    | .neg => some (.int k (k.wrap (0 - n)))
    | _ => none
  | .bool b => match op with
    | .not => some (.bool (!b))
    | _ => none
  | _ => none
def amax : AV → AV → Option AV
  | .int k x, .int _ y => some (.int k (if y > x then y else x))
  | _, _ => none
def amin : AV → AV → Option AV
  | .int k x, .int _ y => some (.int k (if y < x then y else x))
  | _, _ => none
def foldA (f : AV → AV → Option AV) : AV → List AV → Option AV
  | v, [] => some v
  | v, x :: xs => match f v x with
    | some u => foldA f u xs
    | none => none
def bytesA : List AV → Option (List UInt8)
  | [] => some []
  | .int .u8 n :: r => (bytesA r).map (UInt8.ofNat n.toNat :: ·)
  | _ => none
def View.bnd (s : View) (x : Option X) (z : Int) : Option Int := match x with
  | none => some z
  | some x => match s.ev x with
    | some (.int _ n) => some n
    | _ => none
def View.bnds (s : View) (lo hi : Option X) (n : Nat) : Option (Nat × Nat) :=
  match s.bnd lo 0, s.bnd hi n with
  | some l, some h => match decide (0 ≤ l), decide (l ≤ h), decide (h ≤ n) with
    | true, true, true => some (l.toNat, h.toNat)
    | _, _, _ => none
  | _, _ => none
/-- May a temporary hold it? An address in one of the frame's own variables: only where it is told. -/
def okd (dep : List (Nat × List Nat)) (d : Option Nat) : AV → Bool
  | .lptr b _ => match d, look dep b with
    | some t, some l => l.elem t
    | none, _ => true
    | _, _ => false
  | _ => true
def okv (dep : List (Nat × List Nat)) (d : Option Nat) (v : AV) : Option AV := match okd dep d v with
  | true => some v
  | false => none
/-- Operations that reckon with their operands alone. -/
def pop (d : Option Nat) (o : AOp) (s : View) : Option AV :=
  match o with
  | .mv x false => match s.cp x with
    | some v => okv s.dep d v
    | none => none
  | .pick c a b => match s.ev c with
    | some (.bool true) => s.val a
    | some (.bool false) => s.val b
    | _ => none
  | .build z ps => match fillA s z ps with
    | some cs => some (.agg cs)
    | none => none
  | .bslice sz n z ps false => match fillE s sz (List.replicate n z) ps with
    | some es => some (.xsl sz es)
    | none => none
  | .nilchk x => match s.cp x with
    | some v => match v with
      | .hptr _ _ | .lptr _ _ | .fptr _ _ | .fn _ _ | .iface _ _ => okv s.dep d v
      | _ => none
    | none => none
  | .bin ty op x y => match s.cp x, s.ev y with
    | some a, some b => abin ty op a b
    | _, _ => none
  | .eqst neg fs x y => match s.cp x, s.cp y with
    | some (.agg cs), some (.agg ds) => match eqCells cs ds fs with
      | some b => some (.bool (match neg with | true => !b | false => b))
      | none => none
    | _, _ => none
  | .un op x => match s.ev x with
    | some a => aun op a
    | none => none
  | .conv k x => match s.ev x with
    | some (.int _ n) => some (.int k (k.wrap n))
    | _ => none
  | .b2s x => match s.cp x with
    | some (.sl _ l) => match bytesA l with
      | some bs => some (.str ⟨bs.toArray⟩)
      | none => none
    | some .nsl => some (.str ⟨#[]⟩)
    | _ => none
  | .mkif t x => match s.val x with
    | some v => some (.iface t v)
    | none => none
  | .mkfn f caps => match valAll s caps with
    | some vs => some (.fn f vs)
    | none => none
  | .mkarr sz bytes z n false => match s.ev n with
    | some (.int .i64 n) => match decide (0 ≤ n), decide (bytes * n ≤ 281474976710656) with
      | true, true => some (.xsl sz (List.replicate n.toNat z))
      | _, _ => none
    | _ => none
  | .slcS x lo hi => match s.cp x with
    | some (.str b) => match s.bnds lo hi b.size with
      | some (l, h) => some (.str (b.extract l h))
      | none => none
    | _ => none
  | .slc x lo hi sz => match s.cp x with
    | some (.sl z es) => match s.bnds lo hi es.length, Nat.beq z sz || es.isEmpty with
      | some (l, h), true => some (.sl sz ((es.take h).drop l))
      | _, _ => none
    | some .nsl => match s.bnds lo hi 0 with
      | some _ => some .nsl
      | none => none
    | some (.hsl id z o len) => match s.bnds lo hi len, Nat.beq z sz with
      | some (l, h), true => match h - l with
        | 0 => some (.sl sz [])
        | m + 1 => some (.hsl id sz (o + l) (m + 1))
      | _, _ => none
    | _ => none
  | .faddr x off => match s.ev x with
    | some (.hptr id p) => some (.hptr id (p + off))
    | some (.lptr b p) => okv s.dep d (.lptr b (p + off))
    | some (.fptr e p) => some (.fptr e (p + off))
    | _ => none
  | .fld x off n ag => match s.cp x with
    | some (.agg cs) => match window cs off n with
      | some w => mkv ag w
      | none => none
    | _ => none
  | .iaddr x ix sz => match s.cp x, s.ev ix with
    | some (.sl sz' es), some (.int _ i) => match decide (0 ≤ i), es[i.toNat]?, Nat.beq sz sz' with
      | true, some e, true => some (.fptr e 0)
      | _, _, _ => none
    | some (.hsl id sz' o len), some (.int _ i) => match decide (0 ≤ i), decide (i < len), Nat.beq sz sz' with
      | true, true, true => some (.hptr id ((o + i.toNat) * sz))
      | _, _, _ => none
    | _, _ => none
  | .iaddrA x ix len sz => match s.ev x, s.ev ix with
    | some (.hptr id p), some (.int _ i) => match decide (0 ≤ i), decide (i < len) with
      | true, true => some (.hptr id (p + i.toNat * sz))
      | _, _ => none
    | some (.lptr b p), some (.int _ i) => match decide (0 ≤ i), decide (i < len) with
      | true, true => okv s.dep d (.lptr b (p + i.toNat * sz))
      | _, _ => none
    | some (.fptr e p), some (.int _ i) => match decide (0 ≤ i), decide (i < len) with
      | true, true => some (.fptr e (p + i.toNat * sz))
      | _, _ => none
    | _, _ => none
  | .idxS x ix => match s.ev x, s.ev ix with
    | some (.str b), some (.int _ i) => match decide (0 ≤ i), b[i.toNat]? with
      | true, some c => some (.int .u8 c.toNat)
      | _, _ => none
    | _, _ => none
  | .idxA x ix len sz ag => match s.cp x, s.ev ix with
    | some (.agg cs), some (.int _ i) => match decide (0 ≤ i), decide (i < len), window cs (i.toNat * sz) sz with
      | true, true, some w => mkv ag w
      | _, _, _ => none
    | _, _ => none
  | .tassert x t z ok => match s.cp x with
    | some (.iface t' v) => match Nat.beq t t', ok with
      | true, true => some (.tup [v, .bool true])
      | true, false => some v
      | false, true => some (.tup [z, .bool false])
      | false, false => none
    | some .nilif => match ok with
      | true => some (.tup [z, .bool false])
      | false => none
    | _ => none
  | .extr x i => match s.cp x with
    | some (.tup vs) => vs[i]?
    | _ => none
  | .len st x => match st, s.cp x with
    | true, some (.str b) => some (.int .i64 b.size)
    | false, some (.sl _ l) => some (.int .i64 l.length)
    | false, some .nsl => some (.int .i64 0)
    | false, some (.hsl _ _ _ n) => some (.int .i64 n)
    | _, _ => none
  | .mx xs => match valAll s xs with
    | some (v :: vs) => foldA amax v vs
    | _ => none
  | .mn xs => match valAll s xs with
    | some (v :: vs) => foldA amin v vs
    | _ => none
  | _ => none
/-- The cells that an address leads to. -/
def View.at (s : View) (a : AV) (n : Nat) : Option (List AV) :=
  match a with
  | .lptr b off => match s.bx b with
    | some cs => window cs off n
    | none => none
  | .hptr id pos => match s.hp[id]? with
    | some (.obj cs) => window cs pos n
    | _ => none
  | .fptr e off => window e.cells off n
  | _ => none
def View.write (s : View) (a : AV) (new : List AV) (e : Eff) : Option Eff :=
  match a with
  | .lptr b off => match s.bx b with
    | some cs => match Nat.ble (off + new.length) cs.length with
      | true => some { e with bw := some (b, splice cs off new) }
      | false => none
    | none => none
  | .hptr id pos => match s.hp[id]? with
    | some (.obj cs) => match Nat.ble (pos + new.length) cs.length with
      | true => some { e with hw := some (s.hp.set id (.obj (splice cs pos new))) }
      | false => none
    | _ => none
  | _ => none
def sameKey : AV → AV → Option Bool
  | .str a, .str b => some (a == b)
  | .int k a, .int k' b => if k = k' then some (a == b) else none
  | _, _ => none
/-- A key: a text, or a number. -/
def keyA : Bool → AV → Bool
  | true, .str _ => true
  | false, .int _ _ => true
  | _, _ => false
def findA (k : AV) : List (AV × AV) → Nat → Option (Option (Nat × AV))
  | [], _ => some none
  | (k', v) :: r, i => match sameKey k k' with
    | some true => some (some (i, v))
    | some false => findA k r (i + 1)
    | none => none
/-- A new variable: of the frame's own, or on the heap. -/
def View.newVar (s : View) (d : Option Nat) (heap : Bool) (cs : List AV) (tw : List (Nat × AV)) : Option Eff :=
  match heap, d with
  | true, _ => some { v := .hptr s.hp.length 0, tw := tw, hw := some (s.hp ++ [.obj cs]) }
  | false, some d => match look s.dep d with
    | some l => match l.elem d with
      | true => some { v := .lptr d 0, tw := tw ++ l.map (·, .undef), bw := some (d, cs) }
      | false => none
    | none => none
  | false, none => none
/-- What an operation that is no call does. -/
def aop (d : Option Nat) (o : AOp) (s : View) : Option Eff :=
  match o with
  | .mv x true => match s.ev x with
    | some v => match okd s.dep d v with
      | true => some { v := v, tw := left x v }
      | false => none
    | none => none
  | .alloc z h => s.newVar d h z []
  | .box x h => match s.ev x with
    | some v => match v.isV with
      | true => s.newVar d h v.cells (left x v)
      | false => none
    | none => none
  | .bslice sz n z ps true => match fillE s sz (List.replicate n z) ps with
    | some es => some { v := .hsl s.hp.length sz 0 n, hw := some (s.hp ++ [.obj (es.flatMap AV.cells)]) }
    | none => none
  | .load a n ag st => match s.ev a with
    | some p => match s.at p n with
      | some cs => match mkv ag cs, st with
        | some v, false => some { v := v.dg }
        | some v, true => s.write p (cs.map AV.dg1) { v := v }
        | none, _ => none
      | none => none
    | none => none
  | .store a x n => match s.ev a, s.ev x with
    | some p, some v => match v.isV, Nat.beq v.cells.length n with
      | true, true => s.write p v.cells { v := .tup [], tw := left x v }
      | _, _ => none
    | _, _ => none
  | .mkmap => some { v := .map s.hp.length, hw := some (s.hp ++ [.map []]) }
  | .mkarr sz bytes z n true => match s.ev n with
    | some (.int .i64 n) => match decide (0 ≤ n), decide (bytes * n ≤ 281474976710656) with
      | true, true => some { v := .hsl s.hp.length sz 0 n.toNat, hw := some (s.hp ++ [.obj ((List.replicate n.toNat z).flatMap AV.cells)]) }
      | _, _ => none
    | _ => none
  | .lookup m k z ok st => match s.ev m, s.val k with
    | some (.map id), some k => match s.hp[id]?, keyA st k with
      | some (.map es), true => match findA k es 0 with
        | some r =>
          let v := match r with
            | some (_, v) => v
            | none => z
          match ok with
          | true => some { v := .tup [v, .bool r.isSome] }
          | false => some { v := v }
        | none => none
      | _, _ => none
    | _, _ => none
  | .mapup m k v st => match s.ev m, s.val k, s.val v with
    | some (.map id), some k, some v => match s.hp[id]?, keyA st k with
      | some (.map es), true => match findA k es 0 with
        | some (some (i, _)) => some { v := .tup [], hw := some (s.hp.set id (.map (es.set i (k, v)))) }
        | some none => some { v := .tup [], hw := some (s.hp.set id (.map (es ++ [(k, v)]))) }
        | none => none
      | _, _ => none
    | _, _, _ => none
  | .app x y sz bytes => match s.ev x, (s.val y).map (AV.asS sz) with
    | some v0, some (.sl sz'' l') => match v0.asX sz with
      | .xsl sz' l => match Nat.beq sz' sz || l.isEmpty, Nat.beq sz'' sz || l'.isEmpty, decide ((l.length + l'.length) * bytes ≤ 140737488355328) with
        | true, true, true => some { v := .xsl sz (l ++ l'), tw := left x v0 }
        | _, _, _ => none
      | _ => none
    | _, _ => none
  | .defer f args => match s.val f, valAll s args with
    | some f, some vs => match f with
      | .fn _ _ => some { v := .tup [], dw := some (f, vs) }
      | _ => none
    | _, _ => none
  | o => match pop d o s with
    | some v => some { v := v }
    | none => none
def AS.view (s : AS) : View := { dep := s.dep, tm := look s.tm, bx := look s.bx, hp := s.hp }
def puts (l : List (Nat × AV)) : List (Nat × AV) → List (Nat × AV)
  | [] => l
  | (t, v) :: r => puts (put l t v) r
def putd (l : List (Nat × AV)) (d : Option Nat) (v : AV) : List (Nat × AV) := match d with
  | none => l
  | some d => put l d v
def AS.apply (s : AS) (d : Option Nat) (e : Eff) : AS :=
  { dep := s.dep, tm := putd (puts s.tm e.tw) d e.v,
    bx := match e.bw with | none => s.bx | some (b, cs) => put s.bx b cs,
    hp := match e.hw with | none => s.hp | some h => h,
    df := match e.dw with | none => s.df | some x => x :: s.df }
/-- What is still wanted of the temporaries and variables. -/
def only {α : Type} (l : List (Nat × α)) : List Nat → List (Nat × α)
  | [] => []
  | k :: ks => match look l k with
    | some v => (k, v) :: only l ks
    | none => only l ks
theorem look_only {α : Type} (l : List (Nat × α)) {t : Nat} {v : α} : ∀ {ks : List Nat}, look (only l ks) t = some v → look l t = some v
  | [], h => by cases h
  | k :: ks, h => by
    simp only [only] at h
    split at h
    · rename_i u hu
      simp only [look] at h
      split at h
      · rename_i hk
        cases h
        rw [← Nat.eq_of_beq_eq_true hk]
        exact hu
      · exact look_only l h
    · exact look_only l h
def AS.keep (s : AS) (ks bs : List Nat) : AS := { s with tm := only s.tm ks, bx := only s.bx bs }
def AS.keepO (s : AS) : Option (List Nat × List Nat) → AS
  | none => s
  | some (ks, bs) => s.keep ks bs
def guarded (s : View) : Option (Nat × Bool) → Option Bool
  | none => some true
  | some (t, want) => match s.tm t with
    | some (.bool b) => some (b == want)
    | some (.tup []) => some false
    | _ => none
def aeff (o : AOper) (s : View) : Option Eff :=
  match guarded s o.g with
  | some true => aop o.d o.op s
  | some false => some { v := .tup [] }
  | none => none
end Go.Am

open Go.RowKit
namespace Go.Am

/-! ### 5. What values say of memory -/
inductive Loc where
  | tm (t i k : Nat)
  | bx (b k : Nat)
  | hp (id k : Nat)
  | ret (i k : Nat)
  deriving DecidableEq
inductive Owner where
  | dead | claim | foreign
  | sp (l : Loc)
  | box (b : Nat)
  | obj (id : Nat)
  deriving DecidableEq
/-- Who owns which cell; where the frame's variables and the heap's objects lie; how many objects there are. -/
structure Gh where
  own : Nat → Nat → Owner
  bxb : Nat → Nat
  blk : Nat → Nat
  nh : Nat
  n0 : Nat
  w0 : World

/-- One cell. -/
def AV.one : AV → Bool
  | .agg _ => false
  | _ => true

inductive Rel (γ : Gh) (w : World) : AV → Value → Prop
  | int (k : IntKind) (n : Int) : Rel γ w (.int k n) (.int k n)
  | bool (b : Bool) : Rel γ w (.bool b) (.bool b)
  | str (s : ByteArray) : Rel γ w (.str s) (.string s)
  | nilptr : Rel γ w .nilptr (.pointer none)
  | nilif : Rel γ w .nilif .nilIface
  | nilfn : Rel γ w .nilfn .nilFunc
  | nsl : Rel γ w .nsl (.slice none 0 0)
  | hptr (id pos : Nat) (h : id < γ.nh) : Rel γ w (.hptr id pos) (.pointer (some ⟨γ.blk id, pos, none⟩))
  | map (id : Nat) (h : id < γ.nh) : Rel γ w (.map id) (.map (some (γ.blk id)))
  | hsl (id sz lo len cap : Nat) (arr : Array Value) (ty : TypeId) (h : id < γ.nh) (hb : w.heap[γ.blk id]? = some (.cells arr ty (0, 0)))
      (hc : (lo + cap) * sz ≤ arr.size) (hl : len ≤ cap) (hm : len ≤ 281474976710656) : Rel γ w (.hsl id sz lo len) (.slice (some ⟨γ.blk id, lo * sz, none⟩) len cap)
  | fptr (e : AV) (off b o : Nat) (vs : Nat → Value)
      (hc : ∀ (j : Nat) (c : AV), e.cells[j]? = some c → w.cell? ⟨b, o + j, none⟩ = some (vs j) ∧ γ.own b (o + j) = .claim)
      (hv : ∀ (j : Nat) (c : AV), e.cells[j]? = some c → Rel γ w c (vs j)) (h1 : ∀ (j : Nat) (c : AV), e.cells[j]? = some c → c.one = true) : Rel γ w (.fptr e off) (.pointer (some ⟨b, o + off, none⟩))
  | sl (sz : Nat) (l : List AV) (a : Option Addr) (cap : Nat) (vs : Nat → Nat → Value)
      (hz : ∀ (i : Nat) (e : AV), l[i]? = some e → e.cells.length = sz)
      (ha : l ≠ [] → ∃ b o, a = some ⟨b, o, none⟩ ∧ ∀ (i : Nat) (e : AV) (j : Nat) (c : AV), l[i]? = some e → e.cells[j]? = some c → w.cell? ⟨b, o + i * sz + j, none⟩ = some (vs i j) ∧ γ.own b (o + i * sz + j) = .claim)
      (hn : a = none → cap = 0)
      (hv : ∀ (i : Nat) (e : AV) (j : Nat) (c : AV), l[i]? = some e → e.cells[j]? = some c → Rel γ w c (vs i j))
      (h1 : ∀ (i : Nat) (e : AV) (j : Nat) (c : AV), l[i]? = some e → e.cells[j]? = some c → c.one = true)
      (hl : l.length ≤ cap) (hm : l.length ≤ 281474976710656) : Rel γ w (.sl sz l) (.slice a l.length cap)
  | agg (cs : List AV) (arr : Array Value) (hz : arr.size = cs.length) (hv : ∀ (j : Nat) (c : AV) (v : Value), cs[j]? = some c → arr[j]? = some v → Rel γ w c v)
      (h1 : ∀ (j : Nat) (c : AV), cs[j]? = some c → c.one = true) : Rel γ w (.agg cs) (.agg arr)
  | iface (t : TypeId) (v : AV) (c : Value) (h : Rel γ w v c) : Rel γ w (.iface t v) (.iface t c)
  | fn (f : FuncId) (cs : List AV) (arr : Array Value) (hz : arr.size = cs.length) (hv : ∀ (j : Nat) (c : AV) (v : Value), cs[j]? = some c → arr[j]? = some v → Rel γ w c v) :
      Rel γ w (.fn f cs) (.func (.func f) #[] arr)

/-- What was claimed stands, objects lie where they lay. -/
structure Mono (γ : Gh) (w : World) (γ' : Gh) (w' : World) : Prop where
  claim : ∀ b j, γ.own b j = .claim → γ'.own b j = .claim ∧ w'.cell? ⟨b, j, none⟩ = w.cell? ⟨b, j, none⟩
  shape : ∀ (b : Nat) (arr : Array Value) (ty : TypeId) (fr : Nat × Nat), w.heap[b]? = some (.cells arr ty fr) → ∃ arr', w'.heap[b]? = some (.cells arr' ty fr) ∧ arr'.size = arr.size
  blk : ∀ id, id < γ.nh → γ'.blk id = γ.blk id
  nh : γ.nh ≤ γ'.nh
theorem Mono.refl (γ : Gh) (w : World) : Mono γ w γ w := ⟨fun _ _ h => ⟨h, rfl⟩, fun _ arr _ _ h => ⟨arr, h, rfl⟩, fun _ _ => rfl, Nat.le_refl _⟩
theorem Mono.trans {γ γ' γ'' : Gh} {w w' w'' : World} (h : Mono γ w γ' w') (k : Mono γ' w' γ'' w'') : Mono γ w γ'' w'' := by
  refine ⟨fun b j hc => ?_, fun b arr ty fr hb => ?_, fun id hi => ?_, Nat.le_trans h.nh k.nh⟩
  · obtain ⟨h1, h2⟩ := h.claim b j hc
    obtain ⟨k1, k2⟩ := k.claim b j h1
    exact ⟨k1, k2.trans h2⟩
  · obtain ⟨a1, h1, h2⟩ := h.shape b arr ty fr hb
    obtain ⟨a2, k1, k2⟩ := k.shape b a1 ty fr h1
    exact ⟨a2, k1, k2.trans h2⟩
  · exact (k.blk id (Nat.lt_of_lt_of_le hi h.nh)).trans (h.blk id hi)

theorem Rel.mono {γ γ' : Gh} {w w' : World} (m : Mono γ w γ' w') {v : AV} {c : Value} (h : Rel γ w v c) : Rel γ' w' v c := by
  induction h with
  | int k n => exact .int k n
  | bool b => exact .bool b
  | str s => exact .str s
  | nilptr => exact .nilptr
  | nilif => exact .nilif
  | nilfn => exact .nilfn
  | nsl => exact .nsl
  | hptr id pos h => rw [← m.blk id h]; exact .hptr id pos (Nat.lt_of_lt_of_le h m.nh)
  | map id h => rw [← m.blk id h]; exact .map id (Nat.lt_of_lt_of_le h m.nh)
  | hsl id sz lo len cap arr ty h hb hc hl hm =>
    obtain ⟨arr', hb', hs⟩ := m.shape _ _ _ _ hb
    rw [← m.blk id h] at hb' ⊢
    exact .hsl id sz lo len cap arr' ty (Nat.lt_of_lt_of_le h m.nh) hb' (by omega) hl hm
  | fptr e off b o vs hc _ h1 ih =>
    refine .fptr e off b o vs (fun j c hj => ?_) ih h1
    obtain ⟨h1, h2⟩ := hc j c hj
    obtain ⟨h3, h4⟩ := m.claim _ _ h2
    exact ⟨h4.trans h1, h3⟩
  | sl sz l a cap vs hz ha hn _ h1 hl hm ih =>
    refine .sl sz l a cap vs hz (fun hne => ?_) hn ih h1 hl hm
    obtain ⟨b, o, e, hc⟩ := ha hne
    refine ⟨b, o, e, fun i el j c hi hj => ?_⟩
    obtain ⟨h1, h2⟩ := hc i el j c hi hj
    obtain ⟨h3, h4⟩ := m.claim _ _ h2
    exact ⟨h4.trans h1, h3⟩
  | agg cs arr hz _ h1 ih => exact .agg cs arr hz ih h1
  | iface t v c _ ih => exact .iface t v c ih
  | fn f cs arr hz _ ih => exact .fn f cs arr hz ih

/-- The cells behind a slice that may grow: whose they are. 'o': the owner. -/
def Spare (γ : Gh) (w : World) (o : Owner) (sz n : Nat) (c : Value) : Prop :=
  c = .slice none 0 0 ∨ ∃ b cap arr ty, c = .slice (some ⟨b, 0, none⟩) n cap ∧ w.heap[b]? = some (.cells arr ty (0, 0)) ∧ cap * sz ≤ arr.size ∧ (n = 0 → cap = 0) ∧
    ∀ j, n * sz ≤ j → j < cap * sz → γ.own b j = o
/-- A cell of a place: a slice that stands there may be one that may grow. -/
def RelX (γ : Gh) (w : World) (o : Owner) : AV → Value → Prop
  | .xsl sz l, c => Rel γ w (.sl sz l) c ∧ Spare γ w o sz l.length c
  | v, c => Rel γ w v c
def RelC (γ : Gh) (w : World) (o : Nat → Owner) : AV → Value → Prop
  | .agg cs, c => ∃ arr : Array Value, c = .agg arr ∧ arr.size = cs.length ∧ (∀ (k : Nat) (a : AV) (v : Value), cs[k]? = some a → arr[k]? = some v → RelX γ w (o k) a v) ∧ (∀ (j : Nat) (c : AV), cs[j]? = some c → c.one = true)
  | v, c => RelX γ w (o 0) v c
/-- What a temporary may hold besides. -/
def RelT (γ : Gh) (w : World) (o : Nat → Nat → Owner) : AV → Value → Prop
  | .tup vs, c => ∃ arr : Array Value, c = .tuple arr ∧ arr.size = vs.length ∧ ∀ (i : Nat) (a : AV) (v : Value), vs[i]? = some a → arr[i]? = some v → RelC γ w (o i) a v
  | .lptr b off, c => c = .pointer (some ⟨γ.bxb b, off, none⟩)
  | .undef, _ => True
  | v, c => RelC γ w (o 0) v c

theorem Rel.x {γ : Gh} {w : World} {o : Owner} {v : AV} {c : Value} (h : Rel γ w v c) : RelX γ w o v c := by
  cases v <;> first | exact h | (cases h; done)
theorem Rel.cOf {γ : Gh} {w : World} {o : Nat → Owner} {v : AV} {c : Value} (h : Rel γ w v c) : RelC γ w o v c := by
  cases h with
  | agg cs arr hz hv h1 => exact ⟨arr, rfl, hz, fun k a v ha hk => (hv k a v ha hk).x, h1⟩
  | int => exact .int _ _
  | bool => exact .bool _
  | str => exact .str _
  | nilptr => exact .nilptr
  | nilif => exact .nilif
  | nilfn => exact .nilfn
  | nsl => exact .nsl
  | hptr id pos h => exact .hptr id pos h
  | map id h => exact .map id h
  | hsl id sz lo len cap arr ty h hb hc hl hm => exact .hsl id sz lo len cap arr ty h hb hc hl hm
  | fptr e off b o vs hc hv h1 => exact .fptr e off b o vs hc hv h1
  | sl sz l a cap vs hz ha hn hv h1 hl hm => exact .sl sz l a cap vs hz ha hn hv h1 hl hm
  | iface t v c h => exact .iface t v c h
  | fn f cs arr hz hv => exact .fn f cs arr hz hv
theorem Rel.t {γ : Gh} {w : World} {o : Nat → Nat → Owner} {v : AV} {c : Value} (h : Rel γ w v c) : RelT γ w o v c := by
  have k := h.cOf (o := o 0)
  cases v <;> first | exact k | (cases h; done)
theorem RelC.x {γ : Gh} {w : World} {o : Nat → Owner} {v : AV} {c : Value} (hv : v.one = true) (h : RelC γ w o v c) : RelX γ w (o 0) v c := by
  cases v <;> first | exact h | (cases hv; done)
theorem RelX.c {γ : Gh} {w : World} {o : Nat → Owner} {v : AV} {c : Value} (hv : v.one = true) (h : RelX γ w (o 0) v c) : RelC γ w o v c := by
  cases v <;> first | exact h | (cases hv; done)
theorem RelT.c {γ : Gh} {w : World} {o : Nat → Nat → Owner} {v : AV} {c : Value} (hv : v.isV = true) (h : RelT γ w o v c) : RelC γ w (o 0) v c := by
  cases v <;> first | exact h | (cases hv; done)
theorem RelC.t {γ : Gh} {w : World} {o : Nat → Nat → Owner} {v : AV} {c : Value} (hv : v.isV = true) (h : RelC γ w (o 0) v c) : RelT γ w o v c := by
  cases v <;> first | exact h | (cases hv; done)
theorem RelX.dg {γ : Gh} {w : World} {o : Owner} {v : AV} {c : Value} (h : RelX γ w o v c) : Rel γ w v.dg1 c := by
  cases v <;> first | exact h.1 | exact h
theorem dg1_one (v : AV) (h : v.one = true) : v.dg1.one = true := by
  cases v <;> first | rfl | (simp [AV.one] at h)
theorem RelC.dg {γ : Gh} {w : World} {o : Nat → Owner} {v : AV} {c : Value} (h : RelC γ w o v c) : Rel γ w v.dgc c := by
  cases v with
  | agg cs =>
    obtain ⟨arr, rfl, hz, hv, h1⟩ := h
    refine .agg _ arr (by simpa using hz) (fun j c v hc hj => ?_) (fun j c hc => ?_)
    · simp only [List.getElem?_map, Option.map_eq_some_iff] at hc
      obtain ⟨c, hc, rfl⟩ := hc
      exact (hv j c v hc hj).dg
    · simp only [List.getElem?_map, Option.map_eq_some_iff] at hc
      obtain ⟨c, hc, rfl⟩ := hc
      exact dg1_one _ (h1 j c hc)
  | _ => exact RelX.dg (RelC.x rfl h)
theorem RelT.dg {γ : Gh} {w : World} {o o' : Nat → Nat → Owner} {v : AV} {c : Value} (h : RelT γ w o v c) : RelT γ w o' v.dg c := by
  cases v with
  | tup vs =>
    obtain ⟨arr, rfl, hz, hv⟩ := h
    refine ⟨arr, rfl, by simpa using hz, fun i a v ha hi => ?_⟩
    simp only [List.getElem?_map, Option.map_eq_some_iff] at ha
    obtain ⟨a, ha, rfl⟩ := ha
    exact (hv i a v ha hi).dg.cOf
  | lptr b off => exact h
  | undef => exact trivial
  | _ => exact (RelC.dg (RelT.c rfl h)).t
/-- What may stand in a cell. -/
theorem RelT.val {γ : Gh} {w : World} {o : Nat → Nat → Owner} {v u : AV} {c : Value} (h : RelT γ w o v c) (hu : v.dg.chk = some u) : u = v.dg ∧ Rel γ w u c := by
  unfold AV.chk at hu
  cases v with
  | tup vs => simp [AV.dg, AV.isV] at hu
  | lptr b off => simp [AV.dg, AV.dgc, AV.dg1, AV.isV] at hu
  | undef => simp [AV.dg, AV.dgc, AV.dg1, AV.isV] at hu
  | agg cs => simp [AV.dg, AV.dgc, AV.isV] at hu; subst hu; exact ⟨rfl, RelC.dg (RelT.c rfl h)⟩
  | _ => simp [AV.dg, AV.dgc, AV.dg1, AV.isV] at hu; subst hu; exact ⟨rfl, RelC.dg (RelT.c rfl h)⟩
end Go.Am

open Go.RowKit
namespace Go.Am

/-! ### 6. The state and the world -/
structure Ext (γ : Gh) (w : World) (γ' : Gh) (w' : World) : Prop extends Mono γ w γ' w' where
  foreign : ∀ b j, γ.own b j = .foreign → γ'.own b j = .foreign ∧ w'.cell? ⟨b, j, none⟩ = w.cell? ⟨b, j, none⟩
  n0 : γ'.n0 = γ.n0
  w0 : γ'.w0 = γ.w0
  size : w.heap.size ≤ w'.heap.size
theorem Ext.refl (γ : Gh) (w : World) : Ext γ w γ w := ⟨Mono.refl γ w, fun _ _ h => ⟨h, rfl⟩, rfl, rfl, Nat.le_refl _⟩
theorem Ext.trans {γ γ' γ'' : Gh} {w w' w'' : World} (h : Ext γ w γ' w') (k : Ext γ' w' γ'' w'') : Ext γ w γ'' w'' := by
  refine ⟨h.toMono.trans k.toMono, fun b j hf => ?_, k.n0.trans h.n0, k.w0.trans h.w0, Nat.le_trans h.size k.size⟩
  obtain ⟨h1, h2⟩ := h.foreign b j hf
  obtain ⟨k1, k2⟩ := k.foreign b j h1
  exact ⟨k1, k2.trans h2⟩

/-- A row of cells in memory, each cell at a place of its own. -/
def CellsAt (γ : Gh) (w : World) (b : Nat) (lab : Nat → Owner) (all : Owner) (cs : List AV) : Prop :=
  ∃ arr ty, w.heap[b]? = some (.cells arr ty (0, 0)) ∧ arr.size = cs.length ∧ (∀ (k : Nat) (c : AV) (v : Value), cs[k]? = some c → arr[k]? = some v → RelX γ w (lab k) c v) ∧
    (∀ (k : Nat) (c : AV), cs[k]? = some c → c.one = true) ∧ (∀ j, γ.own b j = all) ∧ γ.n0 ≤ b
def HR (γ : Gh) (w : World) (id : Nat) : HObj → Prop
  | .obj cs => CellsAt γ w (γ.blk id) (fun k => .sp (.hp id k)) (.obj id) cs
  | .dead => True
  | .map es => ∃ ms clock, w.heap[γ.blk id]? = some (.map ms clock) ∧ ms.size = es.length ∧ (∀ (i : Nat) (k v : AV) (m : MapEntry), es[i]? = some (k, v) → ms[i]? = some m → Rel γ w k m.key ∧ Rel γ w v m.val) ∧
    (∀ j, γ.own (γ.blk id) j = .obj id) ∧ γ.n0 ≤ γ.blk id
structure WR (γ : Gh) (w : World) (h : List HObj) : Prop where
  below : Below γ.n0 γ.w0 w
  base : γ.n0 ≤ w.heap.size
  ownb : ∀ b j, b < γ.n0 → γ.own b j = .claim
  fresh : ∀ b j, w.heap.size ≤ b → γ.own b j = .dead
  nh : γ.nh = h.length
  hp : ∀ id o, h[id]? = some o → HR γ w id o
abbrev lab (t : Nat) : Nat → Nat → Owner := fun i k => .sp (.tm t i k)
structure SR (γ : Gh) (s : AS) (a : Act) (w : World) : Prop extends WR γ w s.hp where
  tm : ∀ t v, look s.tm t = some v → RelT γ w (lab t) v (a.tmps.getD t undef)
  bx : ∀ b cs, look s.bx b = some cs → CellsAt γ w (γ.bxb b) (fun k => .sp (.bx b k)) (.box b) cs
  dep : ∀ t b off, look s.tm t = some (.lptr b off) → ∃ l, look s.dep b = some l ∧ l.elem t = true
  df : a.defers.length = s.df.length ∧ ∀ (i : Nat) (d : Deferred) (f : AV) (vs : List AV), a.defers[i]? = some d → s.df[i]? = some (f, vs) →
    ∃ g arr1 caps arr2, f = .fn g caps ∧ d.target = .fn (.func g) arr1 ∧ d.args = arr2 ∧ arr1.size = caps.length ∧ arr2.size = vs.length ∧
      (∀ (j : Nat) (c : AV) (v : Value), caps[j]? = some c → arr1[j]? = some v → Rel γ w c v) ∧ (∀ (j : Nat) (c : AV) (v : Value), vs[j]? = some c → arr2[j]? = some v → Rel γ w c v)

/-! Labels turned -/
def Gh.turn (γ : Gh) (f : Owner → Owner) : Gh := { γ with own := fun b j => f (γ.own b j) }
structure Turn (f : Owner → Owner) : Prop where
  claim : f .claim = .claim
  foreign : f .foreign = .foreign
  dead : f .dead = .dead
  box : ∀ b, f (.box b) = .box b
  obj : ∀ b, f (.obj b) = .obj b
theorem Turn.mono {f : Owner → Owner} (hf : Turn f) (γ : Gh) (w : World) : Mono γ w (γ.turn f) w :=
  ⟨fun b j h => ⟨by show f (γ.own b j) = _; rw [h, hf.claim], rfl⟩, fun _ arr _ _ h => ⟨arr, h, rfl⟩, fun _ _ => rfl, Nat.le_refl _⟩
theorem Turn.ext {f : Owner → Owner} (hf : Turn f) (γ : Gh) (w : World) : Ext γ w (γ.turn f) w :=
  ⟨hf.mono γ w, fun b j h => ⟨by show f (γ.own b j) = _; rw [h, hf.foreign], rfl⟩, rfl, rfl, Nat.le_refl _⟩
theorem RelX.turn {f : Owner → Owner} (hf : Turn f) {γ : Gh} {w : World} {o : Owner} {v : AV} {c : Value} (h : RelX γ w o v c) : RelX (γ.turn f) w (f o) v c := by
  cases v with
  | xsl sz l =>
    refine ⟨h.1.mono (hf.mono γ w), ?_⟩
    rcases h.2 with h | ⟨b, cap, arr, ty, h1, h2, h3, h0, h4⟩
    · exact .inl h
    · exact .inr ⟨b, cap, arr, ty, h1, h2, h3, h0, fun j h5 h6 => congrArg f (h4 j h5 h6)⟩
  | _ => exact Rel.mono (hf.mono γ w) h
theorem RelC.turn {f : Owner → Owner} (hf : Turn f) {γ : Gh} {w : World} {o : Nat → Owner} {v : AV} {c : Value} (h : RelC γ w o v c) : RelC (γ.turn f) w (fun k => f (o k)) v c := by
  cases v with
  | agg cs =>
    obtain ⟨arr, h1, h2, h3, h4⟩ := h
    exact ⟨arr, h1, h2, fun k a v ha hv => (h3 k a v ha hv).turn hf, h4⟩
  | _ => exact RelX.c rfl (RelX.turn hf (RelC.x rfl h))
theorem RelT.turn {f : Owner → Owner} (hf : Turn f) {γ : Gh} {w : World} {o : Nat → Nat → Owner} {v : AV} {c : Value} (h : RelT γ w o v c) : RelT (γ.turn f) w (fun i k => f (o i k)) v c := by
  cases v with
  | tup vs =>
    obtain ⟨arr, h1, h2, h3⟩ := h
    exact ⟨arr, h1, h2, fun i a v ha hv => (h3 i a v ha hv).turn hf⟩
  | lptr b off => exact h
  | undef => trivial
  | _ => exact RelC.t rfl (RelC.turn hf (RelT.c rfl h))
theorem CellsAt.turn {f : Owner → Owner} (hf : Turn f) {γ : Gh} {w : World} {b : Nat} {lb : Nat → Owner} {all : Owner} {cs : List AV} (h : CellsAt γ w b lb all cs) (hall : f all = all) :
    CellsAt (γ.turn f) w b (fun k => f (lb k)) all cs := by
  obtain ⟨arr, ty, h1, h2, h3, h4, h5, h6⟩ := h
  exact ⟨arr, ty, h1, h2, fun k c v hc hv => (h3 k c v hc hv).turn hf, h4, fun j => (congrArg f (h5 j)).trans hall, h6⟩
theorem WR.turn {f : Owner → Owner} (hf : Turn f) (hh : ∀ id k, f (.sp (.hp id k)) = .sp (.hp id k)) {γ : Gh} {w : World} {h : List HObj} (r : WR γ w h) : WR (γ.turn f) w h := by
  refine ⟨r.below, r.base, fun b j hb => ?_, fun b j hb => ?_, r.nh, fun id o ho => ?_⟩
  · show f (γ.own b j) = _
    rw [r.ownb b j hb, hf.claim]
  · show f (γ.own b j) = _
    rw [r.fresh b j hb, hf.dead]
  · have := r.hp id o ho
    cases o with
    | obj cs =>
      have h := CellsAt.turn hf this (hf.obj id)
      simp only [hh] at h
      exact h
    | dead => trivial
    | map es =>
      obtain ⟨ms, clock, h1, h2, h3, h4, h5⟩ := this
      exact ⟨ms, clock, h1, h2, fun i k v m he hm => ⟨(h3 i k v m he hm).1.mono (hf.mono γ w), (h3 i k v m he hm).2.mono (hf.mono γ w)⟩, fun j => (congrArg f (h4 j)).trans (hf.obj id), h5⟩

/-! Worlds that grow -/
theorem RelX.mono {γ γ' : Gh} {w w' : World} (m : Mono γ w γ' w') {o : Owner} (ho : ∀ b j, γ.own b j = o → γ'.own b j = o) {v : AV} {c : Value} (h : RelX γ w o v c) : RelX γ' w' o v c := by
  cases v with
  | xsl sz l =>
    refine ⟨h.1.mono m, ?_⟩
    rcases h.2 with h | ⟨b, cap, arr, ty, h1, h2, h3, h0, h4⟩
    · exact .inl h
    · obtain ⟨arr', h5, h6⟩ := m.shape _ _ _ _ h2
      exact .inr ⟨b, cap, arr', ty, h1, h5, by omega, h0, fun j h7 h8 => ho _ _ (h4 j h7 h8)⟩
  | _ => exact Rel.mono m h
theorem RelC.mono {γ γ' : Gh} {w w' : World} (m : Mono γ w γ' w') {o : Nat → Owner} (ho : ∀ k b j, γ.own b j = o k → γ'.own b j = o k) {v : AV} {c : Value} (h : RelC γ w o v c) : RelC γ' w' o v c := by
  cases v with
  | agg cs =>
    obtain ⟨arr, h1, h2, h3, h4⟩ := h
    exact ⟨arr, h1, h2, fun k a v ha hv => (h3 k a v ha hv).mono m (ho k), h4⟩
  | _ => exact RelX.c rfl (RelX.mono m (ho 0) (RelC.x rfl h))
theorem RelT.mono {γ γ' : Gh} {w w' : World} (m : Mono γ w γ' w') {o : Nat → Nat → Owner} (ho : ∀ i k b j, γ.own b j = o i k → γ'.own b j = o i k) {v : AV} {c : Value} (h : RelT γ w o v c)
    (hv : ∀ b off, v = .lptr b off → γ'.bxb b = γ.bxb b) : RelT γ' w' o v c := by
  cases v with
  | tup vs =>
    obtain ⟨arr, h1, h2, h3⟩ := h
    exact ⟨arr, h1, h2, fun i a v ha hv => (h3 i a v ha hv).mono m (ho i)⟩
  | lptr b off =>
    show c = _
    rw [hv b off rfl]
    exact h
  | undef => trivial
  | _ => exact RelC.t rfl (RelC.mono m (ho 0) (RelT.c rfl h))
end Go.Am

open Go.RowKit
namespace Go.Am

/-! ### 7. From the loaded program to operations -/
def cmpV1 : Value → Option AV
  | .int k n => some (.int k n)
  | .bool b => some (.bool b)
  | .string s => some (.str s)
  | .pointer none => some .nilptr
  | .slice none 0 0 => some .nsl
  | .nilIface => some .nilif
  | .nilFunc => some .nilfn
  | _ => none
def cmpVs : List Value → Option (List AV)
  | [] => some []
  | v :: vs => match cmpV1 v, cmpVs vs with
    | some a, some as => some (a :: as)
    | _, _ => none
def cmpV : Value → Option AV
  | .agg cs => (cmpVs cs.toList).map .agg
  | v => cmpV1 v
def cmpX : Operand → Option X
  | .tmp t => some (.t t)
  | .const v => (cmpV v).map .c
  | .func f => some (.c (.fn f []))
  | .global _ => none
def cmpXs : List Operand → Option (List X)
  | [] => some []
  | x :: xs => match cmpX x, cmpXs xs with
    | some a, some as => some (a :: as)
    | _, _ => none
def szT (P : Program) (t : TypeId) : Option Nat := (P.info? t).map (·.size)
def byT (P : Program) (t : TypeId) : Option Nat := (P.info? t).map (·.bytes)
def agT (P : Program) (t : TypeId) : Option Bool := match P.underlying t with
  | some (.struct _) => some true
  | some (.array _ _) => some true
  | some _ => some false
  | none => none
def zeT (P : Program) (t : TypeId) : Option AV := match (P.info? t).bind (·.zero) with
  | some z => match cmpV z, szT P t with
    | some a, some n => if a.cells.length = n then some a else none
    | _, _ => none
  | none => none
def elT (P : Program) (t : TypeId) : Option TypeId := match P.underlying t with
  | some (.slice e) => some e
  | _ => none
/-- A part's place: its type's field. -/
def fdT (P : Program) (t : TypeId) (f : Nat) : Option Field := match P.underlying t with
  | some (.struct fs) => fs[f]?
  | _ => none
def btT (P : Program) (t : TypeId) (y : Operand) : Option BT := match P.underlying t with
  | some (.int _) => some .num
  | some .string => some .str
  | some .bool => some .bool
  | some (.interface _) => match y with
    | .const .nilIface => some .ifnil
    | _ => none
  | some (.pointer _) => some .ptr
  | some (.slice _) => match y with
    | .const (.slice none 0 0) => some .slnil
    | _ => none
  | some (.func _ _ _) => some .fn
  | _ => none
/-- Fields of a struct that can be compared plainly. -/
def eqT (P : Program) : List Field → Option (List (Nat × BT))
  | [] => some []
  | f :: r => match decide (f.name = "_"), P.underlying f.type, eqT P r with
    | false, some (.int _), some l => some ((f.offset, .num) :: l)
    | false, some .string, some l => some ((f.offset, .str) :: l)
    | false, some .bool, some l => some ((f.offset, .bool) :: l)
    | _, _, _ => none
/-- Keys that are texts or numbers. -/
def keyT (P : Program) (t : TypeId) : Option Bool := match P.underlying t with
  | some .string => some true
  | some (.int _) => some false
  | _ => none
def partsT (P : Program) (fs : Array Field) : List (Nat × Operand) → Option (List (Nat × Nat × X))
  | [] => some []
  | (i, x) :: r => match fs[i]?, cmpX x, partsT P fs r with
    | some f, some x, some r => match szT P f.type with
      | some n => some ((f.offset, n, x) :: r)
      | none => none
    | _, _, _ => none
def partsE : List (Nat × Operand) → Option (List (Nat × X))
  | [] => some []
  | (i, x) :: r => match cmpX x, partsE r with
    | some x, some r => some ((i, x) :: r)
    | _, _ => none
def optX : Option Operand → Option (Option X)
  | none => some none
  | some x => (cmpX x).map some
/-- Notes on temporaries: 1: what is written there is taken, not copied; 2: it is memory of its own on the heap. -/
abbrev Ann := Nat → Nat
def annOf (ann : Ann) : Option Nat → Nat
  | some d => ann d
  | none => 0
def isTmp : Operand → Bool
  | .tmp _ => true
  | _ => false
def cmpOp (P : Program) (ann : Ann) (o : Oper) : Option AOp :=
  match o.op with
  | .move x => (cmpX x).map (.mv · (!isTmp x || annOf ann o.dst == 1))
  | .assign x => (cmpX x).map (.mv · (!isTmp x || annOf ann o.dst != 3))
  | .pick c a b => match cmpX c, cmpX a, cmpX b with
    | some c, some a, some b => some (.pick c a b)
    | _, _, _ => none
  | .alloc t => match zeT P t with
    | some z => some (.alloc z.cells (annOf ann o.dst == 2))
    | none => none
  | .box _ x => (cmpX x).map (.box · (annOf ann o.dst == 2))
  | .build t ps => match P.underlying t, zeT P t with
    | some (.struct fs), some z => match partsT P fs ps.toList, fs.all (fun f => (szT P f.type).isSome) with
      | some ps, true => some (.build z.cells ps)
      | _, _ => none
    | _, _ => none
  | .buildSlice t n ps => match elT P t with
    | some e => match szT P e, zeT P e, partsE ps.toList with
      | some sz, some z, some ps => if n * sz ≤ 16777216 ∧ 0 < sz then some (.bslice sz n z.dg ps (annOf ann o.dst == 2)) else none
      | _, _, _ => none
    | none => none
  | .load t a => match cmpX a, szT P t, agT P t with
    | some a, some n, some ag => if ag = true ∨ n = 1 then some (.load a n ag (annOf ann o.dst == 1)) else none
    | _, _, _ => none
  | .store t a x => match cmpX a, cmpX x, szT P t with
    | some a, some x, some n => some (.store a x n)
    | _, _, _ => none
  | .nilCheck x => (cmpX x).map .nilchk
  | .binOp op t x y _ => match cmpX x, cmpX y, P.underlying t with
    | some x', some y', some (.struct fs) => match eqT P fs.toList, P.stoodInHeld t, P.eqGuardType P.depth t with
      | some l, false, false => match op with
        | .eql => some (.eqst false l x' y')
        | .neq => some (.eqst true l x' y')
        | _ => none
      | _, _, _ => none
    | some x', some y', _ => match btT P t y with
      | some ty => some (.bin ty op x' y')
      | none => none
    | _, _, _ => none
  | .unOp op _ x => (cmpX x).map (.un op)
  | .convert s d x => match P.underlying s, P.underlying d, cmpX x with
    | some (.int _), some (.int k), some x => some (.conv k x)
    | some (.slice e), some .string, some x => match P.underlying e with
      | some (.int .u8) => some (.b2s x)
      | _ => none
    | _, _, _ => none
  | .makeInterface t x => match P.underlying t, cmpX x with
    | some (.interface _), _ => none
    | some _, some x => some (.mkif t x)
    | _, _ => none
  | .makeFunc (.func f) first caps => if first.size = 0 then (cmpXs caps.toList).map (.mkfn f) else none
  | .makeMap _ none => some .mkmap
  | .lookup t m k ok => match P.underlying t, cmpX m, cmpX k with
    | some (.map kt et), some m, some k => match keyT P kt, zeT P et with
      | some st, some z => some (.lookup m k z ok st)
      | _, _ => none
    | _, _, _ => none
  | .mapUpdate t m k v => match P.underlying t, cmpX m, cmpX k, cmpX v with
    | some (.map kt _), some m, some k, some v => match keyT P kt with
      | some st => some (.mapup m k v st)
      | none => none
    | _, _, _, _ => none
  | .makeSlice t n c => match elT P t, n, c with
    | some e, n, c => match szT P e, byT P e, zeT P e, cmpX n, cmpX c with
      | some sz, some by_, some z, some (.t i), some (.t j) => if i = j ∧ 0 < sz ∧ 0 < by_ then some (.mkarr sz by_ z.dg (.t i) (annOf ann o.dst == 2)) else none
      | _, _, _, _, _ => none
    | _, _, _ => none
  | .slice t x lo hi none => match P.underlying t, cmpX x, optX lo, optX hi with
    | some .string, some x, some lo, some hi => some (.slcS x lo hi)
    | some (.slice e), some x, some lo, some hi => match szT P e with
      | some sz => some (.slc x lo hi sz)
      | none => none
    | _, _, _, _ => none
  | .fieldAddr t x f => match fdT P t f, cmpX x with
    | some fd, some x => match szT P fd.type with
      | some (_ + 1) => some (.faddr x fd.offset)
      | _ => none
    | _, _ => none
  | .field t x f => match fdT P t f, cmpX x with
    | some fd, some x => match szT P fd.type, agT P fd.type with
      | some n, some ag => if ag = true ∨ n = 1 then some (.fld x fd.offset n ag) else none
      | _, _ => none
    | _, _ => none
  | .indexAddr t x i => match P.underlying t, cmpX x, cmpX i with
    | some (.slice e), some x, some i => match szT P e with
      | some sz => some (.iaddr x i sz)
      | none => none
    | some (.array n e), some x, some i => match szT P e with
      | some sz => some (.iaddrA x i n sz)
      | none => none
    | _, _, _ => none
  | .index t x i => match P.underlying t, cmpX x, cmpX i with
    | some .string, some x, some i => some (.idxS x i)
    | some (.array n e), some x, some i => match szT P e, agT P e with
      | some sz, some ag => if ag = true ∨ sz = 1 then some (.idxA x i n sz ag) else none
      | _, _ => none
    | _, _, _ => none
  | .typeAssert x _ t ok => match P.underlying t, cmpX x, zeT P t with
    | some (.interface _), _, _ => none
    | some _, some x, some z => some (.tassert x t z ok)
    | _, _, _ => none
  | .extract x i => (cmpX x).map (.extr · i)
  | .panic x => (cmpX x).map .panic
  | .defer { callee := .value f, args, .. } => match cmpX f, cmpXs args.toList with
    | some f, some xs => some (.defer f xs)
    | _, _ => none
  | .call { callee := .builtin b, args, argTypes } => match b, args.toList, argTypes.toList with
    | .append, [s, x], [t, t'] => match elT P t, cmpX s, cmpX x with
      | some e, some s, some x => match szT P e, byT P e, zeT P e with
        | some sz, some by_, some _ => if 0 < sz ∧ 0 < by_ ∧ t = t' then some (.app s x sz by_) else none
        | _, _, _ => none
      | _, _, _ => none
    | .len, [x], [t] => match P.underlying t, cmpX x with
      | some .string, some x => some (.len true x)
      | some (.slice _), some x => some (.len false x)
      | _, _ => none
    | .max, xs, _ => (cmpXs xs).map .mx
    | .min, xs, _ => (cmpXs xs).map .mn
    | .recover, [], _ => some .recov
    | _, _, _ => none
  | .call { callee := .value (.func f), args, .. } => match P.funcs[f]? with
    | some fn => if fn.body.isSome ∧ fn.name ≠ "runtime.NumGoroutine" then (cmpXs args.toList).map (.call f) else none
    | none => none
  | .call { callee := .value x, args, .. } => match cmpX x, cmpXs args.toList with
    | some x, some xs => some (.callv x xs)
    | _, _ => none
  | _ => none
/-- 'nt': how many temporaries there are. -/
def cmpG (ops : Array Oper) : Option (Nat × Bool) → Option (Option (Nat × Bool))
  | none => some none
  | some (j, want) => match (ops[j]?).bind (·.dst) with
    | some t => some (some (t, want))
    | none => none
def cmpO (P : Program) (ann : Ann) (nt : Nat) (ops : Array Oper) (o : Oper) : Option AOper :=
  match cmpOp P ann o, cmpG ops o.guard with
  | some a, some g => match o.dst with
    | some d => if d < nt then some { d := some d, g := g, op := a } else none
    | none => some { d := none, g := g, op := a }
  | _, _ => none
end Go.Am

open Go.RowKit
namespace Go.Am

/-! ### 8. Steps of states -/
theorem getD_setIfInBounds (xs : Array Value) (d t : Nat) (v z : Value) (hd : d < xs.size) : (xs.setIfInBounds d v).getD t z = if t = d then v else xs.getD t z := by
  simp only [Array.getD_eq_getD_getElem?, Array.getElem?_setIfInBounds]
  by_cases h : d = t
  · subst h; simp [hd]
  · have : ¬ t = d := fun e => h e.symm
    simp [h, this]
def labd (d : Option Nat) : Nat → Nat → Owner := match d with
  | some t => lab t
  | none => fun _ _ => .dead
section
variable {γ γ' : Gh} {s : AS} {a : Act} {w w' : World}
theorem SR.setd (h : SR γ s a w) (d : Option Nat) (v : AV) (c : Value) (hd : ∀ t, d = some t → t < a.tmps.size) (hv : RelT γ w (labd d) v c) (ho : okd s.dep d v = true) :
    SR γ { s with tm := putd s.tm d v } (a.put d c) w := by
  cases d with
  | none => exact h
  | some d =>
    have hlt := hd d rfl
    refine { h.toWR with tm := ?_, bx := h.bx, dep := ?_, df := ?_ }
    · intro t u hu
      simp only [putd, look_put] at hu
      simp only [Act.put]
      rw [getD_setIfInBounds _ _ _ _ _ hlt]
      split at hu
      · rename_i e
        subst e
        cases hu
        rw [if_pos rfl]
        exact hv
      · rename_i e
        rw [if_neg e]
        exact h.tm t u hu
    · intro t b off hu
      simp only [putd, look_put] at hu
      split at hu
      · rename_i e
        subst e
        cases hu
        simp only [okd] at ho
        cases hl : look s.dep b with
        | none => simp [hl] at ho
        | some l => exact ⟨l, rfl, by simpa [hl] using ho⟩
      · exact h.dep t b off hu
    · exact h.df
/-- New blocks alone; orders drawn. -/
structure Grew (γ : Gh) (w : World) (γ' : Gh) (w' : World) : Prop where
  ext : Ext γ w γ' w'
  old : ∀ b, b < w.heap.size → (∀ j, γ'.own b j = γ.own b j) ∧ w'.heap[b]? = w.heap[b]?
  fresh : ∀ b j, w'.heap.size ≤ b → γ'.own b j = .dead
  below : Below w.heap.size w w'
  bxb : γ'.bxb = γ.bxb
  nh : γ'.nh = γ.nh
theorem Grew.refl (h : ∀ b j, w.heap.size ≤ b → γ.own b j = .dead) : Grew γ w γ w := ⟨Ext.refl γ w, fun _ _ => ⟨fun _ => rfl, rfl⟩, h, Below.refl _ _, rfl, rfl⟩
def Gh.new (γ : Gh) (n : Nat) (o : Owner) : Gh := { γ with own := fun b j => if b = n then o else γ.own b j }
theorem Grew.new (h : ∀ b j, w.heap.size ≤ b → γ.own b j = .dead) (o : Owner) (ob : Obj) : Grew γ w (γ.new w.heap.size o) (w.alloc ob) := by
  have hne : ∀ b j x, x ≠ .dead → γ.own b j = x → b < w.heap.size := by
    intro b j x hx hb
    rcases Nat.lt_or_ge b w.heap.size with hl | hl
    · exact hl
    · rw [h b j hl] at hb
      exact absurd hb.symm hx
  have hcell : ∀ b j, b < w.heap.size → (w.alloc ob).cell? ⟨b, j, none⟩ = w.cell? ⟨b, j, none⟩ := fun b j hb => World.cell?_of_block (w := w) (Below.heap_alloc w ob b hb)
  refine ⟨⟨⟨fun b j hb => ?_, fun b arr ty fr hb => ⟨arr, ?_, rfl⟩, fun _ _ => rfl, Nat.le_refl _⟩, fun b j hb => ?_, rfl, rfl, by simp⟩, fun b hb => ⟨fun j => ?_, Below.heap_alloc w ob b hb⟩, fun b j hb => ?_, (Below.refl _ _).alloc (Nat.le_refl _) ob, rfl, rfl⟩
  · have hl := hne b j _ (by simp) hb
    exact ⟨by show (if _ then _ else _) = _; rw [if_neg (by omega)]; exact hb, hcell b j hl⟩
  · rw [Below.heap_alloc w ob b (Array.getElem?_eq_some_iff.1 hb).1]
    exact hb
  · have hl := hne b j _ (by simp) hb
    exact ⟨by show (if _ then _ else _) = _; rw [if_neg (by omega)]; exact hb, hcell b j hl⟩
  · show (if _ then _ else _) = _
    rw [if_neg (by omega)]
  · simp at hb
    show (if _ then _ else _) = _
    rw [if_neg (by omega)]
    exact h b j (by omega)
theorem Grew.drew (g : Grew γ w γ' w') : Grew γ w γ' w'.drew := ⟨⟨⟨g.ext.claim, g.ext.shape, g.ext.blk, g.ext.nh⟩, g.ext.foreign, g.ext.n0, g.ext.w0, g.ext.size⟩, g.old, g.fresh, g.below.drew, g.bxb, g.nh⟩
theorem Grew.sp (g : Grew γ w γ' w') (h : ∀ b j, w.heap.size ≤ b → γ.own b j = .dead) (o : Owner) (ho : o ≠ .dead) (b j : Nat) (hb : γ.own b j = o) : γ'.own b j = o := by
  rcases Nat.lt_or_ge b w.heap.size with hl | hl
  · rw [(g.old b hl).1 j]; exact hb
  · rw [h b j hl] at hb
    exact absurd hb.symm ho
theorem lt_of_heap {w : World} {b : Nat} {o : Obj} (h : w.heap[b]? = some o) : b < w.heap.size := (Array.getElem?_eq_some_iff.1 h).1
theorem CellsAt.grew (g : Grew γ w γ' w') (h : ∀ b j, w.heap.size ≤ b → γ.own b j = .dead) {b : Nat} {l : Nat → Loc} {all : Owner} {cs : List AV} (k : CellsAt γ w b (fun k => .sp (l k)) all cs) : CellsAt γ' w' b (fun k => .sp (l k)) all cs := by
  obtain ⟨arr, ty, h1, h2, h3, h4, h5, h6⟩ := k
  have hl := lt_of_heap h1
  exact ⟨arr, ty, (g.old b hl).2.trans h1, h2, fun k c v hc hv => (h3 k c v hc hv).mono g.ext.toMono (fun b j hb => g.sp h _ (by simp) b j hb), h4, fun j => ((g.old b hl).1 j).trans (h5 j), by rw [g.ext.n0]; exact h6⟩
theorem WR.grew (g : Grew γ w γ' w') {hh : List HObj} (k : WR γ w hh) : WR γ' w' hh := by
  refine ⟨?_, by rw [g.ext.n0]; exact Nat.le_trans k.base g.ext.size, fun b j hb => ?_, g.fresh, g.nh.trans k.nh, fun id o ho => ?_⟩
  · rw [g.ext.n0, g.ext.w0]
    exact k.below.trans (g.below.mono k.base)
  · rw [g.ext.n0] at hb
    exact (g.ext.claim b j (k.ownb b j hb)).1
  · have h := k.hp id o ho
    have hid : id < γ.nh := by rw [k.nh]; exact (List.getElem?_eq_some_iff.1 ho).1
    cases o with
    | obj cs =>
      have := CellsAt.grew g k.fresh h
      unfold HR
      rw [g.ext.blk id hid]
      exact this
    | dead => trivial
    | map es =>
      obtain ⟨ms, clock, h1, h2, h3, h4, h5⟩ := h
      unfold HR
      rw [g.ext.blk id hid, g.ext.n0]
      exact ⟨ms, clock, (g.old _ (lt_of_heap h1)).2.trans h1, h2, fun i k v m he hm => ⟨(h3 i k v m he hm).1.mono g.ext.toMono, (h3 i k v m he hm).2.mono g.ext.toMono⟩, fun j => ((g.old _ (lt_of_heap h1)).1 j).trans (h4 j), h5⟩
theorem SR.grew (g : Grew γ w γ' w') (k : SR γ s a w) : SR γ' s a w' := by
  refine { k.toWR.grew g with tm := fun t v hv => ?_, bx := fun b cs hb => ?_, dep := k.dep, df := ⟨k.df.1, fun i d f vs hd hf => ?_⟩ }
  · exact (k.tm t v hv).mono g.ext.toMono (fun i j b o hb => g.sp k.fresh _ (by simp) b o hb) (fun b off _ => by rw [g.bxb])
  · rw [g.bxb]
    exact CellsAt.grew g k.fresh (k.bx b cs hb)
  · obtain ⟨gf, arr1, caps, arr2, h1, h2, h3, h4, h5, h6, h7⟩ := k.df.2 i d f vs hd hf
    exact ⟨gf, arr1, caps, arr2, h1, h2, h3, h4, h5, fun j c v hc hv => (h6 j c v hc hv).mono g.ext.toMono, fun j c v hc hv => (h7 j c v hc hv).mono g.ext.toMono⟩
/-- A temporary's content handed on: labels turned, a copy left. -/
def mvLab (n : Nat) (to : Nat → Nat → Owner) : Owner → Owner
  | .sp (.tm t i k) => if t = n then to i k else .sp (.tm t i k)
  | o => o
theorem mvLab_turn (n : Nat) (to : Nat → Nat → Owner) : Turn (mvLab n to) := ⟨rfl, rfl, rfl, fun _ => rfl, fun _ => rfl⟩
theorem SR.give (h : SR γ s a w) (n : Nat) (v : AV) (hv : look s.tm n = some v) (to : Nat → Nat → Owner) :
    SR (γ.turn (mvLab n to)) { s with tm := put s.tm n v.dg } a w ∧ RelT (γ.turn (mvLab n to)) w to v (a.tmps.getD n undef) := by
  have hf := mvLab_turn n to
  refine ⟨{ WR.turn hf (fun _ _ => rfl) h.toWR with tm := fun t u hu => ?_, bx := fun b cs hb => ?_, dep := fun t b off hu => ?_, df := ⟨h.df.1, fun i d f vs hd hf' => ?_⟩ }, ?_⟩
  · simp only [look_put] at hu
    have key : ∀ t u, look s.tm t = some u → ¬ t = n → RelT (γ.turn (mvLab n to)) w (lab t) u (a.tmps.getD t undef) := by
      intro t u hu hne
      have := (h.tm t u hu).turn hf
      simpa [mvLab, hne] using this
    split at hu
    · rename_i e
      subst e
      cases hu
      exact (RelT.turn hf (h.tm t v hv)).dg
    · rename_i e
      exact key t u hu e
  · have := (h.bx b cs hb).turn hf (hf.box b)
    exact this
  · simp only [look_put] at hu
    split at hu
    · rename_i e
      subst e
      have e2 : v = .lptr b off := by
        cases v <;> simp_all [AV.dg, AV.dgc, AV.dg1]
      exact h.dep t b off (e2 ▸ hv)
    · exact h.dep t b off hu
  · obtain ⟨gf, arr1, caps, arr2, h1, h2, h3, h4, h5, h6, h7⟩ := h.df.2 i d f vs hd hf'
    exact ⟨gf, arr1, caps, arr2, h1, h2, h3, h4, h5, fun j c v hc hv => (h6 j c v hc hv).mono (hf.mono γ w), fun j c v hc hv => (h7 j c v hc hv).mono (hf.mono γ w)⟩
  · have := (h.tm n v hv).turn hf
    simpa [mvLab] using this
end
end Go.Am

open Go.RowKit
namespace Go.Am
section
variable {P : Program} {γ γ' : Gh} {s : AS} {a : Act} {w w' : World}

theorem cmpV1_rel {v : Value} {x : AV} (h : cmpV1 v = some x) (o : Owner) : RelX γ w o x v ∧ x.one = true ∧ x.isV = true := by
  unfold cmpV1 at h
  split at h <;> cases h
  · exact ⟨.int _ _, rfl, rfl⟩
  · exact ⟨.bool _, rfl, rfl⟩
  · exact ⟨.str _, rfl, rfl⟩
  · exact ⟨.nilptr, rfl, rfl⟩
  · exact ⟨.nsl, rfl, rfl⟩
  · exact ⟨.nilif, rfl, rfl⟩
  · exact ⟨.nilfn, rfl, rfl⟩
theorem cmpVs_rel : ∀ {vs : List Value} {xs : List AV}, cmpVs vs = some xs → xs.length = vs.length ∧ ∀ (i : Nat) (x : AV) (v : Value), xs[i]? = some x → vs[i]? = some v → cmpV1 v = some x
  | [], xs, h => by simp [cmpVs] at h; subst h; simp
  | v :: vs, xs, h => by
    simp only [cmpVs] at h
    split at h
    · rename_i y ys h1 h2
      cases h
      obtain ⟨h3, h4⟩ := cmpVs_rel h2
      refine ⟨by simp [h3], fun i x u hx hu => ?_⟩
      cases i with
      | zero => simp at hx hu; subst hx hu; exact h1
      | succ i => exact h4 i x u (by simpa using hx) (by simpa using hu)
    · cases h
theorem cmpV_one {v : Value} (h : ¬ ∃ cs, v = .agg cs) : cmpV v = cmpV1 v := by
  cases v <;> first | rfl | exact absurd ⟨_, rfl⟩ h
theorem cmpV_rel {v : Value} {x : AV} (h : cmpV v = some x) (o : Nat → Owner) : RelC γ w o x v ∧ x.isV = true := by
  by_cases hq : ∃ cs, v = .agg cs
  · obtain ⟨cs, rfl⟩ := hq
    simp only [cmpV, Option.map_eq_some_iff] at h
    obtain ⟨xs, h1, rfl⟩ := h
    obtain ⟨h2, h3⟩ := cmpVs_rel h1
    refine ⟨⟨cs, rfl, by simp [h2], fun k b v hb hv => (cmpV1_rel (h3 k b v hb (by simpa using hv)) _).1, fun k b hb => ?_⟩, rfl⟩
    have hk := (List.getElem?_eq_some_iff.1 hb).1
    have : k < cs.toList.length := by omega
    exact (cmpV1_rel (γ := γ) (w := w) (h3 k b _ hb (List.getElem?_eq_getElem this)) .dead).2.1
  · rw [cmpV_one hq] at h
    obtain ⟨h1, h2, h3⟩ := cmpV1_rel (γ := γ) (w := w) h (o 0)
    exact ⟨RelX.c h2 h1, h3⟩
def labX : X → Nat → Nat → Owner
  | .t n => lab n
  | .c _ => fun _ _ => .dead
theorem cmpX_const {ox : Operand} {v : AV} (h : cmpX ox = some (.c v)) (o : Nat → Nat → Owner) (γ : Gh) (w : World) : RelT γ w o v (a.eval ox) ∧ v.isV = true := by
  cases ox with
  | tmp t => simp [cmpX] at h
  | const c =>
    simp only [cmpX, Option.map_eq_some_iff] at h
    obtain ⟨x, h1, h2⟩ := h
    cases h2
    obtain ⟨h3, h4⟩ := cmpV_rel (γ := γ) (w := w) h1 (o 0)
    exact ⟨RelC.t h4 h3, h4⟩
  | func f =>
    simp only [cmpX] at h
    cases h
    exact ⟨Rel.t (.fn f [] #[] rfl (by simp)), rfl⟩
  | global g => simp [cmpX] at h
theorem ev_rel (h : SR γ s a w) {ox : Operand} {x : X} (hx : cmpX ox = some x) {v : AV} (hv : s.view.ev x = some v) : RelT γ w (labX x) v (a.eval ox) := by
  cases x with
  | t n =>
    have : ox = .tmp n := by
      cases ox with
      | tmp t => simp [cmpX] at hx; rw [hx]
      | const c => simp [cmpX] at hx
      | func f => simp [cmpX] at hx
      | global g => simp [cmpX] at hx
    subst this
    exact h.tm n v hv
  | c u =>
    cases hv
    exact (cmpX_const hx _ γ w).1
theorem cp_rel (h : SR γ s a w) {ox : Operand} {x : X} (hx : cmpX ox = some x) {v : AV} (hv : s.view.cp x = some v) (o : Nat → Nat → Owner) : RelT γ w o v (a.eval ox) := by
  simp only [View.cp, Option.map_eq_some_iff] at hv
  obtain ⟨u, h1, rfl⟩ := hv
  exact (ev_rel h hx h1).dg
theorem val_rel (h : SR γ s a w) {ox : Operand} {x : X} (hx : cmpX ox = some x) {v : AV} (hv : s.view.val x = some v) : Rel γ w v (a.eval ox) := by
  simp only [View.val] at hv
  split at hv
  · rename_i u h1
    exact ((ev_rel h hx h1).val hv).2
  · cases hv
/-- A copy that is no view and no address of the frame's. -/
theorem cp_val (h : SR γ s a w) {ox : Operand} {x : X} (hx : cmpX ox = some x) {v : AV} (hv : s.view.cp x = some v) (hi : v.isV = true) : Rel γ w v (a.eval ox) := by
  simp only [View.cp, Option.map_eq_some_iff] at hv
  obtain ⟨u, h1, rfl⟩ := hv
  exact ((ev_rel h hx h1).val (by simp [AV.chk, hi])).2
theorem valAll_rel (h : SR γ s a w) : ∀ {oxs : List Operand} {xs : List X}, cmpXs oxs = some xs → ∀ {vs : List AV}, valAll s.view xs = some vs →
    vs.length = oxs.length ∧ ∀ (i : Nat) (v : AV) (o : Operand), vs[i]? = some v → oxs[i]? = some o → Rel γ w v (a.eval o)
  | [], xs, hx, vs, hv => by
    simp [cmpXs] at hx
    subst hx
    simp [valAll] at hv
    subst hv
    simp
  | ox :: oxs, xs, hx, vs, hv => by
    simp only [cmpXs] at hx
    split at hx
    · rename_i y ys h1 h2
      cases hx
      simp only [valAll] at hv
      split at hv
      · rename_i u us h3 h4
        cases hv
        obtain ⟨h5, h6⟩ := valAll_rel h h2 h4
        refine ⟨by simp [h5], fun i v o hv ho => ?_⟩
        cases i with
        | zero => simp at hv ho; subst hv ho; exact val_rel h h1 h3
        | succ i => exact h6 i v o (by simpa using hv) (by simpa using ho)
      · cases hv
    · cases hx

/-! ### 9. One operation -/
def OpOK (P : Program) (γ : Gh) (s : AS) (o : Oper) (e : Eff) (a : Act) (w : World) : Prop :=
  ∃ a1 w1 γ1, (∀ K Q, K a1 w1 → o.wp P a w K Q) ∧ Ext γ w γ1 w1 ∧ SR γ1 (s.apply o.dst e) a1 w1 ∧ a1.tmps.size = a.tmps.size
theorem size_put (a : Act) (d : Option Nat) (c : Value) : (a.put d c).tmps.size = a.tmps.size := by cases d <;> simp [Act.put]
theorem run_v {m : Sem Value} {c : Value} {w1 : World} (h : m.run P w = .ok c w1) : Sem.run P (do pure (Next.value (← m))) w = .ok (.value c) w1 := by
  simp [Sem.run_bind, h]
theorem run_u {m : Sem Unit} {w1 : World} (h : m.run P w = .ok () w1) : Sem.run P (do m; pure Next.skip) w = .ok .skip w1 := by
  simp [Sem.run_bind, h]
theorem OpOK.value {o : Oper} {e : Eff} {c : Value} {w1 : World} (hr : (execOp a.eval o).run P w = .ok (.value c) w1) (g : Ext γ w γ' w1) (k : SR γ' (s.apply o.dst e) (a.put o.dst c) w1) : OpOK P γ s o e a w :=
  ⟨a.put o.dst c, w1, γ', fun K Q hK => by unfold Oper.wp; rw [hr]; exact hK, g, k, size_put a _ c⟩
theorem OpOK.skip {o : Oper} {e : Eff} {w1 : World} (hr : (execOp a.eval o).run P w = .ok .skip w1) (g : Ext γ w γ' w1) (k : SR γ' (s.apply o.dst e) (a.put o.dst undef) w1) : OpOK P γ s o e a w :=
  ⟨a.put o.dst undef, w1, γ', fun K Q hK => by unfold Oper.wp; rw [hr]; exact hK, g, k, size_put a _ _⟩
/-- A value alone. -/
theorem OpOK.pure {o : Oper} (hd : ∀ t, o.dst = some t → t < a.tmps.size) (k : SR γ s a w) {v : AV} {c : Value} {w1 : World} (hr : (execOp a.eval o).run P w = .ok (.value c) w1) (g : Grew γ w γ' w1)
    (hv : RelT γ' w1 (labd o.dst) v c) (ho : okd s.dep o.dst v = true) : OpOK P γ s o { v := v } a w :=
  OpOK.value hr g.ext ((k.grew g).setd o.dst v c hd hv ho)
/-- A value that may stand in a cell. -/
theorem okd_val {dep : List (Nat × List Nat)} {d : Option Nat} {v : AV} {c : Value} (h : Rel γ w v c) : okd dep d v = true := by
  cases h <;> rfl
theorem okd_t {dep : List (Nat × List Nat)} {d : Option Nat} {v : AV} (h : v.isV = true) : okd dep d v = true := by
  cases v <;> first | rfl | (cases h; done)
theorem okv_some {dep : List (Nat × List Nat)} {d : Option Nat} {v u : AV} (h : okv dep d v = some u) : u = v ∧ okd dep d v = true := by
  unfold okv at h
  split at h
  · rename_i h1; cases h; exact ⟨rfl, h1⟩
  · cases h
theorem pure_val {o : Oper} (hd : ∀ t, o.dst = some t → t < a.tmps.size) (k : SR γ s a w) {v : AV} {c : Value} (hr : (execOp a.eval o).run P w = .ok (.value c) w) (hv : Rel γ w v c) : OpOK P γ s o { v := v } a w :=
  OpOK.pure hd k hr (Grew.refl k.fresh) hv.t (okd_val hv)
end
end Go.Am

set_option linter.unusedSimpArgs false
set_option linter.unusedVariables false
open Go.RowKit
namespace Go.Am
section
variable {P : Program} {γ γ' : Gh} {s : AS} {a : Act} {w w' : World} {o : Oper}

theorem isV_dg {v : AV} (h : v.isV = true) : v.dg.isV = true := by
  cases v <;> first | rfl | (cases h; done)
/-- How an operand that is an address reads. -/
theorem ev_ptr (h : SR γ s a w) {ox : Operand} {x : X} (hx : cmpX ox = some x) {v : AV} (hv : s.view.ev x = some v) :
    (∀ id p, v = .hptr id p → id < γ.nh ∧ a.eval ox = .pointer (some ⟨γ.blk id, p, none⟩)) ∧ (∀ b p, v = .lptr b p → a.eval ox = .pointer (some ⟨γ.bxb b, p, none⟩)) ∧
    (∀ e p, v = .fptr e p → ∃ b q, a.eval ox = .pointer (some ⟨b, q + p, none⟩) ∧ ∃ vs : Nat → Value, ∀ (j : Nat) (c : AV), e.cells[j]? = some c → w.cell? ⟨b, q + j, none⟩ = some (vs j) ∧ γ.own b (q + j) = .claim ∧ Rel γ w c (vs j) ∧ c.one = true) := by
  have hr := ev_rel h hx hv
  refine ⟨?_, ?_, ?_⟩
  · rintro id p rfl
    have : Rel γ w (.hptr id p) (a.eval ox) := hr
    generalize a.eval ox = q at this ⊢
    cases this with
    | hptr _ _ h => exact ⟨h, rfl⟩
  · rintro b p rfl
    exact hr
  · rintro e p rfl
    have : Rel γ w (.fptr e p) (a.eval ox) := hr
    generalize a.eval ox = q at this ⊢
    cases this with
    | fptr _ _ b o vs hc hv h1 => exact ⟨b, o, rfl, vs, fun j c hj => ⟨(hc j c hj).1, (hc j c hj).2, hv j c hj, h1 j c hj⟩⟩
theorem ev_int (h : SR γ s a w) {ox : Operand} {x : X} (hx : cmpX ox = some x) {k : IntKind} {n : Int} (hv : s.view.ev x = some (.int k n)) : a.eval ox = .int k n := by
  have : Rel γ w (.int k n) (a.eval ox) := ev_rel h hx hv
  generalize a.eval ox = q at this ⊢
  cases this; rfl
theorem ev_bool (h : SR γ s a w) {ox : Operand} {x : X} (hx : cmpX ox = some x) {b : Bool} (hv : s.view.ev x = some (.bool b)) : a.eval ox = .bool b := by
  have : Rel γ w (.bool b) (a.eval ox) := ev_rel h hx hv
  generalize a.eval ox = q at this ⊢
  cases this; rfl
theorem ev_str (h : SR γ s a w) {ox : Operand} {x : X} (hx : cmpX ox = some x) {b : ByteArray} (hv : s.view.ev x = some (.str b)) : a.eval ox = .string b := by
  have : Rel γ w (.str b) (a.eval ox) := ev_rel h hx hv
  generalize a.eval ox = q at this ⊢
  cases this; rfl

theorem s_move {ox : Operand} {x : X} (hop : o.op = .move ox ∨ o.op = .assign ox) (hx : cmpX ox = some x) (hd : ∀ t, o.dst = some t → t < a.tmps.size) (k : SR γ s a w) {v : AV} (hv : pop o.dst (.mv x false) s.view = some v) :
    OpOK P γ s o { v := v } a w := by
  simp only [pop] at hv
  split at hv
  · rename_i u h1
    obtain ⟨rfl, h2⟩ := okv_some hv
    refine OpOK.pure (c := a.eval ox) hd k ?_ (Grew.refl k.fresh) (cp_rel k hx h1 _) h2
    rcases hop with hop | hop <;> simp [execOp, hop]
  · cases hv
theorem s_pick {oc ox oy : Operand} {c x y : X} (hop : o.op = .pick oc ox oy) (hc : cmpX oc = some c) (hx : cmpX ox = some x) (hy : cmpX oy = some y) (hd : ∀ t, o.dst = some t → t < a.tmps.size) (k : SR γ s a w) {v : AV}
    (hv : pop o.dst (.pick c x y) s.view = some v) : OpOK P γ s o { v := v } a w := by
  simp only [pop] at hv
  split at hv
  · rename_i h1
    have hb := ev_bool k hc h1
    have hr : (execOp a.eval o).run P w = .ok (.value (a.eval ox)) w := by
      simp [execOp, hop, hb, asBool, Sem.run_bind]
    exact pure_val hd k hr (val_rel k hx hv)
  · rename_i h1
    have hb := ev_bool k hc h1
    have hr : (execOp a.eval o).run P w = .ok (.value (a.eval oy)) w := by
      simp [execOp, hop, hb, asBool, Sem.run_bind]
    exact pure_val hd k hr (val_rel k hy hv)
  · cases hv
theorem s_nilchk {ox : Operand} {x : X} (hop : o.op = .nilCheck ox) (hx : cmpX ox = some x) (hd : ∀ t, o.dst = some t → t < a.tmps.size) (k : SR γ s a w) {v : AV} (hv : pop o.dst (.nilchk x) s.view = some v) :
    OpOK P γ s o { v := v } a w := by
  simp only [pop] at hv
  split at hv
  · rename_i u h1
    have hr := cp_rel k hx h1 (labd o.dst)
    split at hv
    all_goals first | (cases hv; done) | skip
    all_goals
      obtain ⟨rfl, h2⟩ := okv_some hv
      refine OpOK.pure (c := a.eval ox) hd k ?_ (Grew.refl k.fresh) hr h2
    · have : Rel γ w _ (a.eval ox) := hr
      simp only [execOp, hop]
      generalize a.eval ox = q at this ⊢
      cases this; rfl
    · have hr : a.eval ox = _ := hr
      simp only [execOp, hop, hr]
      rfl
    · have : Rel γ w _ (a.eval ox) := hr
      simp only [execOp, hop]
      generalize a.eval ox = q at this ⊢
      cases this; rfl
    · have : Rel γ w _ (a.eval ox) := hr
      simp only [execOp, hop]
      generalize a.eval ox = q at this ⊢
      cases this; rfl
    · have : Rel γ w _ (a.eval ox) := hr
      simp only [execOp, hop]
      generalize a.eval ox = q at this ⊢
      cases this; rfl
  · cases hv
theorem s_un {ox : Operand} {x : X} {op : UnOp} {t : TypeId} (hop : o.op = .unOp op t ox) (hx : cmpX ox = some x) (hd : ∀ t, o.dst = some t → t < a.tmps.size) (k : SR γ s a w) {v : AV} (hv : pop o.dst (.un op x) s.view = some v) :
    OpOK P γ s o { v := v } a w := by
  simp only [pop] at hv
  split at hv
  · rename_i u h1
    cases u with
    | int kd n =>
      have he := ev_int k hx h1
      cases op <;> simp only [aun] at hv <;> cases hv
      exact pure_val (c := .int kd (kd.wrap (0 - n))) hd k (by simp [execOp, hop, he, Op.unary, Op.intArith]) (.int _ _)
    | bool b =>
      have he := ev_bool k hx h1
      cases op <;> simp only [aun] at hv <;> cases hv
      exact pure_val (c := .bool (!b)) hd k (by simp [execOp, hop, he, Op.unary]) (.bool _)
    | _ => simp [aun] at hv
  · cases hv
theorem s_conv {ox : Operand} {x : X} {S D : TypeId} {k1 k2 : IntKind} (hop : o.op = .convert S D ox) (hs : P.underlying S = some (.int k1)) (hD : P.underlying D = some (.int k2)) (hx : cmpX ox = some x)
    (hd : ∀ t, o.dst = some t → t < a.tmps.size) (k : SR γ s a w) {v : AV} (hv : pop o.dst (.conv k2 x) s.view = some v) : OpOK P γ s o { v := v } a w := by
  simp only [pop] at hv
  split at hv
  · rename_i kd n h1
    cases hv
    have he := ev_int k hx h1
    exact pure_val (c := .int k2 (k2.wrap n)) hd k (by simp [execOp, hop, he, convert, run_underlying hs, run_underlying hD, Sem.run_bind, Conv.intToInt]) (.int _ _)
  · cases hv
theorem s_mkif {ox : Operand} {x : X} {t : TypeId} {d : TypeDesc} (hop : o.op = .makeInterface t ox) (ht : P.underlying t = some d) (hni : ∀ m, d ≠ .interface m) (hx : cmpX ox = some x) (hd : ∀ t, o.dst = some t → t < a.tmps.size) (k : SR γ s a w)
    {v : AV} (hv : pop o.dst (.mkif t x) s.view = some v) : OpOK P γ s o { v := v } a w := by
  simp only [pop] at hv
  split at hv
  · rename_i u h1
    cases hv
    have hr := val_rel k hx h1
    refine pure_val (c := .iface t (a.eval ox)) hd k ?_ (.iface t _ _ hr)
    cases d <;> simp [execOp, hop, Instr.makeInterface, run_underlying ht, Sem.run_bind]
    exact absurd rfl (hni _)
  · cases hv
theorem s_mkfn {ocs : Array Operand} {cs : List X} {f : FuncId} {first : Array Operand} (hop : o.op = .makeFunc (.func f) first ocs) (h0 : first.size = 0) (hx : cmpXs ocs.toList = some cs) (hd : ∀ t, o.dst = some t → t < a.tmps.size) (k : SR γ s a w)
    {v : AV} (hv : pop o.dst (.mkfn f cs) s.view = some v) : OpOK P γ s o { v := v } a w := by
  simp only [pop] at hv
  split at hv
  · rename_i us h1
    cases hv
    obtain ⟨h2, h3⟩ := valAll_rel k hx h1
    have hf : first = #[] := Array.eq_empty_of_size_eq_zero h0
    subst hf
    refine pure_val (c := .func (.func f) #[] (ocs.map a.eval)) hd k (by simp [execOp, hop, Instr.makeFunc]) (.fn f us _ (by simp [h2]) (fun j c v hc hv => ?_))
    simp only [Array.getElem?_map, Option.map_eq_some_iff] at hv
    obtain ⟨ox, h4, rfl⟩ := hv
    exact h3 j c ox hc (by simpa using h4)
  · cases hv
theorem s_faddr {ox : Operand} {x : X} {t : TypeId} {f : Nat} {fd : Field} {n : Nat} (hop : o.op = .fieldAddr t ox f) (hf : fdT P t f = some fd) (hn : szT P fd.type = some (n + 1)) (hx : cmpX ox = some x) (hd : ∀ t, o.dst = some t → t < a.tmps.size) (k : SR γ s a w)
    {v : AV} (hv : pop o.dst (.faddr x fd.offset) s.view = some v) : OpOK P γ s o { v := v } a w := by
  obtain ⟨fs, hu, hfs⟩ : ∃ fs, P.underlying t = some (.struct fs) ∧ fs[f]? = some fd := by
    unfold fdT at hf
    split at hf
    · exact ⟨_, by assumption, hf⟩
    · cases hf
  have hsz : ∀ w : World, (sizeOf fd.type).run P w = .ok (n + 1) w := by
    intro w
    unfold szT at hn
    cases hi : P.info? fd.type with
    | none => simp [hi] at hn
    | some i =>
      simp [hi] at hn
      simp [sizeOf, typeInfo, hi, Sem.run_bind, hn]
  have hadd : ∀ b p off : Nat, (⟨b, p, none⟩ : Addr).add off = ⟨b, p + off, none⟩ := by
    intro b p off
    unfold Addr.add
    split <;> simp_all
  have hrun : ∀ b p, a.eval ox = .pointer (some ⟨b, p, none⟩) → (execOp a.eval o).run P w = .ok (.value (.pointer (some ⟨b, p + fd.offset, none⟩))) w := by
    intro b p he
    simp [execOp, hop, he, Instr.fieldAt, run_underlying hu, Sem.run_bind, hfs, Instr.sureAddr, fieldPlace, hsz, hadd]
  obtain ⟨p1, p2, p3⟩ : (∀ id p, s.view.ev x = some (.hptr id p) → id < γ.nh ∧ a.eval ox = .pointer (some ⟨γ.blk id, p, none⟩)) ∧ (∀ b p, s.view.ev x = some (.lptr b p) → a.eval ox = .pointer (some ⟨γ.bxb b, p, none⟩)) ∧
      (∀ e p, s.view.ev x = some (.fptr e p) → ∃ b q, a.eval ox = .pointer (some ⟨b, q + p, none⟩) ∧ ∃ vs : Nat → Value, ∀ (j : Nat) (c : AV), e.cells[j]? = some c → w.cell? ⟨b, q + j, none⟩ = some (vs j) ∧ γ.own b (q + j) = .claim ∧ Rel γ w c (vs j) ∧ c.one = true) :=
    ⟨fun id p h => (ev_ptr k hx h).1 id p rfl, fun b p h => (ev_ptr k hx h).2.1 b p rfl, fun e p h => (ev_ptr k hx h).2.2 e p rfl⟩
  simp only [pop] at hv
  split at hv
  · rename_i id p h1
    cases hv
    obtain ⟨h2, h3⟩ := p1 id p h1
    exact pure_val hd k (hrun _ _ h3) (.hptr id _ h2)
  · rename_i b p h1
    obtain ⟨rfl, h2⟩ := okv_some hv
    exact OpOK.pure hd k (hrun _ _ (p2 b p h1)) (Grew.refl k.fresh) rfl h2
  · rename_i e p h1
    cases hv
    obtain ⟨b, q, h2, vs, h3⟩ := p3 e p h1
    refine pure_val hd k (hrun _ _ h2) ?_
    rw [Nat.add_assoc]
    exact .fptr e _ b q vs (fun j c hj => ⟨(h3 j c hj).1, (h3 j c hj).2.1⟩) (fun j c hj => (h3 j c hj).2.2.1) (fun j c hj => (h3 j c hj).2.2.2)
  · cases hv
end
end Go.Am

set_option linter.unusedSimpArgs false
set_option linter.unusedVariables false
open Go.RowKit
namespace Go.Am
section
variable {P : Program} {γ γ' : Gh} {s : AS} {a : Act} {w w' : World} {o : Oper}

theorem run_sz {t : TypeId} {n : Nat} (h : szT P t = some n) (w : World) : (sizeOf t).run P w = .ok n w := by
  unfold szT at h
  cases hi : P.info? t with
  | none => simp [hi] at h
  | some i =>
    simp [hi] at h
    simp [sizeOf, typeInfo, hi, Sem.run_bind, h]
theorem run_isAgg {t : TypeId} {b : Bool} (h : agT P t = some b) (w : World) : (isAgg t).run P w = .ok b w := by
  unfold agT at h
  cases hu : P.underlying t with
  | none => simp [hu] at h
  | some d =>
    rw [hu] at h
    cases d <;> simp at h <;> subst h <;> simp [isAgg, run_underlying hu, Sem.run_bind]
theorem Rel.int_ {k : IntKind} {n : Int} {c : Value} (h : Rel γ w (.int k n) c) : c = .int k n := by cases h; rfl
theorem Rel.bool_ {b : Bool} {c : Value} (h : Rel γ w (.bool b) c) : c = .bool b := by cases h; rfl
theorem Rel.str_ {b : ByteArray} {c : Value} (h : Rel γ w (.str b) c) : c = .string b := by cases h; rfl
theorem Rel.nilif_ {c : Value} (h : Rel γ w .nilif c) : c = .nilIface := by cases h; rfl
theorem Rel.nilptr_ {c : Value} (h : Rel γ w .nilptr c) : c = .pointer none := by cases h; rfl
theorem Rel.nsl_ {c : Value} (h : Rel γ w .nsl c) : c = .slice none 0 0 := by cases h; rfl
theorem Rel.nilfn_ {c : Value} (h : Rel γ w .nilfn c) : c = .nilFunc := by cases h; rfl
theorem Rel.iface_ {t : TypeId} {u : AV} {c : Value} (h : Rel γ w (.iface t u) c) : ∃ q, c = .iface t q ∧ Rel γ w u q := by
  cases h with
  | iface _ _ q h => exact ⟨q, rfl, h⟩
theorem Rel.agg_ {cs : List AV} {c : Value} (h : Rel γ w (.agg cs) c) : ∃ arr : Array Value, c = .agg arr ∧ arr.size = cs.length ∧ (∀ (j : Nat) (x : AV) (y : Value), cs[j]? = some x → arr[j]? = some y → Rel γ w x y) ∧ (∀ (j : Nat) (x : AV), cs[j]? = some x → x.one = true) := by
  cases h with
  | agg _ arr h1 h2 h3 => exact ⟨arr, rfl, h1, h2, h3⟩
theorem Rel.fn_ {f : FuncId} {cs : List AV} {c : Value} (h : Rel γ w (.fn f cs) c) : ∃ arr : Array Value, c = .func (.func f) #[] arr ∧ arr.size = cs.length ∧ (∀ (j : Nat) (x : AV) (y : Value), cs[j]? = some x → arr[j]? = some y → Rel γ w x y) := by
  cases h with
  | fn _ _ arr h1 h2 => exact ⟨arr, rfl, h1, h2⟩
theorem Rel.hptr_ {id p : Nat} {c : Value} (h : Rel γ w (.hptr id p) c) : id < γ.nh ∧ c = .pointer (some ⟨γ.blk id, p, none⟩) := by
  cases h with
  | hptr _ _ h => exact ⟨h, rfl⟩
theorem Rel.fptr_ {e : AV} {p : Nat} {c : Value} (h : Rel γ w (.fptr e p) c) : ∃ b q, c = .pointer (some ⟨b, q + p, none⟩) ∧ ∃ vs : Nat → Value, ∀ (j : Nat) (x : AV), e.cells[j]? = some x → w.cell? ⟨b, q + j, none⟩ = some (vs j) ∧ γ.own b (q + j) = .claim ∧ Rel γ w x (vs j) ∧ x.one = true := by
  cases h with
  | fptr _ _ b o vs hc hv h1 => exact ⟨b, o, rfl, vs, fun j c hj => ⟨(hc j c hj).1, (hc j c hj).2, hv j c hj, h1 j c hj⟩⟩
theorem Rel.slv {sz : Nat} {l : List AV} {c : Value} (h : Rel γ w (.sl sz l) c) : ∃ ad cap, c = .slice ad l.length cap ∧ l.length ≤ cap ∧ l.length ≤ 281474976710656 ∧ (ad = none → cap = 0) ∧ (∀ (i : Nat) (e : AV), l[i]? = some e → e.cells.length = sz) ∧
    (l ≠ [] → ∃ b q, ad = some ⟨b, q, none⟩ ∧ ∃ vs : Nat → Nat → Value, ∀ (i : Nat) (e : AV) (j : Nat) (x : AV), l[i]? = some e → e.cells[j]? = some x → w.cell? ⟨b, q + i * sz + j, none⟩ = some (vs i j) ∧ γ.own b (q + i * sz + j) = .claim ∧ Rel γ w x (vs i j) ∧ x.one = true) := by
  cases h with
  | sl _ _ ad cap vs hz ha hn hv h1 hl hm =>
    refine ⟨ad, cap, rfl, hl, hm, hn, hz, fun hne => ?_⟩
    obtain ⟨b, q, e, hc⟩ := ha hne
    exact ⟨b, q, e, vs, fun i el j x hi hj => ⟨(hc i el j x hi hj).1, (hc i el j x hi hj).2, hv i el j x hi hj, h1 i el j x hi hj⟩⟩
theorem Rel.hslv {id sz lo len : Nat} {c : Value} (h : Rel γ w (.hsl id sz lo len) c) : ∃ cap arr ty, c = .slice (some ⟨γ.blk id, lo * sz, none⟩) len cap ∧ id < γ.nh ∧ w.heap[γ.blk id]? = some (.cells arr ty (0, 0)) ∧ (lo + cap) * sz ≤ arr.size ∧ len ≤ cap ∧ len ≤ 281474976710656 := by
  cases h with
  | hsl _ _ _ _ cap arr ty h hb hc hl hm => exact ⟨cap, arr, ty, rfl, h, hb, hc, hl, hm⟩

theorem btT_spec {t : TypeId} {oy : Operand} {ty : BT} (h : btT P t oy = some ty) : match ty with
    | .bool => P.underlying t = some .bool
    | .ifnil => (∃ ms, P.underlying t = some (.interface ms)) ∧ oy = .const .nilIface
    | .ptr => ∃ e, P.underlying t = some (.pointer e)
    | .slnil => (∃ e, P.underlying t = some (.slice e)) ∧ oy = .const (.slice none 0 0)
    | .fn => ∃ p r v, P.underlying t = some (.func p r v)
    | _ => True := by
  unfold btT at h
  split at h
  · cases h; trivial
  · cases h; trivial
  · cases h; assumption
  · split at h
    · cases h; exact ⟨⟨_, by assumption⟩, rfl⟩
    · cases h
  · cases h; exact ⟨_, by assumption⟩
  · split at h
    · cases h; exact ⟨⟨_, by assumption⟩, rfl⟩
    · cases h
  · cases h; exact ⟨_, _, _, by assumption⟩
  · cases h
theorem eq_run {op : BinOp} {t : TypeId} {ox oy : Operand} {c c' : Value} {b : Bool} (he : (Op.equal t c c').run P w = .ok b w) (hg : (eqGuard op t ox oy c c').run P w = .ok () w) (hop : op = .eql ∨ op = .neq)
    (h1 : binOp .eql t c c' = (do pure (.bool (← Op.equal t c c')))) (h2 : binOp .neq t c c' = (do pure (.bool (!(← Op.equal t c c'))))) :
    (do eqGuard op t ox oy c c'; binOp op t c c' : Sem Value).run P w = .ok (.bool (if op = .eql then b else !b)) w := by
  rcases hop with rfl | rfl
  · simp only [Sem.run_bind, hg, Result.andThen_ok, h1, he]
    rfl
  · simp only [Sem.run_bind, hg, Result.andThen_ok, h2, he]
    rfl
theorem run_equal {t : TypeId} {c c' : Value} {b : Bool} (h : ∀ d, (Op.equalIn (d + 1) t c c').run P w = .ok b w) : (Op.equal t c c').run P w = .ok b w := h 9999
/-- '==' of what is neither two numbers nor two texts. -/
theorem eqA_run {op : BinOp} {t : TypeId} {ox oy : Operand} {ty : BT} (ht : btT P t oy = some ty) {u u' : AV} {b : Bool} (h : eqA ty u u' = some b) (hop : op = .eql ∨ op = .neq) {lb : Nat → Nat → Owner} (h1 : RelT γ w (fun _ _ => .dead) u (a.eval ox)) (h2 : RelT γ w lb u' (a.eval oy)) :
    (do eqGuard op t ox oy (a.eval ox) (a.eval oy); binOp op t (a.eval ox) (a.eval oy) : Sem Value).run P w = .ok (.bool (if op = .eql then b else !b)) w := by
  have hs := btT_spec ht
  unfold eqA at h
  split at h <;> cases h
  · rw [Rel.bool_ (show Rel γ w (.bool _) (a.eval ox) from h1), Rel.bool_ (show Rel γ w (.bool _) (a.eval oy) from h2)]
    refine eq_run ?_ ?_ hop rfl rfl
    · exact run_equal fun d => by simp [Op.equalIn, run_underlying hs, Sem.run_bind]
    · unfold eqGuard; split <;> simp
  · obtain ⟨⟨ms, hu⟩, rfl⟩ := hs
    rw [Rel.nilif_ (show Rel γ w .nilif (a.eval ox) from h1)]
    refine eq_run ?_ ?_ hop rfl rfl
    · exact run_equal fun d => by simp [Op.equalIn, run_underlying hu, Sem.run_bind, Act.eval]
    · unfold eqGuard; split <;> simp [Act.eval]
  · obtain ⟨⟨ms, hu⟩, rfl⟩ := hs
    obtain ⟨q, e, _⟩ := Rel.iface_ (show Rel γ w (.iface _ _) (a.eval ox) from h1)
    rw [e]
    refine eq_run ?_ ?_ hop rfl rfl
    · exact run_equal fun d => by simp [Op.equalIn, run_underlying hu, Sem.run_bind, Act.eval]
    · unfold eqGuard; split <;> simp [Act.eval]
  · obtain ⟨e, hu⟩ := hs
    rw [Rel.nilptr_ (show Rel γ w .nilptr (a.eval ox) from h1), Rel.nilptr_ (show Rel γ w .nilptr (a.eval oy) from h2)]
    refine eq_run ?_ ?_ hop rfl rfl
    · exact run_equal fun d => by simp [Op.equalIn, run_underlying hu, Sem.run_bind]
    · unfold eqGuard; split <;> simp
  · obtain ⟨e, hu⟩ := hs
    rw [(Rel.hptr_ (show Rel γ w (.hptr _ _) (a.eval ox) from h1)).2, Rel.nilptr_ (show Rel γ w .nilptr (a.eval oy) from h2)]
    refine eq_run ?_ ?_ hop rfl rfl
    · exact run_equal fun d => by simp [Op.equalIn, run_underlying hu, Sem.run_bind]
    · unfold eqGuard; split <;> simp
  · obtain ⟨e, hu⟩ := hs
    rw [show a.eval ox = _ from h1, Rel.nilptr_ (show Rel γ w .nilptr (a.eval oy) from h2)]
    refine eq_run ?_ ?_ hop rfl rfl
    · exact run_equal fun d => by simp [Op.equalIn, run_underlying hu, Sem.run_bind]
    · unfold eqGuard; split <;> simp
  · obtain ⟨e, hu⟩ := hs
    obtain ⟨bb, q, e', _⟩ := Rel.fptr_ (show Rel γ w (.fptr _ _) (a.eval ox) from h1)
    rw [e', Rel.nilptr_ (show Rel γ w .nilptr (a.eval oy) from h2)]
    refine eq_run ?_ ?_ hop rfl rfl
    · exact run_equal fun d => by simp [Op.equalIn, run_underlying hu, Sem.run_bind]
    · unfold eqGuard; split <;> simp
  · obtain ⟨p, r, v, hu⟩ := hs
    rw [Rel.nilfn_ (show Rel γ w .nilfn (a.eval ox) from h1), Rel.nilfn_ (show Rel γ w .nilfn (a.eval oy) from h2)]
    refine eq_run ?_ ?_ hop rfl rfl
    · exact run_equal fun d => by simp [Op.equalIn, run_underlying hu, Sem.run_bind]
    · unfold eqGuard; split <;> simp
  · obtain ⟨p, r, v, hu⟩ := hs
    obtain ⟨arr, e, _⟩ := Rel.fn_ (show Rel γ w (.fn _ _) (a.eval ox) from h1)
    rw [e, Rel.nilfn_ (show Rel γ w .nilfn (a.eval oy) from h2)]
    refine eq_run ?_ ?_ hop rfl rfl
    · exact run_equal fun d => by simp [Op.equalIn, run_underlying hu, Sem.run_bind]
    · unfold eqGuard; split <;> simp
  · obtain ⟨⟨e, hu⟩, rfl⟩ := hs
    rw [Rel.nsl_ (show Rel γ w .nsl (a.eval ox) from h1)]
    refine eq_run ?_ ?_ hop rfl rfl
    · exact run_equal fun d => by simp [Op.equalIn, run_underlying hu, Sem.run_bind, Act.eval]
    · unfold eqGuard; split <;> simp [Act.eval]
  · obtain ⟨⟨e, hu⟩, rfl⟩ := hs
    obtain ⟨ad, cap, e1, _, _, _, _, h6⟩ := Rel.slv (show Rel γ w (.sl _ _) (a.eval ox) from h1)
    obtain ⟨bb, q, rfl, _⟩ := h6 (by simp)
    rw [e1]
    refine eq_run ?_ ?_ hop rfl rfl
    · exact run_equal fun d => by simp [Op.equalIn, run_underlying hu, Sem.run_bind, Act.eval]
    · unfold eqGuard; split <;> simp [Act.eval]
  · obtain ⟨⟨e, hu⟩, rfl⟩ := hs
    obtain ⟨cap, arr, ty, e1, _⟩ := Rel.hslv (show Rel γ w (.hsl _ _ _ _) (a.eval ox) from h1)
    rw [e1]
    refine eq_run ?_ ?_ hop rfl rfl
    · exact run_equal fun d => by simp [Op.equalIn, run_underlying hu, Sem.run_bind, Act.eval]
    · unfold eqGuard; split <;> simp [Act.eval]
theorem fin_eq {op : BinOp} {v : AV} {q : Option Bool} (hq : (match op, q with
      | .eql, some b => some (AV.bool b)
      | .neq, some b => some (.bool (!b))
      | _, _ => none) = some v) : ∃ b, q = some b ∧ (op = .eql ∨ op = .neq) ∧ v = .bool (if op = .eql then b else !b) := by
  split at hq
  · cases hq; exact ⟨_, rfl, .inl rfl, rfl⟩
  · cases hq; exact ⟨_, rfl, .inr rfl, rfl⟩
  · cases hq
theorem s_bin {ox oy : Operand} {x y : X} {op : BinOp} {t t' : TypeId} {ty : BT} (hop : o.op = .binOp op t ox oy t') (hx : cmpX ox = some x) (hy : cmpX oy = some y) (ht : btT P t oy = some ty) (hd : ∀ t, o.dst = some t → t < a.tmps.size) (k : SR γ s a w)
    {v : AV} (hv : pop o.dst (.bin ty op x y) s.view = some v) : OpOK P γ s o { v := v } a w := by
  simp only [pop] at hv
  split at hv
  case h_2 => cases hv
  rename_i u u' h1 h2
  have r1 := cp_rel k hx h1 (fun _ _ => .dead)
  have r2 := ev_rel k hy h2
  have rest : (∃ b, eqA ty u u' = some b ∧ (op = .eql ∨ op = .neq) ∧ v = .bool (if op = .eql then b else !b)) → OpOK P γ s o { v := v } a w := by
    rintro ⟨b, hb, hop2, rfl⟩
    refine pure_val (c := .bool (if op = .eql then b else !b)) hd k ?_ (.bool _)
    simp only [execOp, hop]
    exact run_v (eqA_run ht hb hop2 r1 r2)
  cases u <;> cases u' <;> try (simp only [abin] at hv)
  case int.int k1 m k2 n =>
    clear rest
    have e1 := Rel.int_ (show Rel γ w (.int k1 m) (a.eval ox) from r1)
    have e2 := Rel.int_ (show Rel γ w (.int k2 n) (a.eval oy) from r2)
    have key : ∀ c, (∃ kk nn, v = .int kk nn ∧ c = Value.int kk nn) ∨ (∃ b, v = .bool b ∧ c = Value.bool b) → (binOp op t (.int k1 m) (.int k2 n)).run P w = .ok c w → OpOK P γ s o { v := v } a w := by
      intro c hc hr
      refine pure_val (c := c) hd k ?_ ?_
      · have hg : (eqGuard op t ox oy (.int k1 m) (.int k2 n)).run P w = .ok () w := by
          unfold eqGuard
          split <;> simp
        simp only [execOp, hop, e1, e2]
        exact run_v (by simp [Sem.run_bind, hg, hr])
      · rcases hc with ⟨kk, nn, rfl, rfl⟩ | ⟨b, rfl, rfl⟩
        · exact .int _ _
        · exact .bool _
    cases op
    case shl =>
      simp only at hv
      split at hv
      · cases hv
      · rename_i hn
        cases hv
        exact key _ (.inl ⟨_, _, rfl, rfl⟩) (by simp [binOp, Op.shift, hn])
    case shr =>
      simp only at hv
      split at hv
      · cases hv
      · rename_i hn
        cases hv
        exact key _ (.inl ⟨_, _, rfl, rfl⟩) (by simp [binOp, Op.shift, hn])
    all_goals
      simp only at hv
      split at hv
      case isFalse => cases hv
      rename_i hk
      subst hk
    case quo =>
      split at hv
      · cases hv
      · rename_i hn
        cases hv
        exact key _ (.inl ⟨_, _, rfl, rfl⟩) (by simp [binOp, Op.intDiv, hn])
    case rem =>
      split at hv
      · cases hv
      · rename_i hn
        cases hv
        exact key _ (.inl ⟨_, _, rfl, rfl⟩) (by simp [binOp, Op.intDiv, hn])
    all_goals cases hv
    all_goals first
      | exact key _ (.inl ⟨_, _, rfl, rfl⟩) (by simp [binOp, Op.intArith, Op.intBits])
      | exact key _ (.inr ⟨_, rfl, rfl⟩) (by simp [binOp, Op.intCmp])
  case str.str m n =>
    clear rest
    have e1 := Rel.str_ (show Rel γ w (.str m) (a.eval ox) from r1)
    have e2 := Rel.str_ (show Rel γ w (.str n) (a.eval oy) from r2)
    have key : ∀ c, (∃ nn, v = .str nn ∧ c = Value.string nn) ∨ (∃ b, v = .bool b ∧ c = Value.bool b) → (binOp op t (.string m) (.string n)).run P w = .ok c w → OpOK P γ s o { v := v } a w := by
      intro c hc hr
      refine pure_val (c := c) hd k ?_ ?_
      · have hg : (eqGuard op t ox oy (.string m) (.string n)).run P w = .ok () w := by
          unfold eqGuard
          split <;> simp
        simp only [execOp, hop, e1, e2]
        exact run_v (by simp [Sem.run_bind, hg, hr])
      · rcases hc with ⟨nn, rfl, rfl⟩ | ⟨b, rfl, rfl⟩
        · exact .str _
        · exact .bool _
    cases op <;> simp only at hv
    case add =>
      split at hv
      · rename_i hn
        cases hv
        refine key _ (.inl ⟨_, rfl, rfl⟩) ?_
        have : ¬ ((m.size + n.size : Nat) : Int) > IntKind.i64.max := by
          simp only [IntKind.max, IntKind.signed, IntKind.bits, if_true]
          omega
        simp only [binOp, Op.stringOp]
        rw [if_neg this]
        rfl
      · cases hv
    all_goals first
      | (cases hv; done)
      | (cases hv; exact key _ (.inr ⟨_, rfl, rfl⟩) (by simp [binOp, Op.stringOp]))
  all_goals exact rest (fin_eq hv)
end
end Go.Am

set_option linter.unusedSimpArgs false
set_option linter.unusedVariables false
open Go.RowKit
namespace Go.Am
section
variable {P : Program} {γ γ' : Gh} {s : AS} {a : Act} {w w' : World} {o : Oper}

theorem Rel.one_ {v : AV} {c : Value} (h : Rel γ w v c) (h1 : v.one = true) : c.oneCell' = true ∧ c.cells = #[c] := by
  cases h <;> first | exact ⟨rfl, rfl⟩ | (cases h1; done)
/-- A value's cells. -/
theorem Rel.cells_ {v : AV} {c : Value} (h : Rel γ w v c) : c.cells.size = v.cells.length ∧ ∀ (j : Nat) (x : AV) (y : Value), v.cells[j]? = some x → c.cells[j]? = some y → Rel γ w x y ∧ x.one = true := by
  by_cases hq : ∃ cs, v = .agg cs
  · obtain ⟨cs, rfl⟩ := hq
    obtain ⟨arr, rfl, h1, h2, h3⟩ := h.agg_
    exact ⟨h1, fun j x y hx hy => ⟨h2 j x y hx hy, h3 j x hx⟩⟩
  · have h1 : v.one = true := by cases v <;> first | rfl | exact absurd ⟨_, rfl⟩ hq
    have h2 : v.cells = [v] := by cases v <;> first | rfl | exact absurd ⟨_, rfl⟩ hq
    rw [(h.one_ h1).2, h2]
    refine ⟨rfl, fun j x y hx hy => ?_⟩
    cases j with
    | zero =>
      simp at hx hy
      subst hx hy
      exact ⟨h, h1⟩
    | succ j => simp at hx
theorem foldl_set (off : Nat) : ∀ (l : List Value) (n : Nat) (cs : Array Value), off + n + l.length ≤ cs.size →
    ((l.zipIdx n).foldl (fun (cs : Array Value) (p : Value × Nat) => cs.setIfInBounds (off + p.2) p.1) cs).toList = cs.toList.take (off + n) ++ l ++ cs.toList.drop (off + n + l.length)
  | [], n, cs, h => by simp
  | v :: l, n, cs, h => by
    simp only [List.zipIdx_cons, List.foldl_cons]
    rw [foldl_set off l (n + 1) _ (by simp at h ⊢; omega)]
    simp only [Array.toList_setIfInBounds, List.length_cons] at h ⊢
    have hlt : off + n < cs.toList.length := by simp; omega
    rw [show off + (n + 1) = off + n + 1 by omega, List.take_add_one]
    have h1 : (cs.toList.set (off + n) v)[off + n]? = some v := by
      rw [List.getElem?_set, if_pos rfl, if_pos hlt]
    rw [h1]
    have h2 : (cs.toList.set (off + n) v).take (off + n) = cs.toList.take (off + n) := by
      rw [List.take_set]
      exact List.set_eq_of_length_le (by simp; omega)
    have h3 : (cs.toList.set (off + n) v).drop (off + n + 1 + l.length) = cs.toList.drop (off + n + (l.length + 1)) := by
      rw [List.drop_set_of_lt (by omega)]
      congr 1
      omega
    rw [h2, h3]
    simp
theorem fill_step (off : Nat) (v : Value) (cs : Array Value) (h : off + v.cells.size ≤ cs.size) :
    (v.cells.zipIdx.foldl (fun cs (c, j) => cs.setIfInBounds (off + j) c) cs).toList = cs.toList.take off ++ v.cells.toList ++ cs.toList.drop (off + v.cells.size) := by
  have := foldl_set off v.cells.toList 0 cs (by simpa using h)
  rw [← Array.foldl_toList, Array.toList_zipIdx]
  simpa using this
/-- Rows of cells that say the same, whosever they be. -/
def Cells (γ : Gh) (w : World) (cs : List AV) (arr : Array Value) : Prop :=
  arr.size = cs.length ∧ (∀ (k : Nat) (x : AV) (y : Value), cs[k]? = some x → arr[k]? = some y → x.one = true ∧ ∀ o, RelX γ w o x y)
theorem Cells.splice {cs new : List AV} {arr nw out : Array Value} {off : Nat} (h : Cells γ w cs arr) (hn : Cells γ w new nw) (ho : off + new.length ≤ cs.length)
    (hout : out.toList = arr.toList.take off ++ nw.toList ++ arr.toList.drop (off + nw.size)) : Cells γ w (splice cs off new) out := by
  have hsz : out.size = arr.size := by
    rw [← Array.length_toList, hout]
    simp
    have := h.1
    have := hn.1
    omega
  refine ⟨by rw [hsz, h.1]; simp [Am.splice]; omega, fun k x y hx hy => ?_⟩
  have hy' : out.toList[k]? = some y := by simpa using hy
  rw [hout] at hy'
  unfold Am.splice at hx
  have l1 : (cs.take off).length = off := by simp; omega
  have l2 : (arr.toList.take off).length = off := by have := h.1; simp; omega
  rcases Nat.lt_or_ge k off with h1 | h1
  · rw [List.append_assoc, List.getElem?_append_left (by omega), List.getElem?_take, if_pos h1] at hx hy'
    exact h.2 k x y hx (by simpa using hy')
  · rw [List.append_assoc, List.getElem?_append_right (by omega)] at hx hy'
    rw [l1] at hx
    rw [l2] at hy'
    rcases Nat.lt_or_ge (k - off) new.length with h2 | h2
    · rw [List.getElem?_append_left h2] at hx
      rw [List.getElem?_append_left (by rw [Array.length_toList, hn.1]; exact h2)] at hy'
      exact hn.2 _ x y hx (by simpa using hy')
    · rw [List.getElem?_append_right h2, List.getElem?_drop] at hx
      rw [List.getElem?_append_right (by rw [Array.length_toList, hn.1]; exact h2), List.getElem?_drop] at hy'
      rw [Array.length_toList, hn.1] at hy'
      exact h.2 _ x y hx (by simpa using hy')
theorem Rel.toCells {v : AV} {c : Value} (h : Rel γ w v c) : Cells γ w v.cells c.cells :=
  ⟨h.cells_.1, fun k x y hx hy => ⟨(h.cells_.2 k x y hx hy).2, fun o => (h.cells_.2 k x y hx hy).1.x⟩⟩
theorem zeT_spec {t : TypeId} {z : AV} (h : zeT P t = some z) : ∃ i c, P.info? t = some i ∧ i.zero = some c ∧ cmpV c = some z ∧ i.size = z.cells.length ∧ Cells γ w z.cells c.cells ∧ ∀ o : Nat → Owner, RelC γ w o z c := by
  unfold zeT at h
  cases hi : P.info? t with
  | none => simp [hi] at h
  | some i =>
    cases hz : i.zero with
    | none => simp [hi, hz] at h
    | some c =>
      simp only [hi, Option.bind_some, hz] at h
      cases hb : cmpV c with
      | none => simp [hb] at h
      | some b =>
      cases hn : szT P t with
      | none => simp [hn, hb] at h
      | some n =>
        simp only [hb, hn] at h
        split at h
        · rename_i hl
          cases h
          have hs : i.size = z.cells.length := by
            simp [szT, hi] at hn
            omega
          refine ⟨i, c, rfl, hz, hb, hs, ?_, fun o => (cmpV_rel hb o).1⟩
          by_cases hq : ∃ cs, c = .agg cs
          · obtain ⟨cs, rfl⟩ := hq
            simp only [cmpV, Option.map_eq_some_iff] at hb
            obtain ⟨xs, h1, rfl⟩ := hb
            obtain ⟨h2, h3⟩ := cmpVs_rel h1
            refine ⟨by simp [Value.cells, AV.cells, h2], fun k x y hx hy => ?_⟩
            have := h3 k x y hx (by simpa [Value.cells] using hy)
            exact ⟨(cmpV1_rel (γ := γ) (w := w) this .dead).2.1, fun o => (cmpV1_rel this o).1⟩
          · rw [cmpV_one hq] at hb
            have h2 := fun o => cmpV1_rel (γ := γ) (w := w) hb o
            have h4 : z.cells = [z] := by
              have := (h2 .dead).2.1
              cases z <;> first | rfl | (cases this; done)
            have h5 : c.cells = #[c] := by
              cases c <;> first | rfl | exact absurd ⟨_, rfl⟩ hq
            rw [h4, h5]
            refine ⟨rfl, fun k x y hx hy => ?_⟩
            cases k with
            | zero =>
              simp at hx hy
              subst hx hy
              exact ⟨(h2 .dead).2.1, fun o => (h2 o).1⟩
            | succ k => simp at hx
        · cases h
theorem Cells.agg {cs : List AV} {arr : Array Value} (h : Cells γ w cs arr) (o : Nat → Owner) : RelC γ w o (.agg cs) (.agg arr) :=
  ⟨arr, rfl, h.1, fun k x v hx hv => (h.2 k x v hx hv).2 _, fun j c hc => by
    have hl := (List.getElem?_eq_some_iff.1 hc).1
    have : j < arr.size := by rw [h.1]; exact hl
    exact (h.2 j c _ hc (Array.getElem?_eq_getElem this)).1⟩
theorem fill_rel (k : SR γ s a w) {fs : Array Field} {places : Array (Nat × Nat)} (hp : ∀ (i : Nat) (f : Field) (n : Nat), fs[i]? = some f → szT P f.type = some n → places[i]? = some (f.offset, n)) :
    ∀ {ops : List (Nat × Operand)} {ps : List (Nat × Nat × X)}, partsT P fs ops = some ps → ∀ {cs out : List AV} {arr : Array Value}, Cells γ w cs arr → fillA s.view cs ps = some out →
    ∃ arr', Instr.fill (places[·]?) arr (ops.map fun p => (p.1, a.eval p.2)) = some arr' ∧ Cells γ w out arr'
  | [], ps, h, cs, out, arr, hc, hf => by
    simp [partsT] at h
    subst h
    simp [fillA] at hf
    subst hf
    exact ⟨arr, rfl, hc⟩
  | (i, ox) :: ops, ps, h, cs, out, arr, hc, hf => by
    simp only [partsT] at h
    split at h
    · rename_i f x r h1 h2 h3
      split at h
      · rename_i n hn
        cases h
        simp only [fillA] at hf
        split at hf
        · rename_i v hv
          split at hf
          · rename_i e1 e2
            have hr := val_rel k h2 hv
            have hlen := Nat.eq_of_beq_eq_true e1
            have hle := Nat.le_of_ble_eq_true e2
            have hsz := hr.cells_.1
            have hpl := hp i f n h1 hn
            have hfit : f.offset + (a.eval ox).cells.size ≤ arr.size := by rw [hsz, hc.1]; omega
            obtain ⟨arr', h4, h5⟩ := fill_rel k hp h3 (hc.splice hr.toCells (by omega) (fill_step f.offset (a.eval ox) arr hfit)) hf
            refine ⟨arr', ?_, h5⟩
            simp only [List.map_cons, Instr.fill, hpl]
            rw [if_neg]
            · exact h4
            · simp only [Bool.or_eq_true, decide_eq_true_eq, not_or]
              exact ⟨by rw [hsz, hlen]; simp, by omega⟩
          · cases hf
        · cases hf
      · cases h
    · cases h
theorem run_zero {t : TypeId} {i : TypeInfo} {c : Value} (hi : P.info? t = some i) (hz : i.zero = some c) (w : World) : (zeroValue t).run P w = .ok c w := by
  simp [zeroValue, typeInfo, hi, hz, Sem.run_bind]
theorem run_mapM_places {fs : List Field} (hall : ∀ f ∈ fs, (szT P f.type).isSome = true) (w : World) : (fs.mapM (m := Sem) fun f => do pure (f.offset, ← sizeOf f.type)).run P w = .ok (fs.map fun f => (f.offset, (szT P f.type).getD 0)) w := by
  induction fs with
  | nil => rfl
  | cons f fs ih =>
    have h1 := hall f (by simp)
    cases hn : szT P f.type with
    | none => simp [hn] at h1
    | some n =>
      simp only [List.mapM_cons, Sem.run_bind, run_sz hn, ih (fun g hg => hall g (by simp [hg])), Result.andThen_ok, Sem.run_pure, List.map_cons, hn, Option.getD_some]
theorem s_build {t : TypeId} {ops : Array (Nat × Operand)} {fs : Array Field} {z : AV} {ps : List (Nat × Nat × X)} (hop : o.op = .build t ops) (hu : P.underlying t = some (.struct fs)) (hall : fs.all (fun f => (szT P f.type).isSome) = true)
    (hz : zeT P t = some z) (hps : partsT P fs ops.toList = some ps) (hd : ∀ t, o.dst = some t → t < a.tmps.size) (k : SR γ s a w) {v : AV} (hv : pop o.dst (.build z.cells ps) s.view = some v) : OpOK P γ s o { v := v } a w := by
  simp only [pop] at hv
  split at hv
  · rename_i cs h1
    cases hv
    obtain ⟨i, c, hi, hzi, _, _, hcells, _⟩ := zeT_spec (γ := γ) (w := w) hz
    have hpl := run_mapM_places (P := P) (fs := fs.toList) (fun f hf => by
      have := Array.all_eq_true.1 hall
      obtain ⟨j, hj, e⟩ := List.getElem_of_mem hf
      have hj' : j < fs.size := by simpa using hj
      have := this j hj'
      rw [← e]
      simpa using this) w
    have hpl' : (fs.mapM (m := Sem) fun f => do pure (f.offset, ← sizeOf f.type)).run P w = .ok (fs.map fun f => (f.offset, (szT P f.type).getD 0)) w := by
      rw [← Array.toArray_toList (xs := fs)]
      simp only [List.mapM_toArray, Sem.run_bind, Sem.run_map, hpl, Result.andThen_ok]
      congr 1
      apply Array.ext'
      simp
    obtain ⟨arr', h2, h3⟩ := fill_rel k (places := fs.map fun f => (f.offset, (szT P f.type).getD 0)) (fun i f n hf hn => by simp [hf, hn]) hps hcells h1
    refine OpOK.pure (c := .agg arr') hd k ?_ (Grew.refl k.fresh) (RelC.t rfl (h3.agg _)) rfl
    simp only [execOp, hop]
    refine run_v ?_
    simp only [Instr.build, Sem.run_bind, run_zero hi hzi, Result.andThen_ok, run_underlying hu, hpl', Array.toList_map, h2]
    rfl
  · cases hv
end
end Go.Am

set_option linter.unusedSimpArgs false
set_option linter.unusedVariables false
open Go.RowKit
namespace Go.Am
section
variable {P : Program} {γ γ' : Gh} {s : AS} {a : Act} {w w' : World} {o : Oper}

/-! Rows of elements of one size -/
def Sized (sz : Nat) (es : List AV) : Prop := ∀ (i : Nat) (e : AV), es[i]? = some e → e.cells.length = sz
theorem Sized.tail {sz : Nat} {e : AV} {es : List AV} (h : Sized sz (e :: es)) : Sized sz es := fun i x hx => h (i + 1) x (by simpa using hx)
theorem flat_len {sz : Nat} : ∀ {es : List AV}, Sized sz es → (es.flatMap AV.cells).length = es.length * sz
  | [], _ => by simp
  | e :: es, h => by
    have h0 := h 0 e (by simp)
    simp only [List.flatMap_cons, List.length_append, flat_len h.tail, h0, List.length_cons, Nat.add_mul, Nat.one_mul]
    omega
theorem flat_at {sz : Nat} : ∀ {es : List AV}, Sized sz es → ∀ {i : Nat} {e : AV} {j : Nat}, es[i]? = some e → j < sz → (es.flatMap AV.cells)[i * sz + j]? = e.cells[j]?
  | [], _, i, e, j, hi, _ => by simp at hi
  | x :: es, h, i, e, j, hi, hj => by
    have h0 := h 0 x (by simp)
    simp only [List.flatMap_cons]
    cases i with
    | zero =>
      simp at hi
      subst hi
      rw [List.getElem?_append_left (by omega)]
      simp
    | succ i =>
      rw [List.getElem?_append_right (by rw [h0, Nat.add_mul]; omega), h0, ← flat_at h.tail (i := i) (by simpa using hi) hj]
      congr 1
      rw [Nat.add_mul]
      omega
theorem flat_set {sz : Nat} : ∀ {es : List AV}, Sized sz es → ∀ {i : Nat} {v : AV}, i < es.length → v.cells.length = sz → (es.set i v).flatMap AV.cells = splice (es.flatMap AV.cells) (i * sz) v.cells
  | [], _, i, v, hi, _ => by simp at hi
  | x :: es, h, i, v, hi, hv => by
    have h0 := h 0 x (by simp)
    cases i with
    | zero =>
      simp only [List.set_cons_zero, List.flatMap_cons, Am.splice, Nat.zero_mul, List.take_zero, List.nil_append, Nat.zero_add]
      rw [hv, ← h0, List.drop_left]
    | succ i =>
      simp only [List.set_cons_succ, List.flatMap_cons]
      rw [flat_set h.tail (by simpa using hi) hv]
      unfold Am.splice
      rw [Nat.add_mul, Nat.one_mul, List.take_append, List.drop_append, h0]
      rw [List.take_of_length_le (l := x.cells) (by omega), List.drop_eq_nil_of_le (as := x.cells) (by omega)]
      rw [show i * sz + sz - sz = i * sz by omega, show i * sz + sz + v.cells.length - sz = i * sz + v.cells.length by omega]
      simp
theorem Sized.set {sz : Nat} {es : List AV} (h : Sized sz es) {i : Nat} {v : AV} (hv : v.cells.length = sz) : Sized sz (es.set i v) := by
  intro j e he
  rw [List.getElem?_set] at he
  split at he
  · split at he
    · cases he; exact hv
    · cases he
  · exact h j e he
def CellsR (γ : Gh) (w : World) (cs : List AV) (arr : Array Value) : Prop :=
  arr.size = cs.length ∧ (∀ (k : Nat) (x : AV) (y : Value), cs[k]? = some x → arr[k]? = some y → x.one = true ∧ Rel γ w x y)
theorem CellsR.mono {cs : List AV} {arr : Array Value} (m : Mono γ w γ' w') (h : CellsR γ w cs arr) : CellsR γ' w' cs arr := ⟨h.1, fun k x y hx hy => ⟨(h.2 k x y hx hy).1, (h.2 k x y hx hy).2.mono m⟩⟩
theorem CellsR.splice {cs new : List AV} {arr nw out : Array Value} {off : Nat} (h : CellsR γ w cs arr) (hn : CellsR γ w new nw) (ho : off + new.length ≤ cs.length)
    (hout : out.toList = arr.toList.take off ++ nw.toList ++ arr.toList.drop (off + nw.size)) : CellsR γ w (splice cs off new) out := by
  have hsz : out.size = arr.size := by
    rw [← Array.length_toList, hout]
    simp
    have := h.1
    have := hn.1
    omega
  refine ⟨by rw [hsz, h.1]; simp [Am.splice]; omega, fun k x y hx hy => ?_⟩
  have hy' : out.toList[k]? = some y := by simpa using hy
  rw [hout] at hy'
  unfold Am.splice at hx
  have l1 : (cs.take off).length = off := by simp; omega
  have l2 : (arr.toList.take off).length = off := by have := h.1; simp; omega
  rcases Nat.lt_or_ge k off with h1 | h1
  · rw [List.append_assoc, List.getElem?_append_left (by omega), List.getElem?_take, if_pos h1] at hx hy'
    exact h.2 k x y hx (by simpa using hy')
  · rw [List.append_assoc, List.getElem?_append_right (by omega)] at hx hy'
    rw [l1] at hx
    rw [l2] at hy'
    rcases Nat.lt_or_ge (k - off) new.length with h2 | h2
    · rw [List.getElem?_append_left h2] at hx
      rw [List.getElem?_append_left (by rw [Array.length_toList, hn.1]; exact h2)] at hy'
      exact hn.2 _ x y hx (by simpa using hy')
    · rw [List.getElem?_append_right h2, List.getElem?_drop] at hx
      rw [List.getElem?_append_right (by rw [Array.length_toList, hn.1]; exact h2), List.getElem?_drop] at hy'
      rw [Array.length_toList, hn.1] at hy'
      exact h.2 _ x y hx (by simpa using hy')
theorem Rel.cellsR {v : AV} {c : Value} (h : Rel γ w v c) : CellsR γ w v.cells c.cells := ⟨h.cells_.1, fun k x y hx hy => ⟨(h.cells_.2 k x y hx hy).2, (h.cells_.2 k x y hx hy).1⟩⟩
/-- A slice over a row that is claimed. -/
theorem Rel.of_row {sz n b : Nat} {es : List AV} {arr : Array Value} {ty : TypeId} {fr : Nat × Nat} (hs : Sized sz es) (hb : w.heap[b]? = some (.cells arr ty fr)) (hc : CellsR γ w (es.flatMap AV.cells) arr) (ho : ∀ j, γ.own b j = .claim)
    (hm : es.length ≤ 281474976710656) (hn : n = es.length) : Rel γ w (.sl sz es) (.slice (some ⟨b, 0, none⟩) n n) := by
  subst hn
  have key : ∀ (i : Nat) (e : AV) (j : Nat) (x : AV), es[i]? = some e → e.cells[j]? = some x → ∃ y, arr[i * sz + j]? = some y ∧ Rel γ w x y ∧ x.one = true := by
    intro i e j x hi hj
    have hj' : j < sz := by rw [← hs i e hi]; exact (List.getElem?_eq_some_iff.1 hj).1
    have h1 := flat_at hs hi hj'
    rw [hj] at h1
    have h2 : i * sz + j < arr.size := by rw [hc.1]; exact (List.getElem?_eq_some_iff.1 h1).1
    exact ⟨arr[i * sz + j], Array.getElem?_eq_getElem h2, (hc.2 _ x _ h1 (Array.getElem?_eq_getElem h2)).2, (hc.2 _ x _ h1 (Array.getElem?_eq_getElem h2)).1⟩
  refine .sl sz es (some ⟨b, 0, none⟩) es.length (fun i j => arr.getD (i * sz + j) undef) hs (fun _ => ⟨b, 0, rfl, fun i e j x hi hj => ⟨?_, ho _⟩⟩) (by simp) (fun i e j x hi hj => ?_) (fun i e j x hi hj => (key i e j x hi hj).choose_spec.2.2) (Nat.le_refl _) hm
  · obtain ⟨y, h1, h2, _⟩ := key i e j x hi hj
    simp only [World.cell?, hb, Nat.zero_add, Option.isSome_none, Bool.false_eq_true, if_false, h1, Array.getD_eq_getD_getElem?, Option.getD_some]
  · obtain ⟨y, h1, h2, _⟩ := key i e j x hi hj
    simpa [Array.getD_eq_getD_getElem?, h1] using h2
theorem fillE_rel (k : SR γ s a w) {sz : Nat} : ∀ {ops : List (Nat × Operand)} {ps : List (Nat × X)}, partsE ops = some ps → ∀ {es out : List AV} {arr : Array Value}, Sized sz es → CellsR γ w (es.flatMap AV.cells) arr → fillE s.view sz es ps = some out →
    ∃ arr', Instr.fill (fun i => some (i * sz, sz)) arr (ops.map fun p => (p.1, a.eval p.2)) = some arr' ∧ CellsR γ w (out.flatMap AV.cells) arr' ∧ Sized sz out ∧ out.length = es.length
  | [], ps, h, es, out, arr, hs, hc, hf => by
    simp [partsE] at h
    subst h
    simp [fillE] at hf
    subst hf
    exact ⟨arr, rfl, hc, hs, rfl⟩
  | (i, ox) :: ops, ps, h, es, out, arr, hs, hc, hf => by
    simp only [partsE] at h
    split at h
    · rename_i x r h2 h3
      cases h
      simp only [fillE] at hf
      split at hf
      · rename_i v hv
        split at hf
        · rename_i e1 e2
          have hr := val_rel k h2 hv
          have hlen := Nat.eq_of_beq_eq_true e1
          have hlt : i < es.length := by simpa [Nat.blt_eq] using e2
          have hsz := hr.cells_.1
          have hle : i * sz + sz ≤ es.length * sz := by rw [← Nat.succ_mul]; exact Nat.mul_le_mul_right _ hlt
          have hal : arr.size = es.length * sz := by rw [hc.1, flat_len hs]
          have hfit : i * sz + (a.eval ox).cells.size ≤ arr.size := by rw [hsz, hlen, hal]; exact hle
          have hsp := hc.splice hr.cellsR (off := i * sz) (by rw [hlen, flat_len hs]; exact hle) (fill_step (i * sz) (a.eval ox) arr hfit)
          rw [← flat_set hs hlt hlen] at hsp
          obtain ⟨arr', h4, h5, h6, h7⟩ := fillE_rel k h3 (hs.set hlen) hsp hf
          refine ⟨arr', ?_, h5, h6, by simpa using h7⟩
          simp only [List.map_cons, Instr.fill]
          rw [if_neg]
          · exact h4
          · simp only [Bool.or_eq_true, decide_eq_true_eq, not_or]
            exact ⟨by rw [hsz, hlen]; simp, by omega⟩
        · cases hf
      · cases hf
    · cases h
theorem zeros_rel {z : AV} {c : Value} {sz n : Nat} (h : Rel γ w z c) (hs : z.cells.length = sz) (h0 : 0 < sz) :
    CellsR γ w ((List.replicate n z).flatMap AV.cells) ((Array.range (n * sz)).map (c.cells[· % c.cells.size]!)) ∧ Sized sz (List.replicate n z) := by
  have hsz : Sized sz (List.replicate n z) := fun i e he => by
    rw [List.getElem?_replicate] at he
    split at he
    · cases he; exact hs
    · cases he
  refine ⟨⟨by simp [flat_len hsz], fun k x y hx hy => ?_⟩, hsz⟩
  have hk : k < n * sz := by
    have := (Array.getElem?_eq_some_iff.1 hy).1
    simpa using this
  have hi : (List.replicate n z)[k / sz]? = some z := by
    rw [List.getElem?_replicate, if_pos]
    exact Nat.div_lt_of_lt_mul (by rw [Nat.mul_comm]; exact hk)
  have hm := Nat.mod_lt k h0
  have := flat_at hsz hi hm
  rw [Nat.mul_comm, Nat.div_add_mod, hx] at this
  have hc := h.cells_
  have hlt : k % sz < c.cells.size := by rw [hc.1, hs]; exact hm
  have hy2 : y = c.cells[k % sz] := by
    simp only [Array.getElem?_map, Array.getElem?_range, hk, if_true, Option.map_some, Option.some.injEq] at hy
    rw [← hy, hc.1, hs]
    simp [hlt]
  exact ⟨(hc.2 _ x y this.symm (by rw [hy2]; exact Array.getElem?_eq_getElem hlt)).2, (hc.2 _ x y this.symm (by rw [hy2]; exact Array.getElem?_eq_getElem hlt)).1⟩
theorem SR.newRow (k : SR γ s a w) (ob : Obj) : Grew γ w (γ.new w.heap.size .claim) (w.alloc ob) := Grew.new k.fresh .claim ob
theorem own_new (γ : Gh) (n : Nat) (o : Owner) (j : Nat) : (γ.new n o).own n j = o := by simp [Gh.new]
theorem dg_rel {z : AV} {c : Value} (h : ∀ o : Nat → Owner, RelC γ w o z c) (hz : z.isV = true) : Rel γ w z.dg c ∧ z.dg.cells.length = z.cells.length := by
  have h1 : z.dg = z.dgc := by cases z <;> first | rfl | (cases hz; done)
  rw [h1]
  refine ⟨(h fun _ => .dead).dg, ?_⟩
  cases z <;> first | rfl | simp [AV.dgc, AV.cells]
theorem s_bslice {t e : TypeId} {n sz : Nat} {ops : Array (Nat × Operand)} {z : AV} {ps : List (Nat × X)} (hop : o.op = .buildSlice t n ops) (he : elT P t = some e) (hsz : szT P e = some sz) (hz : zeT P e = some z) (hps : partsE ops.toList = some ps)
    (hn : n * sz ≤ 16777216) (h0 : 0 < sz) (hd : ∀ t, o.dst = some t → t < a.tmps.size) (k : SR γ s a w) {es : List AV} (hf : fillE s.view sz (List.replicate n z.dg) ps = some es) :
    ∃ arr, (execOp a.eval o).run P w = .ok (.value (.slice (some ⟨w.heap.size, 0, none⟩) n n)) (w.alloc (.cells arr e (0, 0))) ∧ CellsR γ w (es.flatMap AV.cells) arr ∧ Sized sz es ∧ es.length = n := by
  have hu : P.underlying t = some (.slice e) := by
    unfold elT at he
    split at he
    · cases he; assumption
    · cases he
  obtain ⟨i, c, hi, hzi, hcz, hsize, _, hrc⟩ := zeT_spec (γ := γ) (w := w) hz
  obtain ⟨hzr, hzl⟩ := dg_rel hrc (cmpV_rel (γ := γ) (w := w) hcz fun _ => .dead).2
  have hsz' : sz = i.size := by
    simp [szT, hi] at hsz
    omega
  obtain ⟨hc0, hs0⟩ := zeros_rel (n := n) hzr (by rw [hzl, ← hsize, hsz']) h0
  obtain ⟨arr, h1, h2, h3, h4⟩ := fillE_rel k hps hs0 hc0 hf
  refine ⟨arr, ?_, h2, h3, by simpa using h4⟩
  simp only [execOp, hop]
  refine run_v ?_
  have hl : ¬ n * sz > 2 ^ 24 := by omega
  simp only [Instr.buildSlice, Sem.run_bind, run_underlying hu, Result.andThen_ok, run_sz hsz, if_neg hl, Sem.run_pure]
  by_cases hz0 : n * sz = 0
  · have hn0 : n = 0 := by
      rcases Nat.mul_eq_zero.1 hz0 with h | h
      · exact h
      · omega
    subst hn0
    have hr : ∀ f : Nat → Value, (Array.range (0 * sz)).map f = #[] := by intro f; simp
    rw [hr] at h1
    simp only [if_pos hz0, Sem.run_bind, Sem.run_pure, Result.andThen_ok, hr, Array.toList_map, h1]
    rfl
  · simp only [if_neg hz0, Sem.run_bind, run_zero hi hzi, Result.andThen_ok, Sem.run_pure, Array.toList_map, h1]
    simp [newRow, newObj, Sem.run_bind]
    rfl
end
end Go.Am

set_option linter.unusedSimpArgs false
set_option linter.unusedVariables false
open Go.RowKit
namespace Go.Am
section
variable {P : Program} {γ γ' : Gh} {s : AS} {a : Act} {w w' : World} {o : Oper}

theorem elT_spec {t e : TypeId} (he : elT P t = some e) : P.underlying t = some (.slice e) := by
  unfold elT at he
  split at he
  · cases he; assumption
  · cases he
/-- A row that was just made, handed on as a slice that may grow. -/
theorem xsl_new {sz n : Nat} {es : List AV} {arr : Array Value} {ty : TypeId} (k : SR γ s a w) (hc : CellsR γ w (es.flatMap AV.cells) arr) (hs : Sized sz es) (hl : es.length = n) (hm : n ≤ 281474976710656) (o : Nat → Nat → Owner) :
    RelT (γ.new w.heap.size .claim) (w.alloc (.cells arr ty (0, 0))) o (.xsl sz es) (.slice (some ⟨w.heap.size, 0, none⟩) n n) := by
  have g := k.newRow (.cells arr ty (0, 0))
  have hb : (w.alloc (.cells arr ty (0, 0))).heap[w.heap.size]? = some (.cells arr ty (0, 0)) := heap_alloc_new w _
  refine ⟨Rel.of_row hs hb (hc.mono g.ext.toMono) (own_new γ _ _) (by omega) hl.symm, .inr ⟨w.heap.size, n, arr, ty, by rw [hl], hb, ?_, fun h => by omega, fun j h1 h2 => by rw [hl] at h1; omega⟩⟩
  rw [hc.1, flat_len hs, hl]
  exact Nat.le_refl _
theorem s_bslice' {t e : TypeId} {n sz : Nat} {ops : Array (Nat × Operand)} {z : AV} {ps : List (Nat × X)} (hop : o.op = .buildSlice t n ops) (he : elT P t = some e) (hsz : szT P e = some sz) (hz : zeT P e = some z) (hps : partsE ops.toList = some ps)
    (hn : n * sz ≤ 16777216) (h0 : 0 < sz) (hd : ∀ t, o.dst = some t → t < a.tmps.size) (k : SR γ s a w) {v : AV} (hv : pop o.dst (.bslice sz n z.dg ps false) s.view = some v) : OpOK P γ s o { v := v } a w := by
  simp only [pop] at hv
  split at hv
  · rename_i es hf
    cases hv
    obtain ⟨arr, hr, hc, hs, hl⟩ := s_bslice hop he hsz hz hps hn h0 hd k hf
    have : n ≤ n * sz := Nat.le_mul_of_pos_right n h0
    exact OpOK.pure hd k hr (k.newRow _) (xsl_new k hc hs hl (by omega) _) rfl
  · cases hv
theorem byT_spec {e : TypeId} {b : Nat} (h : byT P e = some b) (w : World) : ∃ i, P.info? e = some i ∧ i.bytes = b := by
  unfold byT at h
  cases hi : P.info? e with
  | none => simp [hi] at h
  | some i => exact ⟨i, rfl, by simpa [hi] using h⟩
theorem wrap64_small {n : Int} (h0 : 0 ≤ n) (h : n ≤ 281474976710656) : IntKind.i64.wrap n = n := by
  rw [IntKind.wrap_i64]
  omega
theorem run_askRoom (n : Nat) (w : World) : (askRoom n).run P w = .ok () w := by
  unfold askRoom
  split <;> rfl
theorem s_mkarr {t e : TypeId} {on oc : Operand} {i j : Nat} {sz by_ : Nat} {z : AV} (hop : o.op = .makeSlice t on oc) (he : elT P t = some e) (hsz : szT P e = some sz) (hby : byT P e = some by_) (hz : zeT P e = some z) (hxn : cmpX on = some (.t i)) (hxc : cmpX oc = some (.t j)) (hij : i = j)
    (h0 : 0 < sz) (hb0 : 0 < by_) (k : SR γ s a w) {n : Int} (hn : s.view.ev (.t i) = some (.int .i64 n)) (hn0 : 0 ≤ n) (hn1 : by_ * n ≤ 281474976710656) :
    ∃ arr, (execOp a.eval o).run P w = .ok (.value (.slice (some ⟨w.heap.size, 0, none⟩) n.toNat n.toNat)) (w.alloc (.cells arr e (0, 0))) ∧ CellsR γ w ((List.replicate n.toNat z.dg).flatMap AV.cells) arr ∧ Sized sz (List.replicate n.toNat z.dg) ∧ n ≤ 281474976710656 := by
  subst hij
  have hu := elT_spec he
  obtain ⟨ii, c, hi, hzi, hcz, hsize, _, hrc⟩ := zeT_spec (γ := γ) (w := w) hz
  obtain ⟨hzr, hzl⟩ := dg_rel hrc (cmpV_rel (γ := γ) (w := w) hcz fun _ => .dead).2
  obtain ⟨i2, hi2, hb2⟩ := byT_spec hby w
  rw [hi] at hi2
  cases hi2
  have hsz' : sz = ii.size := by
    simp [szT, hi] at hsz
    omega
  have hle : n ≤ 281474976710656 := by
    have : n ≤ by_ * n := by
      have h1 : (1 : Int) * n ≤ (by_ : Int) * n := Int.mul_le_mul_of_nonneg_right (by omega) hn0
      omega
    omega
  obtain ⟨hc0, hs0⟩ := zeros_rel (n := n.toNat) hzr (by rw [hzl, ← hsize, hsz']) h0
  have e1 := ev_int k hxn hn
  have e2 := ev_int k hxc hn
  refine ⟨_, ?_, hc0, hs0, hle⟩
  simp only [execOp, hop, e1, e2]
  refine run_v ?_
  have hw := wrap64_small hn0 hle
  have t1 : ¬ (n < 0 ∨ (ii.bytes : Int) * n > 2 ^ 48) := by rw [hb2]; omega
  have hsp : ∀ w, (sizeOf e).run P w = .ok ii.size w := fun w => by rw [← hsz']; exact run_sz hsz w
  simp only [Instr.makeSlice, Sem.run_bind, run_underlying hu, Result.andThen_ok, asInt, asIntOf, Sem.run_pure, typeInfo, program, Sem.run]
  simp only [hi, Sem.run_pure, Result.andThen_ok, hw, Bool.or_eq_true, decide_eq_true_eq]
  rw [if_neg (by
    rintro ((h | h) | h)
    · simp at h
      omega
    · omega
    · omega)]
  simp only [Sem.run_bind, run_askRoom, Result.andThen_ok, hsp]
  have hcs : c.cells.size = ii.size := by
    have := hzr.cells_.1
    rw [this, hzl, hsize]
  by_cases hz0 : n.toNat * ii.size = 0
  · simp only [if_pos hz0, Sem.run_bind, Sem.run_pure, Result.andThen_ok]
    have hr : ∀ f : Nat → Value, (Array.range (n.toNat * ii.size)).map f = #[] := by intro f; rw [hz0]; simp
    rw [hr, hsz', hr]
    rfl
  · simp only [if_neg hz0, Sem.run_bind, run_zero hi hzi, Sem.run_pure, Result.andThen_ok]
    rw [hsz']
    rfl
theorem s_mkarr' {t e : TypeId} {on oc : Operand} {i j : Nat} {sz by_ : Nat} {z : AV} (hop : o.op = .makeSlice t on oc) (he : elT P t = some e) (hsz : szT P e = some sz) (hby : byT P e = some by_) (hz : zeT P e = some z) (hxn : cmpX on = some (.t i)) (hxc : cmpX oc = some (.t j)) (hij : i = j)
    (h0 : 0 < sz) (hb0 : 0 < by_) (hd : ∀ t, o.dst = some t → t < a.tmps.size) (k : SR γ s a w) {v : AV} (hv : pop o.dst (.mkarr sz by_ z.dg (.t i) false) s.view = some v) : OpOK P γ s o { v := v } a w := by
  simp only [pop] at hv
  split at hv
  · rename_i n hn
    split at hv
    · rename_i h1 h2
      cases hv
      obtain ⟨arr, hr, hc, hs, hle⟩ := s_mkarr hop he hsz hby hz hxn hxc hij h0 hb0 k hn (of_decide_eq_true h1) (of_decide_eq_true h2)
      have := of_decide_eq_true h1
      exact OpOK.pure hd k hr (k.newRow _) (xsl_new k hc hs (by simp) (by omega) _) rfl
    · cases hv
  · cases hv
theorem mkv_agg {cs : List AV} {v : AV} {ag : Bool} (h : mkv ag cs = some v) : (ag = true ∧ v = .agg cs) ∨ (ag = false ∧ cs = [v]) := by
  cases ag with
  | true => simp [mkv] at h; exact .inl ⟨rfl, h.symm⟩
  | false =>
    simp only [mkv] at h
    split at h
    · cases h; exact .inr ⟨rfl, rfl⟩
    · cases h
theorem window_spec {cs ws : List AV} {off n : Nat} (h : window cs off n = some ws) : off + n ≤ cs.length ∧ ws = (cs.drop off).take n := by
  unfold window at h
  split at h
  · rename_i h1; cases h; exact ⟨Nat.le_of_ble_eq_true h1, rfl⟩
  · cases h
theorem window_get {cs ws : List AV} {off n : Nat} (h : window cs off n = some ws) : ws.length = n ∧ ∀ j, j < n → ws[j]? = cs[off + j]? := by
  obtain ⟨h1, rfl⟩ := window_spec h
  refine ⟨by simp; omega, fun j hj => ?_⟩
  rw [List.getElem?_take, if_pos hj, List.getElem?_drop]
/-- A part of a value's cells, as a value. -/
theorem part_rel {t : TypeId} {cs ws : List AV} {arr : Array Value} {off n : Nat} {ag : Bool} {v : AV} (hc : CellsR γ w cs arr) (hs : szT P t = some n) (ha : agT P t = some ag) (hn : ag = true ∨ n = 1) (hw : window cs off n = some ws) (hv : mkv ag ws = some v) :
    ∃ c, (part t arr off).run P w = .ok c w ∧ Rel γ w v c := by
  obtain ⟨hl, hg⟩ := window_get hw
  have hle := (window_spec hw).1
  rcases mkv_agg hv with ⟨rfl, rfl⟩ | ⟨rfl, rfl⟩
  · refine ⟨.agg (arr.extract off (off + n)), ?_, ?_⟩
    · simp [part, Sem.run_bind, run_isAgg ha, run_sz hs]
    · refine .agg _ _ (by rw [hl, Array.size_extract, hc.1]; omega) (fun j c v hj hv => ?_) (fun j c hj => ?_)
      · have hj' : j < n := by rw [← hl]; exact (List.getElem?_eq_some_iff.1 hj).1
        rw [hg j hj'] at hj
        have hv' : arr[off + j]? = some v := by
          rw [Array.getElem?_extract] at hv
          split at hv
          · exact hv
          · cases hv
        exact (hc.2 _ c v hj hv').2
      · have hj' : j < n := by rw [← hl]; exact (List.getElem?_eq_some_iff.1 hj).1
        rw [hg j hj'] at hj
        have : off + j < arr.size := by rw [hc.1]; omega
        exact (hc.2 _ c _ hj (Array.getElem?_eq_getElem this)).1
  · have h1 : n = 1 := by
      rcases hn with h | h
      · cases h
      · exact h
    subst h1
    have h2 := hg 0 (by omega)
    simp at h2
    have : off < arr.size := by rw [hc.1]; omega
    refine ⟨arr[off], ?_, (hc.2 off v _ h2.symm (Array.getElem?_eq_getElem this)).2⟩
    simp [part, Sem.run_bind, run_isAgg ha, Array.getElem?_eq_getElem this]
theorem Rel.aggR {cs : List AV} {c : Value} (h : Rel γ w (.agg cs) c) : ∃ arr, c = .agg arr ∧ CellsR γ w cs arr := by
  obtain ⟨arr, rfl, h1, h2, h3⟩ := h.agg_
  exact ⟨arr, rfl, h1, fun k x y hx hy => ⟨h3 k x hx, h2 k x y hx hy⟩⟩
theorem fdT_spec {t : TypeId} {f : Nat} {fd : Field} (hf : fdT P t f = some fd) : ∃ fs, P.underlying t = some (.struct fs) ∧ fs[f]? = some fd := by
  unfold fdT at hf
  split at hf
  · exact ⟨_, by assumption, hf⟩
  · cases hf
theorem s_fld {ox : Operand} {x : X} {t : TypeId} {f n : Nat} {fd : Field} {ag : Bool} (hop : o.op = .field t ox f) (hf : fdT P t f = some fd) (hs : szT P fd.type = some n) (ha : agT P fd.type = some ag) (hn : ag = true ∨ n = 1) (hx : cmpX ox = some x)
    (hd : ∀ t, o.dst = some t → t < a.tmps.size) (k : SR γ s a w) {v : AV} (hv : pop o.dst (.fld x fd.offset n ag) s.view = some v) : OpOK P γ s o { v := v } a w := by
  obtain ⟨fs, hu, hfs⟩ := fdT_spec hf
  simp only [pop] at hv
  split at hv
  · rename_i cs h1
    split at hv
    · rename_i ws h2
      obtain ⟨arr, he, hc⟩ := Rel.aggR (show Rel γ w (.agg cs) (a.eval ox) from cp_val k hx h1 rfl)
      obtain ⟨c, hr, hrel⟩ := part_rel hc hs ha hn h2 hv
      refine pure_val (c := c) hd k ?_ hrel
      simp only [execOp, hop, he]
      refine run_v ?_
      simp [Instr.field, Sem.run_bind, run_underlying hu, hfs, asAgg, hr]
    · cases hv
  · cases hv
theorem s_idxS {ox oi : Operand} {x i : X} {t : TypeId} (hop : o.op = .index t ox oi) (hu : P.underlying t = some .string) (hx : cmpX ox = some x) (hi : cmpX oi = some i) (hd : ∀ t, o.dst = some t → t < a.tmps.size) (k : SR γ s a w)
    {v : AV} (hv : pop o.dst (.idxS x i) s.view = some v) : OpOK P γ s o { v := v } a w := by
  simp only [pop] at hv
  split at hv
  · rename_i b kd n h1 h2
    split at hv
    · rename_i c h3 h4
      cases hv
      have e1 := ev_str k hx h1
      have e2 := ev_int k hi h2
      have h3 := of_decide_eq_true h3
      refine pure_val (c := .int .u8 c.toNat) hd k ?_ (.int _ _)
      simp only [execOp, hop, e1, e2]
      refine run_v ?_
      simp [Instr.index, asIntOf, Sem.run_bind, run_underlying hu, h3, h4]
    · cases hv
  · cases hv
theorem s_idxA {ox oi : Operand} {x i : X} {t e : TypeId} {len sz : Nat} {ag : Bool} (hop : o.op = .index t ox oi) (hu : P.underlying t = some (.array len e)) (hs : szT P e = some sz) (ha : agT P e = some ag) (hn : ag = true ∨ sz = 1) (hx : cmpX ox = some x) (hi : cmpX oi = some i)
    (hd : ∀ t, o.dst = some t → t < a.tmps.size) (k : SR γ s a w) {v : AV} (hv : pop o.dst (.idxA x i len sz ag) s.view = some v) : OpOK P γ s o { v := v } a w := by
  simp only [pop] at hv
  split at hv
  · rename_i cs kd n h1 h2
    split at hv
    · rename_i ws h3 h4 h5
      obtain ⟨arr, he, hc⟩ := Rel.aggR (show Rel γ w (.agg cs) (a.eval ox) from cp_val k hx h1 rfl)
      have e2 := ev_int k hi h2
      have h3 := of_decide_eq_true h3
      have h4 := of_decide_eq_true h4
      obtain ⟨c, hr, hrel⟩ := part_rel hc hs ha hn h5 hv
      refine pure_val (c := c) hd k ?_ hrel
      simp only [execOp, hop, he, e2]
      refine run_v ?_
      simp [Instr.index, asIntOf, Sem.run_bind, run_underlying hu, h3, h4, run_sz hs, hr]
    · cases hv
  · cases hv
theorem s_extr {ox : Operand} {x : X} {i : Nat} (hop : o.op = .extract ox i) (hx : cmpX ox = some x) (hd : ∀ t, o.dst = some t → t < a.tmps.size) (k : SR γ s a w) {v : AV} (hv : pop o.dst (.extr x i) s.view = some v) : OpOK P γ s o { v := v } a w := by
  simp only [pop] at hv
  split at hv
  · rename_i vs h1
    simp only [View.cp, Option.map_eq_some_iff] at h1
    obtain ⟨u, h2, h3⟩ := h1
    have hr := ev_rel k hx h2
    cases u with
    | tup us =>
      cases h3
      obtain ⟨arr, e, h4, h5⟩ := hr
      simp only [List.getElem?_map, Option.map_eq_some_iff] at hv
      obtain ⟨u, h6, rfl⟩ := hv
      have hl : i < arr.size := by rw [h4]; exact (List.getElem?_eq_some_iff.1 h6).1
      have := (h5 i u _ h6 (Array.getElem?_eq_getElem hl)).dg
      refine pure_val (c := arr[i]) hd k ?_ this
      simp [execOp, hop, e, Instr.extract, Array.getElem?_eq_getElem hl]
    | agg cs => simp [AV.dg, AV.dgc] at h3
    | _ => simp [AV.dg, AV.dgc, AV.dg1] at h3
  · cases hv
theorem s_tassert {ox : Operand} {x : X} {xt t : TypeId} {d : TypeDesc} {z : AV} {ok : Bool} (hop : o.op = .typeAssert ox xt t ok) (hu : P.underlying t = some d) (hni : ∀ m, d ≠ .interface m) (hz : zeT P t = some z) (hx : cmpX ox = some x)
    (hd : ∀ t, o.dst = some t → t < a.tmps.size) (k : SR γ s a w) {v : AV} (hv : pop o.dst (.tassert x t z ok) s.view = some v) : OpOK P γ s o { v := v } a w := by
  obtain ⟨i, c, hi, hzi, hcz, hsize, _, hrc⟩ := zeT_spec (γ := γ) (w := w) hz
  have hfail : ∀ (q : Value), (q = .nilIface ∨ ∃ t' u, q = .iface t' u ∧ t' ≠ t) → a.eval ox = q → ok = true → (execOp a.eval o).run P w = .ok (.value (.tuple #[c, .bool false])) w := by
    intro q hq he hok
    subst hok
    simp only [execOp, hop, he]
    refine run_v ?_
    rcases hq with rfl | ⟨t', u, rfl, hne⟩
    · cases d <;> first | (simp [Instr.typeAssert, Sem.run_bind, run_underlying hu, run_zero hi hzi]; done) | exact absurd rfl (hni _)
    · cases d <;> first | (simp [Instr.typeAssert, Sem.run_bind, run_underlying hu, run_zero hi hzi, hne]; done) | exact absurd rfl (hni _)
  have htup : ∀ (x : AV) (y : Value) (b : Bool), (∀ o : Nat → Owner, RelC γ w o x y) → RelT γ w (labd o.dst) (.tup [x, .bool b]) (.tuple #[y, .bool b]) := by
    intro x y b h
    refine ⟨_, rfl, rfl, fun i u v hu hv => ?_⟩
    match i with
    | 0 => simp at hu hv; subst hu hv; exact h _
    | 1 => simp at hu hv; subst hu hv; exact Rel.cOf (.bool b)
    | i + 2 => simp at hu
  simp only [pop] at hv
  split at hv
  · rename_i t' u h1
    obtain ⟨q, he, hq⟩ := Rel.iface_ (show Rel γ w (.iface t' u) (a.eval ox) from cp_val k hx h1 rfl)
    split at hv <;> cases hv
    · rename_i hb
      have := Nat.eq_of_beq_eq_true hb
      subst this
      refine OpOK.pure (c := .tuple #[q, .bool true]) hd k ?_ (Grew.refl k.fresh) (htup _ _ _ fun o => hq.cOf) rfl
      simp only [execOp, hop, he]
      refine run_v ?_
      cases d <;> first | (simp [Instr.typeAssert, Sem.run_bind, run_underlying hu]; done) | exact absurd rfl (hni _)
    · rename_i hb
      have := Nat.eq_of_beq_eq_true hb
      subst this
      refine pure_val (c := q) hd k ?_ hq
      simp only [execOp, hop, he]
      refine run_v ?_
      cases d <;> first | (simp [Instr.typeAssert, Sem.run_bind, run_underlying hu]; done) | exact absurd rfl (hni _)
    · rename_i hb
      have hne : t' ≠ t := fun e => by rw [e, Nat.beq_refl] at hb; cases hb
      exact OpOK.pure hd k (hfail _ (.inr ⟨t', q, rfl, hne⟩) he rfl) (Grew.refl k.fresh) (htup _ _ _ hrc) rfl
  · rename_i h1
    have he := Rel.nilif_ (show Rel γ w .nilif (a.eval ox) from cp_val k hx h1 rfl)
    split at hv <;> cases hv
    exact OpOK.pure hd k (hfail _ (.inl rfl) he rfl) (Grew.refl k.fresh) (htup _ _ _ hrc) rfl
  · cases hv
theorem s_len {ox : Operand} {x : X} {t : TypeId} {st : Bool} (hop : o.op = .call { callee := .builtin .len, args := #[ox], argTypes := #[t] }) (hu : (st = true ∧ P.underlying t = some .string) ∨ (st = false ∧ ∃ e, P.underlying t = some (.slice e))) (hx : cmpX ox = some x)
    (hd : ∀ t, o.dst = some t → t < a.tmps.size) (k : SR γ s a w) {v : AV} (hv : pop o.dst (.len st x) s.view = some v) : OpOK P γ s o { v := v } a w := by
  simp only [pop] at hv
  split at hv
  · rename_i b h1
    cases hv
    rcases hu with ⟨_, hu⟩ | ⟨h, _⟩
    · have e := Rel.str_ (show Rel γ w (.str b) (a.eval ox) from cp_val k hx h1 rfl)
      exact pure_val (c := .int .i64 b.size) hd k (by simp [execOp, hop, resolve, invoke, builtin, e, Builtin.len_, run_underlying hu, Sem.run_bind, goInt]) (.int _ _)
    · cases h
  · rename_i sz l h1
    cases hv
    rcases hu with ⟨h, _⟩ | ⟨_, e, hu⟩
    · cases h
    · obtain ⟨ad, cap, e, _⟩ := Rel.slv (show Rel γ w (.sl sz l) (a.eval ox) from cp_val k hx h1 rfl)
      exact pure_val (c := .int .i64 l.length) hd k (by simp [execOp, hop, resolve, invoke, builtin, e, Builtin.len_, run_underlying hu, Sem.run_bind, goInt]) (.int _ _)
  · rename_i h1
    cases hv
    rcases hu with ⟨h, _⟩ | ⟨_, e, hu⟩
    · cases h
    · have e := Rel.nsl_ (show Rel γ w .nsl (a.eval ox) from cp_val k hx h1 rfl)
      exact pure_val (c := .int .i64 0) hd k (by simp [execOp, hop, resolve, invoke, builtin, e, Builtin.len_, run_underlying hu, Sem.run_bind, goInt]) (.int _ _)
  · rename_i id sz lo n h1
    cases hv
    rcases hu with ⟨h, _⟩ | ⟨_, e, hu⟩
    · cases h
    · obtain ⟨cap, arr, ty, e, _⟩ := Rel.hslv (show Rel γ w (.hsl id sz lo n) (a.eval ox) from cp_val k hx h1 rfl)
      exact pure_val (c := .int .i64 n) hd k (by simp [execOp, hop, resolve, invoke, builtin, e, Builtin.len_, run_underlying hu, Sem.run_bind, goInt]) (.int _ _)
  · cases hv
end
end Go.Am

set_option linter.unusedSimpArgs false
set_option linter.unusedVariables false
open Go.RowKit
namespace Go.Am
section
variable {P : Program} {γ γ' : Gh} {s : AS} {a : Act} {w w' : World} {o : Oper}

theorem add_at (b p n : Nat) : (⟨b, p, none⟩ : Addr).add n = ⟨b, p + n, none⟩ := by
  unfold Addr.add
  split <;> simp_all
theorem s_iaddr {ox oi : Operand} {x i : X} {t e : TypeId} {sz : Nat} (hop : o.op = .indexAddr t ox oi) (hu : P.underlying t = some (.slice e)) (hs : szT P e = some sz) (hx : cmpX ox = some x) (hi : cmpX oi = some i)
    (hd : ∀ t, o.dst = some t → t < a.tmps.size) (k : SR γ s a w) {v : AV} (hv : pop o.dst (.iaddr x i sz) s.view = some v) : OpOK P γ s o { v := v } a w := by
  simp only [pop] at hv
  split at hv
  · rename_i sz' es kd n h1 h2
    split at hv
    · rename_i el h3 h4 h5
      cases hv
      have := Nat.eq_of_beq_eq_true h5
      subst this
      obtain ⟨ad, cap, e1, _, _, _, hz, hne⟩ := Rel.slv (show Rel γ w (.sl sz es) (a.eval ox) from cp_val k hx h1 rfl)
      have e2 := ev_int k hi h2
      have h3 := of_decide_eq_true h3
      have hlt : n.toNat < es.length := (List.getElem?_eq_some_iff.1 h4).1
      obtain ⟨b, q, rfl, vs, hc⟩ := hne (by intro h; subst h; simp at hlt)
      refine pure_val (c := .pointer (some ⟨b, q + n.toNat * sz, none⟩)) hd k ?_ ?_
      · simp only [execOp, hop, e1, e2]
        refine run_v ?_
        have : n < es.length := by omega
        simp [Instr.indexAt, asIntOf, Sem.run_bind, run_underlying hu, h3, this, run_sz hs, add_at]
      · exact .fptr el 0 b (q + n.toNat * sz) (vs n.toNat) (fun j c hj => ⟨(hc _ _ _ _ h4 hj).1, (hc _ _ _ _ h4 hj).2.1⟩) (fun j c hj => (hc _ _ _ _ h4 hj).2.2.1) (fun j c hj => (hc _ _ _ _ h4 hj).2.2.2)
    · cases hv
  · rename_i id sz' lo len kd n h1 h2
    split at hv
    · rename_i h3 h4 h5
      cases hv
      have := Nat.eq_of_beq_eq_true h5
      subst this
      obtain ⟨cap, arr, ty, e1, hid, _⟩ := Rel.hslv (show Rel γ w (.hsl id sz lo len) (a.eval ox) from cp_val k hx h1 rfl)
      have e2 := ev_int k hi h2
      have h3 := of_decide_eq_true h3
      have h4 := of_decide_eq_true h4
      refine pure_val (c := .pointer (some ⟨γ.blk id, (lo + n.toNat) * sz, none⟩)) hd k ?_ (.hptr id _ hid)
      simp only [execOp, hop, e1, e2]
      refine run_v ?_
      simp [Instr.indexAt, asIntOf, Sem.run_bind, run_underlying hu, h3, h4, run_sz hs, add_at, Nat.add_mul]
    · cases hv
  · cases hv
theorem s_iaddrA {ox oi : Operand} {x i : X} {t e : TypeId} {len sz : Nat} (hop : o.op = .indexAddr t ox oi) (hu : P.underlying t = some (.array len e)) (hs : szT P e = some sz) (hx : cmpX ox = some x) (hi : cmpX oi = some i)
    (hd : ∀ t, o.dst = some t → t < a.tmps.size) (k : SR γ s a w) {v : AV} (hv : pop o.dst (.iaddrA x i len sz) s.view = some v) : OpOK P γ s o { v := v } a w := by
  have hrun : ∀ b p n kd, a.eval ox = .pointer (some ⟨b, p, none⟩) → a.eval oi = .int kd n → 0 ≤ n → n < len → (execOp a.eval o).run P w = .ok (.value (.pointer (some ⟨b, p + n.toNat * sz, none⟩))) w := by
    intro b p n kd e1 e2 h3 h4
    simp only [execOp, hop, e1, e2]
    refine run_v ?_
    simp [Instr.indexAt, Instr.sureAddr, asIntOf, Sem.run_bind, run_underlying hu, h3, h4, run_sz hs, add_at]
  simp only [pop] at hv
  split at hv
  · rename_i id p kd n h1 h2
    split at hv
    · rename_i h3 h4
      cases hv
      obtain ⟨hid, e1⟩ := (ev_ptr k hx h1).1 id p rfl
      exact pure_val hd k (hrun _ _ _ _ e1 (ev_int k hi h2) (of_decide_eq_true h3) (of_decide_eq_true h4)) (.hptr id _ hid)
    · cases hv
  · rename_i b p kd n h1 h2
    split at hv
    · rename_i h3 h4
      obtain ⟨rfl, h5⟩ := okv_some hv
      exact OpOK.pure hd k (hrun _ _ _ _ ((ev_ptr k hx h1).2.1 b p rfl) (ev_int k hi h2) (of_decide_eq_true h3) (of_decide_eq_true h4)) (Grew.refl k.fresh) rfl h5
    · cases hv
  · rename_i e p kd n h1 h2
    split at hv
    · rename_i h3 h4
      cases hv
      obtain ⟨b, q, e1, vs, hc⟩ := (ev_ptr k hx h1).2.2 e p rfl
      refine pure_val hd k (hrun _ _ _ _ e1 (ev_int k hi h2) (of_decide_eq_true h3) (of_decide_eq_true h4)) ?_
      rw [Nat.add_assoc]
      exact .fptr e _ b q vs (fun j c hj => ⟨(hc j c hj).1, (hc j c hj).2.1⟩) (fun j c hj => (hc j c hj).2.2.1) (fun j c hj => (hc j c hj).2.2.2)
    · cases hv
  · cases hv
theorem optX_rel (k : SR γ s a w) {ox : Option Operand} {x : Option X} (h : optX ox = some x) {z n : Int} (hb : s.view.bnd x z = some n) : (ox = none ∧ n = z) ∨ ∃ q kd, ox = some q ∧ a.eval q = .int kd n := by
  cases ox with
  | none =>
    simp [optX] at h
    subst h
    simp [View.bnd] at hb
    exact .inl ⟨rfl, hb.symm⟩
  | some q =>
    simp only [optX, Option.map_eq_some_iff] at h
    obtain ⟨y, h1, rfl⟩ := h
    simp only [View.bnd] at hb
    split at hb
    · rename_i kd m h2
      cases hb
      exact .inr ⟨q, kd, rfl, ev_int k h1 h2⟩
    · cases hb
theorem bnds_spec {lo hi : Option X} {n l h : Nat} (hb : s.view.bnds lo hi n = some (l, h)) : ∃ li hi' : Int, s.view.bnd lo 0 = some li ∧ s.view.bnd hi n = some hi' ∧ 0 ≤ li ∧ li ≤ hi' ∧ hi' ≤ n ∧ l = li.toNat ∧ h = hi'.toNat := by
  unfold View.bnds at hb
  split at hb
  · rename_i li hi' h1 h2
    split at hb
    · rename_i h3 h4 h5
      simp at hb
      exact ⟨li, hi', h1, h2, of_decide_eq_true h3, of_decide_eq_true h4, of_decide_eq_true h5, hb.1.symm, hb.2.symm⟩
    · cases hb
  · cases hb
/-- The bounds of a slice expression, as the model reckons them. -/
theorem run_bounds (k : SR γ s a w) {olo ohi : Option Operand} {lo hi : Option X} (hlo : optX olo = some lo) (hhi : optX ohi = some hi) {n l h cap : Nat} (hb : s.view.bnds lo hi n = some (l, h)) (st : Bool) (hcap : n ≤ cap) :
    (Instr.sliceBounds st n cap (olo.map a.eval) (ohi.map a.eval) none).run P w = .ok (l, h, cap) w ∧ l ≤ h ∧ h ≤ n := by
  obtain ⟨li, hi', h1, h2, h3, h4, h5, rfl, rfl⟩ := bnds_spec hb
  refine ⟨?_, by omega, by omega⟩
  have q1 := optX_rel k hlo h1
  have q2 := optX_rel k hhi h2
  have e2 : ∀ (code : BoundsCode) q kd, a.eval q = .int kd hi' → (Instr.sliceBound (a.eval q) cap code).run P w = .ok hi'.toNat w := by
    intro code q kd e
    have : hi' ≤ cap := by omega
    have : 0 ≤ hi' := by omega
    simp [Instr.sliceBound, e, asIntOf, Sem.run_bind, *]
  have e1 : ∀ (code : BoundsCode) q kd, a.eval q = .int kd li → (Instr.sliceBound (a.eval q) hi'.toNat code).run P w = .ok li.toNat w := by
    intro code q kd e
    have h6 : 0 ≤ li ∧ li ≤ (hi'.toNat : Int) := by omega
    simp only [Instr.sliceBound, e, asIntOf, Sem.run_bind, Sem.run_pure, Result.andThen_ok, if_pos h6]
  rcases q1 with ⟨rfl, rfl⟩ | ⟨q, kd, rfl, e3⟩ <;> rcases q2 with ⟨rfl, rfl⟩ | ⟨q', kd', rfl, e4⟩
  · simp [Instr.sliceBounds, Sem.run_bind]
  · simp [Instr.sliceBounds, Sem.run_bind, e2 _ _ _ e4]
  · have := e1 .sliceB q kd e3
    simp at this
    simp [Instr.sliceBounds, Sem.run_bind, this]
  · simp [Instr.sliceBounds, Sem.run_bind, e2 _ _ _ e4, e1 _ _ _ e3]
theorem s_slcS {ox : Operand} {x : X} {t : TypeId} {olo ohi : Option Operand} {lo hi : Option X} (hop : o.op = .slice t ox olo ohi none) (hu : P.underlying t = some .string) (hx : cmpX ox = some x) (hlo : optX olo = some lo) (hhi : optX ohi = some hi)
    (hd : ∀ t, o.dst = some t → t < a.tmps.size) (k : SR γ s a w) {v : AV} (hv : pop o.dst (.slcS x lo hi) s.view = some v) : OpOK P γ s o { v := v } a w := by
  simp only [pop] at hv
  split at hv
  · rename_i b h1
    split at hv
    · rename_i l h hb
      cases hv
      have e := Rel.str_ (show Rel γ w (.str b) (a.eval ox) from cp_val k hx h1 rfl)
      have hr := (run_bounds (P := P) k hlo hhi hb false (Nat.le_refl _)).1
      refine pure_val (c := .string (b.extract l h)) hd k ?_ (.str _)
      simp only [execOp, hop, e]
      refine run_v ?_
      simp [Instr.sliceAt, Instr.slice, Sem.run_bind, run_underlying hu, hr]
    · cases hv
  · cases hv
theorem s_slcL {ox : Operand} {x : X} {t e : TypeId} {sz : Nat} {olo ohi : Option Operand} {lo hi : Option X} (hop : o.op = .slice t ox olo ohi none) (hu : P.underlying t = some (.slice e)) (hs : szT P e = some sz) (hx : cmpX ox = some x) (hlo : optX olo = some lo) (hhi : optX ohi = some hi)
    (hd : ∀ t, o.dst = some t → t < a.tmps.size) (k : SR γ s a w) {v : AV} (hv : pop o.dst (.slc x lo hi sz) s.view = some v) : OpOK P γ s o { v := v } a w := by
  simp only [pop] at hv
  split at hv
  · rename_i z es h1
    split at hv
    · rename_i l h hb hzs
      cases hv
      have hzs : z = sz ∨ es = [] := by
        rcases Bool.or_eq_true_iff.1 hzs with h | h
        · exact .inl (Nat.eq_of_beq_eq_true h)
        · exact .inr (List.isEmpty_iff.1 h)
      obtain ⟨ad, cap, e1, hcap, hm, hnil, hz, hne⟩ := Rel.slv (show Rel γ w (.sl z es) (a.eval ox) from cp_val k hx h1 rfl)
      obtain ⟨hr, hlh, hh⟩ := run_bounds (P := P) k hlo hhi hb true hcap
      have hlen : ((es.take h).drop l).length = h - l := by simp; omega
      refine pure_val (c := .slice (if cap = l then ad else ad.map (·.add (l * sz))) (h - l) (cap - l)) hd k ?_ ?_
      · simp only [execOp, hop, e1]
        refine run_v ?_
        simp [Instr.sliceAt, Instr.slice, Sem.run_bind, run_underlying hu, hr, run_sz hs]
      · rw [← hlen]
        by_cases hempty : es = []
        · subst hempty
          simp at hh
          subst hh
          have : l = 0 := by omega
          subst this
          refine .sl sz _ _ _ (fun _ _ => undef) (by simp) (by simp) (fun hn => ?_) (by simp) (by simp) (by simp) (by simp)
          by_cases hc : cap = 0
          · omega
          · rw [if_neg hc] at hn
            cases ad with
            | none => exact absurd (hnil rfl) hc
            | some ad => simp at hn
        · have hzz : z = sz := hzs.resolve_right hempty
          subst hzz
          obtain ⟨b, q, rfl, vs, hc⟩ := hne hempty
          have hget : ∀ (i : Nat) (el : AV), ((es.take h).drop l)[i]? = some el → es[l + i]? = some el := by
            intro i el hi
            rw [List.getElem?_drop, List.getElem?_take] at hi
            split at hi
            · exact hi
            · cases hi
          refine .sl z _ _ _ (fun i j => vs (l + i) j) (fun i el hi => hz _ el (hget i el hi)) (fun hne2 => ?_) (fun hn => ?_) (fun i el j c hi hj => (hc _ _ _ _ (hget i el hi) hj).2.2.1) (fun i el j c hi hj => (hc _ _ _ _ (hget i el hi) hj).2.2.2) (by omega) (by omega)
          · have hc2 : ¬ cap = l := by
              intro hcl
              apply hne2
              apply List.eq_nil_of_length_eq_zero
              omega
            refine ⟨b, q + l * z, ?_, fun i el j c hi hj => ?_⟩
            · rw [if_neg hc2]
              simp [add_at]
            · have := hc _ _ _ _ (hget i el hi) hj
              rw [show q + l * z + i * z + j = q + (l + i) * z + j by rw [Nat.add_mul]; omega]
              exact ⟨this.1, this.2.1⟩
          · split at hn <;> simp at hn
    · cases hv
  · rename_i h1
    split at hv
    · rename_i p hb
      obtain ⟨l, h⟩ := p
      cases hv
      have e1 := Rel.nsl_ (show Rel γ w .nsl (a.eval ox) from cp_val k hx h1 rfl)
      obtain ⟨hr, hlh, hh⟩ := run_bounds (P := P) (cap := 0) k hlo hhi hb true (Nat.le_refl _)
      have h0 : h = 0 := by omega
      have l0 : l = 0 := by omega
      subst h0 l0
      refine pure_val (c := .slice none 0 0) hd k ?_ .nsl
      simp only [execOp, hop, e1]
      refine run_v ?_
      simp [Instr.sliceAt, Instr.slice, Sem.run_bind, run_underlying hu, hr, run_sz hs]
    · cases hv
  · rename_i id z lo' len h1
    split at hv
    · rename_i l h hb hzs
      obtain ⟨cap, arr, ty, e1, hid, hblk, hfit, hcap, hm⟩ := Rel.hslv (show Rel γ w (.hsl id z lo' len) (a.eval ox) from cp_val k hx h1 rfl)
      have hzz := Nat.eq_of_beq_eq_true hzs
      subst hzz
      obtain ⟨hr, hlh, hh⟩ := run_bounds (P := P) k hlo hhi hb true hcap
      have hrun : (execOp a.eval o).run P w = .ok (.value (.slice (if cap = l then some ⟨γ.blk id, lo' * z, none⟩ else some ⟨γ.blk id, lo' * z + l * z, none⟩) (h - l) (cap - l))) w := by
        simp only [execOp, hop, e1]
        refine run_v ?_
        simp [Instr.sliceAt, Instr.slice, Sem.run_bind, run_underlying hu, hr, run_sz hs, add_at]
      split at hv <;> cases hv
      · rename_i h0
        refine pure_val hd k hrun ?_
        rw [h0]
        exact .sl z [] _ _ (fun _ _ => undef) (by simp) (by simp) (fun hn => by split at hn <;> simp at hn) (by simp) (by simp) (by simp) (by simp)
      · rename_i m h0
        rw [if_neg (by omega), h0] at hrun
        refine pure_val hd k hrun ?_
        rw [← Nat.add_mul]
        exact .hsl id z (lo' + l) (m + 1) (cap - l) arr ty hid hblk (by rw [show lo' + l + (cap - l) = lo' + cap by omega]; exact hfit) (by omega) (by omega)
    · cases hv
  · cases hv
end
end Go.Am

set_option linter.unusedSimpArgs false
set_option linter.unusedVariables false
open Go.RowKit
namespace Go.Am
section
variable {P : Program} {γ γ' : Gh} {s : AS} {a : Act} {w w' : World} {o : Oper}

theorem bytesA_spec : ∀ {l : List AV} {bs : List UInt8}, bytesA l = some bs → ∃ xs : List Int, l = xs.map (AV.int .u8) ∧ bs = xs.map fun n => UInt8.ofNat n.toNat
  | [], bs, h => by simp [bytesA] at h; exact ⟨[], rfl, h⟩
  | x :: l, bs, h => by
    cases x with
    | int k n =>
      cases k with
      | u8 =>
        simp only [bytesA, Option.map_eq_some_iff] at h
        obtain ⟨bs', h1, rfl⟩ := h
        obtain ⟨xs, rfl, rfl⟩ := bytesA_spec h1
        exact ⟨n :: xs, rfl, rfl⟩
      | _ => simp [bytesA] at h
    | _ => simp [bytesA] at h
theorem s_b2s {ox : Operand} {x : X} {S D e : TypeId} (hop : o.op = .convert S D ox) (hs : P.underlying S = some (.slice e)) (he : P.underlying e = some (.int .u8)) (hD : P.underlying D = some .string) (hx : cmpX ox = some x)
    (hd : ∀ t, o.dst = some t → t < a.tmps.size) (k : SR γ s a w) {v : AV} (hv : pop o.dst (.b2s x) s.view = some v) : OpOK P γ s o { v := v } a w := by
  simp only [pop] at hv
  split at hv
  · rename_i sz l h1
    split at hv
    · rename_i bs h2
      cases hv
      obtain ⟨xs, rfl, rfl⟩ := bytesA_spec h2
      obtain ⟨ad, cap, e1, _, _, _, hz, hne⟩ := Rel.slv (show Rel γ w (.sl sz (xs.map (AV.int .u8))) (a.eval ox) from cp_val k hx h1 rfl)
      refine pure_val (c := .string ⟨(xs.map fun n => UInt8.ofNat n.toNat).toArray⟩) hd k ?_ (.str _)
      simp only [execOp, hop, e1]
      refine run_v ?_
      by_cases hx0 : xs = []
      · subst hx0
        cases ad with
        | none => exact run_convert_bytes_nil (P := P) w S e hs he _ _ D hD
        | some ad =>
          have hl : (loadCells ad 0).run P w = .ok #[] w := by simp [loadCells, loadCellsFrom]
          have := run_convert_bytes_string w S D e (some ad) 0 cap hs he hD
          simp only [List.map_nil, List.length_nil]
          rw [this, run_bytesToString w ad 0 cap [] (by simpa using hl)]
          rfl
      · obtain ⟨b, q, rfl, vs, hc⟩ := hne (by simpa using hx0)
        have h1' : sz = 1 := by
          cases xs with
          | nil => exact absurd rfl hx0
          | cons x xs => exact (hz 0 (.int .u8 x) (by simp)).symm
        subst h1'
        refine run_convert_bytes_arg (P := P) w S e hs he b q _ cap xs (by simp) (fun i hi => ?_) D hD
        simp at hi
        have hg : (xs.map (AV.int .u8))[i]? = some (.int .u8 xs[i]) := by simp [hi]
        obtain ⟨h3, _, h4, _⟩ := hc i _ 0 (.int .u8 xs[i]) hg rfl
        rw [h4.int_] at h3
        simpa [List.getD_eq_getElem?_getD, hi] using h3
    · cases hv
  · rename_i h1
    cases hv
    have e1 := Rel.nsl_ (show Rel γ w .nsl (a.eval ox) from cp_val k hx h1 rfl)
    refine pure_val (c := .string ⟨#[]⟩) hd k ?_ (.str _)
    simp only [execOp, hop, e1]
    refine run_v ?_
    exact run_convert_bytes_nil (P := P) w S e hs he _ _ D hD
  · cases hv
theorem foldA_rel {f : AV → AV → Option AV} {g : Value → Value → Sem Value} (hfg : ∀ (x y z : AV) (c c' : Value), f x y = some z → Rel γ w x c → Rel γ w y c' → ∃ q, (g c c').run P w = .ok q w ∧ Rel γ w z q) :
    ∀ {xs : List AV} {cs : List Value} {x z : AV} {c : Value}, xs.length = cs.length → (∀ (i : Nat) (u : AV) (q : Value), xs[i]? = some u → cs[i]? = some q → Rel γ w u q) → Rel γ w x c → foldA f x xs = some z → ∃ q, (cs.foldlM g c).run P w = .ok q w ∧ Rel γ w z q
  | [], [], x, z, c, _, _, h, hz => by
    simp [foldA] at hz
    subst hz
    exact ⟨c, rfl, h⟩
  | u :: xs, q :: cs, x, z, c, hl, hr, h, hz => by
    simp only [foldA] at hz
    split at hz
    · rename_i v hv
      obtain ⟨q1, h1, h2⟩ := hfg x u v c q hv h (hr 0 u q (by simp) (by simp))
      obtain ⟨q2, h3, h4⟩ := foldA_rel hfg (by simpa using hl) (fun i u q hu hq => hr (i + 1) u q (by simpa using hu) (by simpa using hq)) h2 hz
      refine ⟨q2, ?_, h4⟩
      simp only [List.foldlM_cons, Sem.run_bind, h1, Result.andThen_ok, h3]
    · cases hz
  | [], _ :: _, _, _, _, hl, _, _, _ => by simp at hl
  | _ :: _, [], _, _, _, hl, _, _, _ => by simp at hl
theorem s_mxn {b : Builtin} {oxs : Array Operand} {ts : Array TypeId} {xs : List X} {f : AV → AV → Option AV} {ao : AOp} (hb : (b = .max ∧ f = amax ∧ ao = .mx xs) ∨ (b = .min ∧ f = amin ∧ ao = .mn xs)) (hop : o.op = .call { callee := .builtin b, args := oxs, argTypes := ts }) (hx : cmpXs oxs.toList = some xs)
    (hd : ∀ t, o.dst = some t → t < a.tmps.size) (k : SR γ s a w) {v : AV} (hv : pop o.dst ao s.view = some v) : OpOK P γ s o { v := v } a w := by
  have key : ∀ (v0 : AV) (vs : List AV), valAll s.view xs = some (v0 :: vs) → ∃ c cs, oxs.toList.map a.eval = c :: cs ∧ vs.length = cs.length ∧ Rel γ w v0 c ∧ ∀ (i : Nat) (u : AV) (q : Value), vs[i]? = some u → cs[i]? = some q → Rel γ w u q := by
    intro v0 vs h
    obtain ⟨h1, h2⟩ := valAll_rel k hx h
    cases hl : oxs.toList with
    | nil => rw [hl] at h1; simp at h1
    | cons ox oxs' =>
      rw [hl] at h1 h2
      refine ⟨a.eval ox, oxs'.map a.eval, rfl, by simpa using h1, h2 0 v0 ox (by simp) (by simp), fun i u q hu hq => ?_⟩
      simp only [List.getElem?_map, Option.map_eq_some_iff] at hq
      obtain ⟨oy, h3, rfl⟩ := hq
      exact h2 (i + 1) u oy (by simpa using hu) (by simpa using h3)
  rcases hb with ⟨rfl, rfl, rfl⟩ | ⟨rfl, rfl, rfl⟩
  · simp only [pop] at hv
    split at hv
    · rename_i v0 vs h1
      obtain ⟨c, cs, h2, h3, h4, h5⟩ := key v0 vs h1
      obtain ⟨q, h6, h7⟩ := foldA_rel (P := P) (f := amax) (g := Builtin.max2) (fun x y z c c' hf hx hy => by
        cases x <;> cases y <;> simp [amax] at hf
        subst hf
        exact ⟨_, by rw [hx.int_, hy.int_]; rfl, .int _ _⟩) h3 h5 h4 hv
      refine pure_val (c := q) hd k ?_ h7
      have : (Builtin.max_ ts o.type (oxs.map a.eval)).run P w = .ok q w := by
        simp only [Builtin.max_, Array.toList_map, h2, h6]
      simp [execOp, hop, resolve, invoke, builtin, Sem.run_bind, this]
    · cases hv
  · simp only [pop] at hv
    split at hv
    · rename_i v0 vs h1
      obtain ⟨c, cs, h2, h3, h4, h5⟩ := key v0 vs h1
      obtain ⟨q, h6, h7⟩ := foldA_rel (P := P) (f := amin) (g := Builtin.min2) (fun x y z c c' hf hx hy => by
        cases x <;> cases y <;> simp [amin] at hf
        subst hf
        exact ⟨_, by rw [hx.int_, hy.int_]; rfl, .int _ _⟩) h3 h5 h4 hv
      refine pure_val (c := q) hd k ?_ h7
      have : (Builtin.min_ ts o.type (oxs.map a.eval)).run P w = .ok q w := by
        simp only [Builtin.min_, Array.toList_map, h2, h6]
      simp [execOp, hop, resolve, invoke, builtin, Sem.run_bind, this]
    · cases hv
end
end Go.Am

set_option linter.unusedSimpArgs false
set_option linter.unusedVariables false
open Go.RowKit
namespace Go.Am
section
variable {P : Program} {γ γ' : Gh} {s : AS} {a : Act} {w w' : World} {o : Oper}

/-! ### 10. Memory -/
/-- An operand handed on, whatever it is. -/
theorem SR.handed (k : SR γ s a w) {ox : Operand} {x : X} (hx : cmpX ox = some x) {v : AV} (hv : s.view.ev x = some v) (to : Nat → Nat → Owner) :
    ∃ γ', Ext γ w γ' w ∧ SR γ' { s with tm := puts s.tm (left x v) } a w ∧ RelT γ' w to v (a.eval ox) ∧ (∀ b j, γ.own b j ≠ .dead ∨ ∀ q, γ.own b j = q → γ'.own b j = q) ∧ γ'.bxb = γ.bxb ∧ γ'.nh = γ.nh ∧ γ'.blk = γ.blk := by
  cases x with
  | t n =>
    have e : ox = .tmp n := by
      cases ox with
      | tmp t => simp [cmpX] at hx; rw [hx]
      | const c => simp [cmpX] at hx
      | func f => simp [cmpX] at hx
      | global g => simp [cmpX] at hx
    subst e
    obtain ⟨h1, h2⟩ := k.give n v hv to
    refine ⟨_, (mvLab_turn n to).ext γ w, h1, h2, fun b j => ?_, rfl, rfl, rfl⟩
    by_cases hq : γ.own b j = .dead
    · right
      intro q hq'
      show mvLab n to (γ.own b j) = q
      rw [hq] at hq' ⊢
      exact hq'
    · exact .inl hq
  | c u =>
    cases hv
    exact ⟨γ, Ext.refl γ w, k, (cmpX_const hx to γ w).1, fun b j => .inr fun q h => h, rfl, rfl, rfl⟩
theorem s_mvs {ox : Operand} {x : X} (hop : o.op = .move ox ∨ o.op = .assign ox) (hx : cmpX ox = some x) (hd : ∀ t, o.dst = some t → t < a.tmps.size) (k : SR γ s a w) {e : Eff} (hv : aop o.dst (.mv x true) s.view = some e) :
    OpOK P γ s o e a w := by
  simp only [aop] at hv
  split at hv
  · rename_i v h1
    split at hv
    · rename_i h2
      cases hv
      obtain ⟨γ', h3, h4, h5, _⟩ := k.handed hx h1 (labd o.dst)
      exact OpOK.value (c := a.eval ox) (by rcases hop with hop | hop <;> simp [execOp, hop]) h3 (h4.setd o.dst v _ hd h5 h2)
    · cases hv
  · cases hv
/-- Temporaries that are forgotten. -/
theorem SR.forget (k : SR γ s a w) : ∀ (l : List Nat), SR γ { s with tm := puts s.tm (l.map (·, .undef)) } a w ∧ ∀ t v, look (puts s.tm (l.map (·, AV.undef))) t = some v → v = .undef ∨ (look s.tm t = some v ∧ l.elem t = false) := by
  intro l
  induction l generalizing s with
  | nil => exact ⟨k, fun t v h => .inr ⟨h, rfl⟩⟩
  | cons n l ih =>
    have k' : SR γ { s with tm := put s.tm n .undef } a w := by
      refine { k.toWR with tm := fun t v hv => ?_, bx := k.bx, dep := fun t b off hv => ?_, df := k.df }
      · simp only [look_put] at hv
        split at hv
        · cases hv; trivial
        · exact k.tm t v hv
      · simp only [look_put] at hv
        split at hv
        · cases hv
        · exact k.dep t b off hv
    obtain ⟨h1, h2⟩ := ih k'
    refine ⟨h1, fun t v hv => ?_⟩
    rcases h2 t v hv with h | ⟨h3, h4⟩
    · exact .inl h
    · simp only [look_put] at h3
      split at h3
      · cases h3; exact .inl rfl
      · rename_i hne
        refine .inr ⟨h3, ?_⟩
        have e : (t == n) = false := beq_eq_false_iff_ne.2 hne
        simp only [List.elem_cons, h4, e]
theorem puts_append (l : List (Nat × AV)) : ∀ (x y : List (Nat × AV)), puts l (x ++ y) = puts (puts l x) y
  | [], y => rfl
  | (t, v) :: x, y => puts_append (put l t v) x y
/-- A new variable of the frame's own. -/
def Gh.newBox (γ : Gh) (n d : Nat) : Gh := { γ with own := fun b j => if b = n then .box d else γ.own b j, bxb := fun b => if b = d then n else γ.bxb b }
theorem newBox_bxb (γ : Gh) (n d : Nat) : (γ.newBox n d).bxb d = n := by simp [Gh.newBox]
theorem newBox_own (γ : Gh) (n d j : Nat) : (γ.newBox n d).own n j = .box d := by simp [Gh.newBox]
theorem SR.newBox (k : SR γ s a w) (d : Nat) (hno : ∀ t off, look s.tm t ≠ some (.lptr d off)) {cs : List AV} {arr : Array Value} {ty : TypeId} (hl : arr.size = cs.length)
    (hc : ∀ (j : Nat) (x : AV) (y : Value), cs[j]? = some x → arr[j]? = some y → RelX γ w (.sp (.bx d j)) x y) (h1 : ∀ (j : Nat) (x : AV), cs[j]? = some x → x.one = true) :
    Ext γ w (γ.newBox w.heap.size d) (w.alloc (.cells arr ty (0, 0))) ∧ SR (γ.newBox w.heap.size d) { s with bx := put s.bx d cs } a (w.alloc (.cells arr ty (0, 0))) := by
  have g := Grew.new k.fresh (.box d) (.cells arr ty (0, 0))
  have k1 := k.grew g
  have m : Mono (γ.new w.heap.size (.box d)) (w.alloc (.cells arr ty (0, 0))) (γ.newBox w.heap.size d) (w.alloc (.cells arr ty (0, 0))) := ⟨fun b j h => ⟨h, rfl⟩, fun b arr ty fr h => ⟨arr, h, rfl⟩, fun _ _ => rfl, Nat.le_refl _⟩
  have hm : ∀ {v : AV} {c : Value}, Rel (γ.new w.heap.size (.box d)) (w.alloc (.cells arr ty (0, 0))) v c → Rel (γ.newBox w.heap.size d) (w.alloc (.cells arr ty (0, 0))) v c := fun h => h.mono m
  refine ⟨⟨⟨g.ext.claim, g.ext.shape, g.ext.blk, g.ext.nh⟩, g.ext.foreign, rfl, rfl, g.ext.size⟩, ?_⟩
  refine { below := k1.below, base := k1.base, ownb := k1.ownb, fresh := k1.fresh, nh := k1.nh, hp := fun id ob ho => ?_, tm := fun t v hv => ?_, bx := fun b bs hb => ?_, dep := k.dep, df := ⟨k1.df.1, fun i dd f vs hd hf => ?_⟩ }
  · have := k1.hp id ob ho
    cases ob with
    | obj cs' =>
      obtain ⟨ar, t', q1, q2, q3, q4, q5, q6⟩ := this
      exact ⟨ar, t', q1, q2, fun k c v hc hv => (q3 k c v hc hv).mono m (fun _ _ h => h), q4, q5, q6⟩
    | dead => trivial
    | map es =>
      obtain ⟨ms, clock, q1, q2, q3, q4, q5⟩ := this
      exact ⟨ms, clock, q1, q2, fun i k v e he hm' => ⟨hm (q3 i k v e he hm').1, hm (q3 i k v e he hm').2⟩, q4, q5⟩
  · have := k1.tm t v hv
    refine this.mono m (fun _ _ _ _ h => h) (fun b off e => ?_)
    subst e
    have : ¬ b = d := fun e => hno t off (by rw [← e]; exact hv)
    show (if b = d then _ else _) = _
    rw [if_neg this]
    rfl
  · simp only [look_put] at hb
    split at hb
    · rename_i e
      subst e
      cases hb
      rw [newBox_bxb]
      refine ⟨arr, ty, heap_alloc_new w _, hl, fun j x y hx hy => ?_, h1, fun j => newBox_own _ _ _ _, k.base⟩
      · exact ((hc j x y hx hy).mono g.ext.toMono (fun b' j' h => g.sp k.fresh _ (by simp) b' j' h)).mono m (fun _ _ h => h)
    · rename_i hne
      obtain ⟨ar, t', q1, q2, q3, q4, q5, q6⟩ := k1.bx b bs hb
      have e : (γ.newBox w.heap.size d).bxb b = (γ.new w.heap.size (.box d)).bxb b := by
        show (if b = d then _ else _) = _
        rw [if_neg hne]
        rfl
      rw [e]
      exact ⟨ar, t', q1, q2, fun k c v hc hv => (q3 k c v hc hv).mono m (fun _ _ h => h), q4, q5, q6⟩
  · obtain ⟨gf, arr1, caps, arr2, q1, q2, q3, q4, q5, q6, q7⟩ := k1.df.2 i dd f vs hd hf
    exact ⟨gf, arr1, caps, arr2, q1, q2, q3, q4, q5, fun j c v hc hv => hm (q6 j c v hc hv), fun j c v hc hv => hm (q7 j c v hc hv)⟩
/-- A new object on the heap. -/
def Gh.newObj (γ : Gh) (n : Nat) : Gh := { γ with own := fun b j => if b = n then .obj γ.nh else γ.own b j, blk := fun i => if i = γ.nh then n else γ.blk i, nh := γ.nh + 1 }
theorem SR.newObj (k : SR γ s a w) (ob : Obj) (ho : HObj) (hh : HR (γ.newObj w.heap.size) (w.alloc ob) γ.nh ho) :
    Ext γ w (γ.newObj w.heap.size) (w.alloc ob) ∧ SR (γ.newObj w.heap.size) { s with hp := s.hp ++ [ho] } a (w.alloc ob) := by
  have g := Grew.new k.fresh (.obj γ.nh) ob
  have k1 := k.grew g
  have m : Mono (γ.new w.heap.size (.obj γ.nh)) (w.alloc ob) (γ.newObj w.heap.size) (w.alloc ob) := by
    refine ⟨fun b j h => ⟨h, rfl⟩, fun b arr ty fr h => ⟨arr, h, rfl⟩, fun id hi => ?_, Nat.le_succ _⟩
    have hi' : id < γ.nh := hi
    show (if id = γ.nh then _ else _) = _
    rw [if_neg (Nat.ne_of_lt hi')]
    rfl
  have hm : ∀ {v : AV} {c : Value}, Rel (γ.new w.heap.size (.obj γ.nh)) (w.alloc ob) v c → Rel (γ.newObj w.heap.size) (w.alloc ob) v c := fun h => h.mono m
  refine ⟨⟨⟨g.ext.claim, g.ext.shape, fun id hi => ?_, Nat.le_succ _⟩, g.ext.foreign, rfl, rfl, g.ext.size⟩, ?_⟩
  · exact m.blk id hi
  refine { below := k1.below, base := k1.base, ownb := k1.ownb, fresh := k1.fresh, nh := by simp [Gh.newObj, k.nh], hp := fun id ob' ho' => ?_, tm := fun t v hv => ?_, bx := fun b bs hb => ?_, dep := k.dep, df := ⟨k1.df.1, fun i dd f vs hd hf => ?_⟩ }
  · rcases Nat.lt_or_ge id s.hp.length with hlt | hge
    · rw [List.getElem?_append_left hlt] at ho'
      have hid : id < γ.nh := by rw [k.nh]; exact hlt
      have e : (γ.newObj w.heap.size).blk id = (γ.new w.heap.size (.obj γ.nh)).blk id := m.blk id hid
      have := k1.hp id ob' ho'
      cases ob' with
      | obj cs' =>
        obtain ⟨ar, t', q1, q2, q3, q4, q5, q6⟩ := this
        unfold HR
        rw [e]
        exact ⟨ar, t', q1, q2, fun k c v hc hv => (q3 k c v hc hv).mono m (fun _ _ h => h), q4, q5, q6⟩
      | dead => trivial
      | map es =>
        obtain ⟨ms, clock, q1, q2, q3, q4, q5⟩ := this
        unfold HR
        rw [e]
        exact ⟨ms, clock, q1, q2, fun i k v e he hm' => ⟨hm (q3 i k v e he hm').1, hm (q3 i k v e he hm').2⟩, q4, q5⟩
    · rw [List.getElem?_append_right hge] at ho'
      have h0 : id = γ.nh := by
        have := (List.getElem?_eq_some_iff.1 ho').1
        simp at this
        rw [k.nh]
        omega
      subst h0
      have : γ.nh - s.hp.length = 0 := by rw [k.nh]; omega
      rw [this] at ho'
      simp at ho'
      subst ho'
      exact hh
  · exact (k1.tm t v hv).mono m (fun _ _ _ _ h => h) (fun _ _ _ => rfl)
  · obtain ⟨ar, t', q1, q2, q3, q4, q5, q6⟩ := k1.bx b bs hb
    exact ⟨ar, t', q1, q2, fun k c v hc hv => (q3 k c v hc hv).mono m (fun _ _ h => h), q4, q5, q6⟩
  · obtain ⟨gf, arr1, caps, arr2, q1, q2, q3, q4, q5, q6, q7⟩ := k1.df.2 i dd f vs hd hf
    exact ⟨gf, arr1, caps, arr2, q1, q2, q3, q4, q5, fun j c v hc hv => hm (q6 j c v hc hv), fun j c v hc hv => hm (q7 j c v hc hv)⟩
theorem newObj_own (γ : Gh) (n j : Nat) : (γ.newObj n).own n j = .obj γ.nh := by
  show (if n = n then _ else _) = _
  rw [if_pos rfl]
theorem newObj_blk (γ : Gh) (n : Nat) : (γ.newObj n).blk γ.nh = n := by
  show (if γ.nh = γ.nh then _ else _) = _
  rw [if_pos rfl]
/-- A value's cells, each at a place. -/
theorem RelC.cellsX {lb : Nat → Owner} {v : AV} {c : Value} (h : RelC γ w lb v c) (hi : v.isV = true) : c.cells.size = v.cells.length ∧ (∀ (j : Nat) (x : AV) (y : Value), v.cells[j]? = some x → c.cells[j]? = some y → RelX γ w (lb j) x y) ∧ (∀ (j : Nat) (x : AV), v.cells[j]? = some x → x.one = true) := by
  by_cases hq : ∃ cs, v = .agg cs
  · obtain ⟨cs, rfl⟩ := hq
    obtain ⟨arr, rfl, h1, h2, h3⟩ := h
    exact ⟨h1, h2, h3⟩
  · have h1 : v.one = true := by cases v <;> first | rfl | exact absurd ⟨_, rfl⟩ hq
    have h2 : v.cells = [v] := by cases v <;> first | rfl | exact absurd ⟨_, rfl⟩ hq
    have hx := RelC.x h1 h
    have hv : Rel γ w v.dg1 c := hx.dg
    have h1' : v.dg1.one = true := dg1_one v h1
    rw [(hv.one_ h1').2, h2]
    refine ⟨rfl, fun j x y hx' hy => ?_, fun j x hx' => ?_⟩
    · cases j with
      | zero => simp at hx' hy; subst hx' hy; exact hx
      | succ j => simp at hx'
    · cases j with
      | zero => simp at hx'; subst hx'; exact h1
      | succ j => simp at hx'
/-- 'newVar' behind an operand that was handed on (or none). -/
theorem newVar_ok {d : Option Nat} {heap : Bool} {cs : List AV} {tw : List (Nat × AV)} {e : Eff} {c : Value} {ty : TypeId} {γ1 : Gh} (hdst : ∀ t, d = some t → t < a.tmps.size)
    (hE : Ext γ w γ1 w) (k : SR γ1 { s with tm := puts s.tm tw } a w) (hv : s.view.newVar d heap cs tw = some e)
    (hsz : c.cells.size = cs.length) (h1 : ∀ (j : Nat) (x : AV), cs[j]? = some x → x.one = true)
    (hcb : ∀ t, d = some t → heap = false → ∀ (j : Nat) (x : AV) (y : Value), cs[j]? = some x → c.cells[j]? = some y → RelX γ1 w (.sp (.bx t j)) x y)
    (hch : heap = true → ∀ (j : Nat) (x : AV) (y : Value), cs[j]? = some x → c.cells[j]? = some y → RelX γ1 w (.sp (.hp γ.nh j)) x y) (hnh : γ1.nh = γ.nh) :
    ∃ γ', Ext γ w γ' (w.alloc (.cells c.cells ty (0, 0))) ∧ SR γ' (s.apply d e) (a.put d (.pointer (some ⟨w.heap.size, 0, none⟩))) (w.alloc (.cells c.cells ty (0, 0))) := by
  unfold View.newVar at hv
  split at hv
  · cases hv
    have k2 := k.newObj (.cells c.cells ty (0, 0)) (.obj cs) (by
      have g := Grew.new k.fresh (.obj γ1.nh) (.cells c.cells ty (0, 0))
      have m : Mono γ1 w (γ1.newObj w.heap.size) (w.alloc (.cells c.cells ty (0, 0))) := ⟨g.ext.claim, g.ext.shape, fun id hi => by show (if id = γ1.nh then _ else _) = _; rw [if_neg (Nat.ne_of_lt hi)], Nat.le_succ _⟩
      unfold HR
      rw [newObj_blk]
      refine ⟨c.cells, ty, heap_alloc_new w _, hsz, fun j x y hx hy => ?_, h1, fun j => newObj_own _ _ _, k.base⟩
      rw [hnh]
      exact (hch rfl j x y hx hy).mono m (fun b j h => g.sp k.fresh _ (by simp) b j h))
    refine ⟨_, hE.trans k2.1, ?_⟩
    have hnh' : γ1.nh = s.hp.length := k.nh
    have := k2.2.setd d (.hptr s.hp.length 0) (.pointer (some ⟨w.heap.size, 0, none⟩)) hdst (by
      have : Rel (γ1.newObj w.heap.size) (w.alloc (.cells c.cells ty (0, 0))) (.hptr γ1.nh 0) (.pointer (some ⟨(γ1.newObj w.heap.size).blk γ1.nh, 0, none⟩)) := .hptr _ _ (Nat.lt_succ_self _)
      rw [newObj_blk] at this
      rw [← hnh']
      exact this.t) rfl
    exact this
  · rename_i t
    split at hv
    · rename_i l hl
      split at hv
      · rename_i he
        cases hv
        obtain ⟨k1, k2⟩ := k.forget l
        have hno : ∀ t' off, look (puts (puts s.tm tw) (l.map (·, AV.undef))) t' ≠ some (.lptr t off) := by
          intro t' off h
          rcases k2 t' _ h with h | ⟨h3, h4⟩
          · cases h
          · obtain ⟨l', h5, h6⟩ := k.dep t' t off h3
            have h5' : look s.dep t = some l' := h5
            have hl' : look s.dep t = some l := hl
            rw [hl'] at h5'
            cases h5'
            rw [h4] at h6
            cases h6
        obtain ⟨q1, q2⟩ := k1.newBox t hno hsz (hcb t rfl rfl) h1 (ty := ty)
        refine ⟨_, hE.trans q1, ?_⟩
        have := q2.setd (some t) (.lptr t 0) (.pointer (some ⟨w.heap.size, 0, none⟩)) hdst (by
          show _ = Value.pointer (some ⟨if t = t then _ else _, 0, none⟩)
          rw [if_pos rfl]) (by
          have hl' : look s.dep t = some l := hl
          simp only [okd, hl']
          exact he)
        rw [← puts_append] at this
        exact this
      · cases hv
    · cases hv
  · cases hv
theorem s_alloc {t : TypeId} {z : AV} {h : Bool} (hop : o.op = .alloc t) (hz : zeT P t = some z) (hd : ∀ t, o.dst = some t → t < a.tmps.size) (k : SR γ s a w) {e : Eff} (hv : aop o.dst (.alloc z.cells h) s.view = some e) : OpOK P γ s o e a w := by
  obtain ⟨i, c, hi, hzi, hcz, hsize, hcells, hrc⟩ := zeT_spec (γ := γ) (w := w) hz
  have hone : ∀ (j : Nat) (x : AV), z.cells[j]? = some x → x.one = true := fun j x hx => by
    have hl := (List.getElem?_eq_some_iff.1 hx).1
    have : j < c.cells.size := by rw [hcells.1]; exact hl
    exact (hcells.2 j x _ hx (Array.getElem?_eq_getElem this)).1
  obtain ⟨γ', h1, h2⟩ := newVar_ok (ty := t) (c := c) hd (Ext.refl γ w) (by exact k) hv hcells.1 hone (fun _ _ _ j x y hx hy => (hcells.2 j x y hx hy).2 _) (fun _ j x y hx hy => (hcells.2 j x y hx hy).2 _) rfl
  refine OpOK.value ?_ h1 h2
  simp only [execOp, hop]
  refine run_v ?_
  simp [Instr.alloc, Sem.run_bind, run_zero hi hzi, Go.newVar, newRow, newObj]
  rfl
theorem s_box {t : TypeId} {ox : Operand} {x : X} {h : Bool} (hop : o.op = .box t ox) (hx : cmpX ox = some x) (hd : ∀ t, o.dst = some t → t < a.tmps.size) (k : SR γ s a w) {e : Eff} (hv : aop o.dst (.box x h) s.view = some e) : OpOK P γ s o e a w := by
  simp only [aop] at hv
  split at hv
  · rename_i v h1
    split at hv
    · rename_i h2
      obtain ⟨γ1, q1, q2, q3, _, _, q6, _⟩ := k.handed hx h1 (fun _ j => if h = true then .sp (.hp γ.nh j) else match o.dst with | some t => .sp (.bx t j) | none => .dead)
      obtain ⟨c1, c2, c3⟩ := RelC.cellsX (RelT.c h2 q3) h2
      obtain ⟨γ', h4, h5⟩ := newVar_ok (ty := t) (c := a.eval ox) hd q1 q2 hv c1 c3 (fun t' e1 e2 j x y hx hy => by
        have := c2 j x y hx hy
        rw [e2, e1] at this
        exact this) (fun e1 j x y hx hy => by
        have := c2 j x y hx hy
        rw [e1] at this
        exact this) q6
      refine OpOK.value ?_ h4 h5
      simp only [execOp, hop]
      refine run_v ?_
      simp [Instr.box, Sem.run_bind, Go.newVar, newRow, newObj]
      rfl
    · cases hv
  · cases hv
end
end Go.Am

set_option linter.unusedSimpArgs false
set_option linter.unusedVariables false
open Go.RowKit
namespace Go.Am
section
variable {P : Program} {γ γ' : Gh} {s : AS} {a : Act} {w w' : World} {o : Oper}

/-- Where an address leads: the cells, each with what it says. -/
def place (p : AV) (j : Nat) : Owner := match p with
  | .lptr b off => .sp (.bx b (off + j))
  | .hptr id pos => .sp (.hp id (pos + j))
  | _ => .dead
theorem at_rel (k : SR γ s a w) {ox : Operand} {x : X} (hx : cmpX ox = some x) {p : AV} (hp : s.view.ev x = some p) {n : Nat} {cs : List AV} (h : s.view.at p n = some cs) :
    ∃ b q, a.eval ox = .pointer (some ⟨b, q, none⟩) ∧ ∃ vs : List Value, vs.length = n ∧ cs.length = n ∧ (∀ (j : Nat) (c : AV) (v : Value), cs[j]? = some c → vs[j]? = some v → w.cell? ⟨b, q + j, none⟩ = some v ∧ RelX γ w (place p j) c v ∧ (0 < n → c.one = true)) := by
  unfold View.at at h
  split at h
  · rename_i b off
    split at h
    · rename_i bs hb
      obtain ⟨h1, h2⟩ := window_get h
      have hle := (window_spec h).1
      obtain ⟨arr, ty, c1, c2, c3, c4, _, _⟩ := k.bx b bs hb
      refine ⟨γ.bxb b, off, (ev_ptr k hx hp).2.1 b off rfl, (arr.toList.drop off).take n, by simp; omega, h1, fun j c v hc hv => ?_⟩
      have hj : j < n := by rw [← h1]; exact (List.getElem?_eq_some_iff.1 hc).1
      rw [h2 j hj] at hc
      rw [List.getElem?_take, if_pos hj, List.getElem?_drop] at hv
      have hv' : arr[off + j]? = some v := by simpa using hv
      refine ⟨?_, c3 _ c v hc hv', fun _ => c4 _ c hc⟩
      simp [World.cell?, c1, hv']
    · cases h
  · rename_i id pos
    split at h
    · rename_i bs hb
      obtain ⟨h1, h2⟩ := window_get h
      have hle := (window_spec h).1
      obtain ⟨arr, ty, c1, c2, c3, c4, _, _⟩ := k.hp id (.obj bs) hb
      refine ⟨γ.blk id, pos, ((ev_ptr k hx hp).1 id pos rfl).2, (arr.toList.drop pos).take n, by simp; omega, h1, fun j c v hc hv => ?_⟩
      have hj : j < n := by rw [← h1]; exact (List.getElem?_eq_some_iff.1 hc).1
      rw [h2 j hj] at hc
      rw [List.getElem?_take, if_pos hj, List.getElem?_drop] at hv
      have hv' : arr[pos + j]? = some v := by simpa using hv
      refine ⟨?_, c3 _ c v hc hv', fun _ => c4 _ c hc⟩
      simp [World.cell?, c1, hv']
    · cases h
  · rename_i e off
    obtain ⟨h1, h2⟩ := window_get h
    have hle := (window_spec h).1
    obtain ⟨b, q, e1, vs, hc⟩ := (ev_ptr k hx hp).2.2 e off rfl
    refine ⟨b, q + off, e1, (List.range n).map fun j => vs (off + j), by simp, h1, fun j c v hc' hv => ?_⟩
    have hj : j < n := by rw [← h1]; exact (List.getElem?_eq_some_iff.1 hc').1
    rw [h2 j hj] at hc'
    simp [List.getElem?_map, List.getElem?_range hj] at hv
    subst hv
    obtain ⟨q1, q2, q3, q4⟩ := hc _ c hc'
    exact ⟨by rw [Nat.add_assoc]; exact q1, q3.x, fun _ => q4⟩
  · cases h
theorem s_load {t : TypeId} {oa : Operand} {x : X} {n : Nat} {ag : Bool} (hop : o.op = .load t oa) (hx : cmpX oa = some x) (hs : szT P t = some n) (ha : agT P t = some ag) (hn : ag = true ∨ n = 1) (hd : ∀ t, o.dst = some t → t < a.tmps.size) (k : SR γ s a w)
    {e : Eff} (hv : aop o.dst (.load x n ag false) s.view = some e) : OpOK P γ s o e a w := by
  simp only [aop] at hv
  split at hv
  · rename_i p h1
    split at hv
    · rename_i cs h2
      split at hv
      · rename_i v h3 _
        cases hv
        obtain ⟨b, q, e1, vs, l1, l2, hc⟩ := at_rel k hx h1 h2
        have hl : (loadCells ⟨b, q, none⟩ n).run P w = .ok vs.toArray w := by
          rw [← l1]
          refine run_loadCells_list (P := P) w _ vs fun j v hj => ?_
          rw [add_at]
          have : j < cs.length := by rw [l2, ← l1]; exact (List.getElem?_eq_some_iff.1 hj).1
          exact (hc j _ v (List.getElem?_eq_getElem this) hj).1
        rcases mkv_agg h3 with ⟨rfl, rfl⟩ | ⟨rfl, rfl⟩
        · have hr : RelC γ w (fun j => place p j) (.agg cs) (.agg vs.toArray) := by
            refine ⟨_, rfl, by simp [l1, l2], fun j c v hc' hv => (hc j c v hc' (by simpa using hv)).2.1, fun j c hc' => ?_⟩
            have hj : j < vs.length := by rw [l1, ← l2]; exact (List.getElem?_eq_some_iff.1 hc').1
            exact (hc j c _ hc' (List.getElem?_eq_getElem hj)).2.2 (by omega)
          refine pure_val (c := .agg vs.toArray) hd k ?_ hr.dg
          simp only [execOp, hop, e1]
          refine run_v ?_
          simp [Instr.loadAt, Instr.sureAddr, loadVar, Sem.run_bind, run_isAgg ha, run_sz hs, hl]
        · have h1' : n = 1 := by
            rcases hn with h | h
            · cases h
            · exact h
          subst h1'
          match vs, l1 with
          | [u], _ =>
            obtain ⟨q1, q2, q3⟩ := hc 0 v u (by simp) (by simp)
            have q3' := q3 (by omega)
            have hdg : v.dg = v.dg1 := by cases v <;> first | rfl | (cases q3'; done) | (cases (show Rel γ w _ u from q2); done)
            rw [hdg]
            refine pure_val (c := u) hd k ?_ q2.dg
            simp only [execOp, hop, e1]
            refine run_v ?_
            simp at q1
            simp [Instr.loadAt, Instr.sureAddr, loadVar, Sem.run_bind, run_isAgg ha, run_load, q1]
      · cases ‹_ = true›
      · cases hv
    · cases hv
  · cases hv

/-! Writing into a row of one's own -/
theorem cell_setRow_ne (w : World) (g b j : Nat) (cs : Array Value) (h : b ≠ g) : (w.setRow g cs).cell? ⟨b, j, none⟩ = w.cell? ⟨b, j, none⟩ := cell_setRow_other w g cs _ h
theorem Ext.write {b : Nat} {arr arr' : Array Value} {ty : TypeId} (hb : w.heap[b]? = some (.cells arr ty (0, 0))) (hs : arr'.size = arr.size) (hc : ∀ j, γ.own b j ≠ .claim) (hf : ∀ j, γ.own b j ≠ .foreign) : Ext γ w γ (w.setRow b arr') := by
  refine ⟨⟨fun b' j h => ⟨h, ?_⟩, fun b' ar t fr h => ?_, fun _ _ => rfl, Nat.le_refl _⟩, fun b' j h => ⟨h, ?_⟩, rfl, rfl, by simp⟩
  · exact cell_setRow_ne _ _ _ _ _ fun e => hc j (e ▸ h)
  · by_cases e : b' = b
    · subst e
      rw [hb] at h
      cases h
      exact ⟨arr', setRow_heap w _ _ _ _ _ hb, hs⟩
    · exact ⟨ar, by rw [setRow_other _ _ _ _ e]; exact h, rfl⟩
  · exact cell_setRow_ne _ _ _ _ _ fun e => hf j (e ▸ h)
theorem below_write {n : Nat} {w0 : World} {b : Nat} {arr' : Array Value} (h : Below n w0 w) (hb : n ≤ b) : Below n w0 (w.setRow b arr') :=
  h.trans ⟨rfl, rfl, rfl, by simp, fun i hi => setRow_other _ _ _ _ (by omega)⟩
theorem CellsAt.far {b b' : Nat} {arr' : Array Value} {lb : Nat → Owner} {all : Owner} {cs : List AV} (hE : Ext γ w γ (w.setRow b arr')) (hne : b' ≠ b) (h : CellsAt γ w b' lb all cs) : CellsAt γ (w.setRow b arr') b' lb all cs := by
  obtain ⟨ar, t, q1, q2, q3, q4, q5, q6⟩ := h
  exact ⟨ar, t, by rw [setRow_other _ _ _ _ hne]; exact q1, q2, fun k c v hc hv => (q3 k c v hc hv).mono hE.toMono (fun _ _ h => h), q4, q5, q6⟩
theorem HR.far {b : Nat} {arr' : Array Value} {id : Nat} {ob : HObj} (hE : Ext γ w γ (w.setRow b arr')) (hne : (∀ j, γ.own (γ.blk id) j = .obj id) → γ.blk id ≠ b) (h : HR γ w id ob) : HR γ (w.setRow b arr') id ob := by
  cases ob with
  | obj cs => exact CellsAt.far hE (hne (by obtain ⟨_, _, _, _, _, _, q, _⟩ := h; exact q)) h
  | dead => trivial
  | map es =>
    obtain ⟨ms, clock, q1, q2, q3, q4, q5⟩ := h
    exact ⟨ms, clock, by rw [setRow_other _ _ _ _ (hne q4)]; exact q1, q2, fun i k v m he hm => ⟨(q3 i k v m he hm).1.mono hE.toMono, (q3 i k v m he hm).2.mono hE.toMono⟩, q4, q5⟩
/-- New cells over old ones in a row. -/
theorem splice_at {b : Nat} {lb : Nat → Owner} {all : Owner} {cs new : List AV} {arr nw : Array Value} {ty : TypeId} {off : Nat} (hE : Ext γ w γ (w.setRow b (arr.toList.take off ++ nw.toList ++ arr.toList.drop (off + nw.size)).toArray))
    (hb : w.heap[b]? = some (.cells arr ty (0, 0))) (hs : arr.size = cs.length) (hr : ∀ (k : Nat) (c : AV) (v : Value), cs[k]? = some c → arr[k]? = some v → RelX γ w (lb k) c v) (h1 : ∀ (k : Nat) (c : AV), cs[k]? = some c → c.one = true) (hown : ∀ j, γ.own b j = all) (hn0 : γ.n0 ≤ b)
    (hns : nw.size = new.length) (hnr : ∀ (k : Nat) (c : AV) (v : Value), new[k]? = some c → nw[k]? = some v → RelX γ w (lb (off + k)) c v) (hn1 : ∀ (k : Nat) (c : AV), new[k]? = some c → c.one = true) (hfit : off + new.length ≤ cs.length) :
    CellsAt γ (w.setRow b (arr.toList.take off ++ nw.toList ++ arr.toList.drop (off + nw.size)).toArray) b lb all (splice cs off new) := by
  refine ⟨_, ty, setRow_heap w _ _ _ _ _ hb, ?_, fun k c v hc hv => ?_, fun k c hc => ?_, hown, hn0⟩
  · simp [Am.splice]
    omega
  · refine RelX.mono hE.toMono (fun _ _ h => h) ?_
    unfold Am.splice at hc
    have hv' : (arr.toList.take off ++ nw.toList ++ arr.toList.drop (off + nw.size))[k]? = some v := by simpa using hv
    have l1 : (cs.take off).length = off := by simp; omega
    have l2 : (arr.toList.take off).length = off := by simp; omega
    rcases Nat.lt_or_ge k off with q | q
    · rw [List.append_assoc, List.getElem?_append_left (by omega), List.getElem?_take, if_pos q] at hc hv'
      exact hr k c v hc (by simpa using hv')
    · rw [List.append_assoc, List.getElem?_append_right (by omega)] at hc hv'
      rw [l1] at hc
      rw [l2] at hv'
      rcases Nat.lt_or_ge (k - off) new.length with q2 | q2
      · rw [List.getElem?_append_left q2] at hc
        rw [List.getElem?_append_left (by rw [Array.length_toList, hns]; exact q2)] at hv'
        have := hnr _ c v hc (by simpa using hv')
        rwa [show off + (k - off) = k by omega] at this
      · rw [List.getElem?_append_right q2, List.getElem?_drop] at hc
        rw [List.getElem?_append_right (by rw [Array.length_toList, hns]; exact q2), List.getElem?_drop] at hv'
        rw [Array.length_toList, hns] at hv'
        rw [show off + new.length + (k - off - new.length) = k by omega] at hc hv'
        exact hr k c v hc (by simpa using hv')
  · unfold Am.splice at hc
    have l1 : (cs.take off).length = off := by simp; omega
    rcases Nat.lt_or_ge k off with q | q
    · rw [List.append_assoc, List.getElem?_append_left (by omega), List.getElem?_take, if_pos q] at hc
      exact h1 k c hc
    · rw [List.append_assoc, List.getElem?_append_right (by omega), l1] at hc
      rcases Nat.lt_or_ge (k - off) new.length with q2 | q2
      · rw [List.getElem?_append_left q2] at hc
        exact hn1 _ c hc
      · rw [List.getElem?_append_right q2, List.getElem?_drop, show off + new.length + (k - off - new.length) = k by omega] at hc
        exact h1 k c hc
/-- A write through an address into memory of one's own. -/
theorem SR.write (k : SR γ s a w) {ox : Operand} {x : X} (hx : cmpX ox = some x) {p : AV} (hp : s.view.ev x = some p) {new : List AV} {e0 e : Eff} (h0 : e0.bw = none ∧ e0.hw = none ∧ e0.dw = none ∧ e0.tw = []) (h : s.view.write p new e0 = some e) {vs : List Value} (hl : vs.length = new.length)
    (hr : ∀ (j : Nat) (c : AV) (v : Value), new[j]? = some c → vs[j]? = some v → RelX γ w (place p j) c v) (h1 : ∀ (j : Nat) (c : AV), new[j]? = some c → c.one = true) :
    ∃ b q arr ty, a.eval ox = .pointer (some ⟨b, q, none⟩) ∧ w.heap[b]? = some (.cells arr ty (0, 0)) ∧ q + vs.length ≤ arr.size ∧ e.v = e0.v ∧ e.tw = [] ∧
      Ext γ w γ (w.setRow b (arr.toList.take q ++ vs ++ arr.toList.drop (q + vs.length)).toArray) ∧ SR γ { s.apply none e with tm := s.tm } a (w.setRow b (arr.toList.take q ++ vs ++ arr.toList.drop (q + vs.length)).toArray) := by
  have hone : ∀ (j : Nat) (c : AV) (v : Value), new[j]? = some c → vs[j]? = some v → RelX γ w (place p j) c v := hr
  unfold View.write at h
  split at h
  · rename_i d off
    split at h
    · rename_i cs hb
      split at h
      · rename_i hle
        cases h
        have hfit := Nat.le_of_ble_eq_true hle
        obtain ⟨arr, ty, c1, c2, c3, c4, c5, c6⟩ := k.bx d cs hb
        have hE : Ext γ w γ (w.setRow (γ.bxb d) (arr.toList.take off ++ vs ++ arr.toList.drop (off + vs.length)).toArray) :=
          Ext.write c1 (by simp; omega) (fun j => by rw [c5]; simp) (fun j => by rw [c5]; simp)
        refine ⟨γ.bxb d, off, arr, ty, (ev_ptr k hx hp).2.1 d off rfl, c1, by omega, rfl, h0.2.2.2, hE, ?_⟩
        refine { below := below_write k.below c6, base := by simpa using k.base, ownb := k.ownb, fresh := by simpa using k.fresh, nh := ?_, hp := fun id ob ho => ?_, tm := fun t v hv => ?_, bx := fun b bs hb' => ?_, dep := k.dep, df := ?_ }
        · simp only [AS.apply, h0.2.1]; exact k.nh
        · simp only [AS.apply, h0.2.1] at ho
          exact HR.far hE (fun q e => by have := q 0; rw [e, c5] at this; cases this) (k.hp id ob ho)
        · exact (k.tm t v hv).mono hE.toMono (fun _ _ _ _ h => h) (fun _ _ _ => rfl)
        · simp only [AS.apply, look_put] at hb'
          split at hb'
          · rename_i e
            subst e
            cases hb'
            have := splice_at (nw := vs.toArray) (by simpa using hE) c1 c2 c3 c4 c5 c6 (by simpa using hl) (fun j c v hc hv => hone j c v hc (by simpa using hv)) h1 hfit
            simpa using this
          · rename_i hne
            have hb2 := k.bx b bs hb'
            refine CellsAt.far hE (fun e => ?_) hb2
            obtain ⟨_, _, _, _, _, _, q5, _⟩ := hb2
            have := q5 0
            rw [e, c5] at this
            cases this
            exact hne rfl
        · refine ⟨?_, fun i dd f vs' hd hf => ?_⟩
          · simp only [AS.apply, h0.2.2.1]; exact k.df.1
          · simp only [AS.apply, h0.2.2.1] at hf
            obtain ⟨gf, arr1, caps, arr2, q1, q2, q3, q4, q5, q6, q7⟩ := k.df.2 i dd f vs' hd hf
            exact ⟨gf, arr1, caps, arr2, q1, q2, q3, q4, q5, fun j c v hc hv => (q6 j c v hc hv).mono hE.toMono, fun j c v hc hv => (q7 j c v hc hv).mono hE.toMono⟩
      · cases h
    · cases h
  · rename_i id pos
    split at h
    · rename_i cs hb
      split at h
      · rename_i hle
        cases h
        have hfit := Nat.le_of_ble_eq_true hle
        have hid := ((ev_ptr k hx hp).1 id pos rfl).1
        obtain ⟨arr, ty, c1, c2, c3, c4, c5, c6⟩ := k.hp id (.obj cs) hb
        have hE : Ext γ w γ (w.setRow (γ.blk id) (arr.toList.take pos ++ vs ++ arr.toList.drop (pos + vs.length)).toArray) :=
          Ext.write c1 (by simp; omega) (fun j => by rw [c5]; simp) (fun j => by rw [c5]; simp)
        refine ⟨γ.blk id, pos, arr, ty, ((ev_ptr k hx hp).1 id pos rfl).2, c1, by omega, rfl, h0.2.2.2, hE, ?_⟩
        refine { below := below_write k.below c6, base := by simpa using k.base, ownb := k.ownb, fresh := by simpa using k.fresh, nh := ?_, hp := fun id' ob ho => ?_, tm := fun t v hv => ?_, bx := fun b bs hb' => ?_, dep := k.dep, df := ?_ }
        · simp only [AS.apply, List.length_set]; exact k.nh
        · simp only [AS.apply, AS.view] at ho
          rw [List.getElem?_set] at ho
          split at ho
          · rename_i e
            subst e
            split at ho
            · cases ho
              have := splice_at (nw := vs.toArray) (by simpa using hE) c1 c2 c3 c4 c5 c6 (by simpa using hl) (fun j c v hc hv => hone j c v hc (by simpa using hv)) h1 hfit
              unfold HR
              simpa using this
            · cases ho
          · rename_i hne
            refine HR.far hE (fun q e => ?_) (k.hp id' ob ho)
            have := q 0
            rw [e, c5] at this
            cases this
            exact hne rfl
        · exact (k.tm t v hv).mono hE.toMono (fun _ _ _ _ h => h) (fun _ _ _ => rfl)
        · simp only [AS.apply, h0.1] at hb'
          have hb2 := k.bx b bs hb'
          refine CellsAt.far hE (fun e => ?_) hb2
          obtain ⟨_, _, _, _, _, _, q5, _⟩ := hb2
          have := q5 0
          rw [e, c5] at this
          cases this
        · refine ⟨?_, fun i dd f vs' hd hf => ?_⟩
          · simp only [AS.apply, h0.2.2.1]; exact k.df.1
          · simp only [AS.apply, h0.2.2.1] at hf
            obtain ⟨gf, arr1, caps, arr2, q1, q2, q3, q4, q5, q6, q7⟩ := k.df.2 i dd f vs' hd hf
            exact ⟨gf, arr1, caps, arr2, q1, q2, q3, q4, q5, fun j c v hc hv => (q6 j c v hc hv).mono hE.toMono, fun j c v hc hv => (q7 j c v hc hv).mono hE.toMono⟩
      · cases h
    · cases h
  · cases h
end
end Go.Am

set_option linter.unusedSimpArgs false
set_option linter.unusedVariables false
open Go.RowKit
namespace Go.Am
section
variable {P : Program} {γ γ' : Gh} {s : AS} {a : Act} {w w' : World} {o : Oper}

theorem write_tw {p : AV} {new : List AV} {e0 e : Eff} {tw : List (Nat × AV)} {tm : List (Nat × AV)} (h : s.view.write p new { e0 with tw := tw } = some e) :
    ∃ e1, ({ s with tm := tm } : AS).view.write p new { e0 with tw := [] } = some e1 ∧ e = { e1 with tw := tw } ∧ ((∃ b off, p = .lptr b off) ∨ ∃ id pos, p = .hptr id pos) := by
  unfold View.write at h ⊢
  split at h
  · rename_i b off
    simp only [AS.view] at h ⊢
    cases hb : look s.bx b with
    | none => simp [hb] at h
    | some cs =>
      simp only [hb] at h ⊢
      split at h
      · rename_i hle
        cases h
        exact ⟨{ e0 with tw := [], bw := some (b, splice cs off new) }, rfl, rfl, .inl ⟨_, _, rfl⟩⟩
      · cases h
  · rename_i id pos
    simp only [AS.view] at h ⊢
    split at h
    · rename_i cs hb
      split at h
      · rename_i hle
        cases h
        exact ⟨{ e0 with tw := [], hw := some (s.hp.set id (.obj (splice cs pos new))) }, rfl, rfl, .inr ⟨_, _, rfl⟩⟩
      · cases h
    · cases h
  · cases h
/-- An address stays what it was when an operand is handed on. -/
theorem ev_left {xa x : X} {p v : AV} (hp : s.view.ev xa = some p) (hpp : (∃ b off, p = .lptr b off) ∨ ∃ id pos, p = .hptr id pos) (hv : s.view.ev x = some v) : ({ s with tm := puts s.tm (left x v) } : AS).view.ev xa = some p := by
  cases x with
  | c u => exact hp
  | t n =>
    cases xa with
    | c u => exact hp
    | t m =>
      show look (put s.tm n v.dg) m = some p
      rw [look_put]
      split
      · rename_i e
        subst e
        have : s.view.ev (.t m) = some v := hv
        rw [hp] at this
        cases this
        rcases hpp with ⟨_, _, rfl⟩ | ⟨_, _, rfl⟩ <;> rfl
      · exact hp
theorem s_store {t : TypeId} {oa ox : Operand} {xa x : X} {n : Nat} (hop : o.op = .store t oa ox) (hxa : cmpX oa = some xa) (hx : cmpX ox = some x) (hs : szT P t = some n) (hd : ∀ t, o.dst = some t → t < a.tmps.size) (k : SR γ s a w)
    {e : Eff} (hv : aop o.dst (.store xa x n) s.view = some e) : OpOK P γ s o e a w := by
  simp only [aop] at hv
  split at hv
  · rename_i p v h1 h2
    split at hv
    · rename_i h3 h4
      obtain ⟨e1, h5, rfl, hpp⟩ := write_tw (e0 := { v := .tup [] }) (tw := left x v) (tm := puts s.tm (left x v)) hv
      obtain ⟨γ1, q1, q2, q3, _, _, q6, _⟩ := k.handed hx h2 (fun _ j => place p j)
      obtain ⟨c1, c2, c3⟩ := RelC.cellsX (RelT.c h3 q3) h3
      have hp' := ev_left h1 hpp h2
      obtain ⟨b, q, arr, ty, e2, hb, hfit, ev1, etw, hE, k2⟩ := q2.write hxa hp' ⟨rfl, rfl, rfl, rfl⟩ h5 (vs := (a.eval ox).cells.toList) (by simpa using c1) (fun j c v hc hv => c2 j c v hc (by simpa using hv)) c3
      have hlen : (a.eval ox).cells.size = n := by rw [c1]; exact Nat.eq_of_beq_eq_true h4
      refine OpOK.skip ?_ (q1.trans hE) ?_
      · simp only [execOp, hop, e2]
        refine run_u ?_
        have hone : ∀ u ∈ (a.eval ox).cells.toList, u.oneCell' = true := by
          intro u hu
          obtain ⟨j, hj, rfl⟩ := List.getElem_of_mem hu
          have hj' : j < v.cells.length := by rw [← c1]; simpa using hj
          have hr := c2 j _ _ (List.getElem?_eq_getElem hj') (Array.getElem?_eq_getElem (xs := (a.eval ox).cells) (by simpa using hj))
          rw [Array.getElem_toList]
          have h1 := c3 j _ (List.getElem?_eq_getElem hj')
          exact (hr.dg.one_ (dg1_one _ h1)).1
        have hst := run_storeCells_at P b q ty (a.eval ox).cells.toList 0 arr w hb (by simpa using hfit) hone
        simp only [Nat.add_zero] at hst
        simp [Instr.storeAt, Instr.sureAddr, storeVar, Sem.run_bind, run_sz hs, hlen, hst]
      · have h7 := k2.setd o.dst (.tup []) undef hd ⟨#[], rfl, rfl, by simp⟩ rfl
        have : s.apply o.dst { e1 with tw := left x v } = { ({ s with tm := puts s.tm (left x v) } : AS).apply none e1 with tm := putd (puts s.tm (left x v)) o.dst (.tup []) } := by
          have hev : e1.v = .tup [] := ev1
          simp only [AS.apply, hev, etw, puts]
        rw [this]
        exact h7
    · cases hv
  · cases hv
/-- A slice with the right to grow, as memory has it. -/
theorem xsl_spec {o' : Owner} {sz : Nat} {l : List AV} {c : Value} (h : RelX γ w o' (.xsl sz l) c) : (c = .slice none 0 0 ∧ l = []) ∨ ∃ b cap arr ty, c = .slice (some ⟨b, 0, none⟩) l.length cap ∧ w.heap[b]? = some (.cells arr ty (0, 0)) ∧ cap * sz ≤ arr.size ∧ l.length ≤ cap ∧ (l.length = 0 → cap = 0) ∧
    (∀ j, l.length * sz ≤ j → j < cap * sz → γ.own b j = o') ∧ Sized sz l ∧ ∃ vs : Nat → Nat → Value, ∀ (i : Nat) (e : AV) (j : Nat) (x : AV), l[i]? = some e → e.cells[j]? = some x → arr[i * sz + j]? = some (vs i j) ∧ γ.own b (i * sz + j) = .claim ∧ Rel γ w x (vs i j) ∧ x.one = true := by
  obtain ⟨h1, h2⟩ := h
  obtain ⟨ad, cap, e1, hl, hm, hn, hz, hne⟩ := h1.slv
  rcases h2 with h2 | ⟨b, cap', arr, ty, e2, hb, hfit, h0, hsp⟩
  · rw [h2] at e1
    cases l with
    | nil => exact .inl ⟨h2, rfl⟩
    | cons x l => simp at e1
  · rw [e1] at e2
    cases e2
    refine .inr ⟨b, cap, arr, ty, e1, hb, hfit, hl, h0, hsp, hz, ?_⟩
    by_cases hl0 : l = []
    · subst hl0
      exact ⟨fun _ _ => undef, by simp⟩
    · obtain ⟨b', q, e3, vs, hc⟩ := hne hl0
      cases e3
      refine ⟨vs, fun i e j x hi hj => ?_⟩
      have := hc i e j x hi hj
      simp only [Nat.zero_add] at this
      refine ⟨?_, this.2⟩
      have := this.1
      simpa [World.cell?, hb] using this
theorem flat_idx {sz : Nat} {l : List AV} (hz : Sized sz l) (h0 : 0 < sz) {m : Nat} {x : AV} (h : (l.flatMap AV.cells)[m]? = some x) : ∃ e, l[m / sz]? = some e ∧ e.cells[m % sz]? = some x := by
  have hl : m < l.length * sz := by rw [← flat_len hz]; exact (List.getElem?_eq_some_iff.1 h).1
  have hi : m / sz < l.length := Nat.div_lt_of_lt_mul (by rw [Nat.mul_comm]; exact hl)
  refine ⟨l[m / sz], List.getElem?_eq_getElem hi, ?_⟩
  have := flat_at hz (List.getElem?_eq_getElem hi) (Nat.mod_lt m h0)
  rw [Nat.mul_comm, Nat.div_add_mod] at this
  rw [← this]
  exact h
/-- The cells that are appended. -/
theorem news_rel {sz : Nat} {l : List AV} {c : Value} (h : Rel γ w (.sl sz l) c) (h0 : 0 < sz) : ∃ ad cap, ∃ nw : List Value, c = .slice ad l.length cap ∧ nw.length = l.length * sz ∧ (ad = none → l = []) ∧ (∀ x, ad = some x → ∀ (j : Nat) (v : Value), nw[j]? = some v → w.cell? (x.add j) = some v) ∧ CellsR γ w (l.flatMap AV.cells) nw.toArray := by
  obtain ⟨ad, cap, e1, hl, hm, hn, hz, hne⟩ := h.slv
  by_cases hl0 : l = []
  · subst hl0
    exact ⟨ad, cap, [], e1, by simp, fun _ => rfl, by simp, ⟨rfl, by simp⟩⟩
  · obtain ⟨b, q, rfl, vs, hc⟩ := hne hl0
    have hfl := flat_len (sz := sz) hz
    refine ⟨_, cap, (List.range (l.length * sz)).map fun m => vs (m / sz) (m % sz), e1, by simp, by simp, ?_, ⟨by simp [hfl], fun m x y hx hy => ?_⟩⟩
    · intro x hx j v hj
      cases hx
      have hjl : j < l.length * sz := by
        have := (List.getElem?_eq_some_iff.1 hj).1
        simpa using this
      simp [List.getElem?_map, List.getElem?_range hjl] at hj
      subst hj
      obtain ⟨x, hx⟩ : ∃ x, (l.flatMap AV.cells)[j]? = some x := ⟨_, List.getElem?_eq_getElem (by rw [hfl]; exact hjl)⟩
      obtain ⟨e, h3, h4⟩ := flat_idx hz h0 hx
      have := (hc _ _ _ _ h3 h4).1
      rw [add_at]
      rwa [Nat.add_assoc, Nat.mul_comm, Nat.div_add_mod] at this
    · have hml : m < l.length * sz := by rw [← hfl]; exact (List.getElem?_eq_some_iff.1 hx).1
      simp [List.getElem?_map, List.getElem?_range hml] at hy
      subst hy
      obtain ⟨e, h3, h4⟩ := flat_idx hz h0 hx
      have := hc _ _ _ _ h3 h4
      exact ⟨this.2.2.2, this.2.2.1⟩
theorem olds_rel {o' : Owner} {sz : Nat} {l : List AV} {c : Value} (h : RelX γ w o' (.xsl sz l) c) (h0 : 0 < sz) : ∃ nw : List Value, nw.length = l.length * sz ∧ CellsR γ w (l.flatMap AV.cells) nw.toArray ∧ ((c = .slice none 0 0 ∧ l = [] ∧ nw = []) ∨
    ∃ b cap arr ty, c = .slice (some ⟨b, 0, none⟩) l.length cap ∧ w.heap[b]? = some (.cells arr ty (0, 0)) ∧ cap * sz ≤ arr.size ∧ l.length ≤ cap ∧ (l.length = 0 → cap = 0) ∧ (∀ j, l.length * sz ≤ j → j < cap * sz → γ.own b j = o') ∧ (∀ j, j < l.length * sz → γ.own b j = .claim) ∧ arr.toList.take (l.length * sz) = nw) := by
  rcases xsl_spec h with ⟨h1, h2⟩ | ⟨b, cap, arr, ty, h1, h2, h3, h4, h5, h6, hz, vs, hc⟩
  · subst h2
    exact ⟨[], by simp, ⟨rfl, by simp⟩, .inl ⟨h1, rfl, rfl⟩⟩
  · have hfl := flat_len (sz := sz) hz
    have hle : l.length * sz ≤ arr.size := Nat.le_trans (Nat.mul_le_mul_right _ h4) h3
    refine ⟨arr.toList.take (l.length * sz), by simp; omega, ⟨by simp [hfl]; omega, fun m x y hx hy => ?_⟩, .inr ⟨b, cap, arr, ty, h1, h2, h3, h4, h5, h6, fun j hj => ?_, rfl⟩⟩
    · have hml : m < l.length * sz := by rw [← hfl]; exact (List.getElem?_eq_some_iff.1 hx).1
      obtain ⟨e, q1, q2⟩ := flat_idx hz h0 hx
      obtain ⟨q3, _, q4, q5⟩ := hc _ _ _ _ q1 q2
      rw [Nat.mul_comm, Nat.div_add_mod] at q3
      have : y = vs (m / sz) (m % sz) := by
        simp [List.getElem?_take, hml] at hy
        rw [q3] at hy
        exact (Option.some.inj hy).symm
      rw [this]
      exact ⟨q5, q4⟩
    · obtain ⟨x, hx⟩ : ∃ x, (l.flatMap AV.cells)[j]? = some x := ⟨_, List.getElem?_eq_getElem (by rw [hfl]; exact hj)⟩
      obtain ⟨e, q1, q2⟩ := flat_idx hz h0 hx
      have := (hc _ _ _ _ q1 q2).2.1
      rwa [Nat.mul_comm, Nat.div_add_mod] at this
end
end Go.Am
