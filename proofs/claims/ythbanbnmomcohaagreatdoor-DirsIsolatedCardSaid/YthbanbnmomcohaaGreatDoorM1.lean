/- The abstract machine, part 1: values, tries, the relation between abstract and concrete values and memories. -/
import Derived.Below
import Derived.WalkKit
set_option linter.all false
set_option linter.unusedSimpArgs false
namespace Go.Ab
open Go Go.RowKit

/-- Abstract values. A string is its bytes; own memory is named by abstract blocks; read-only memory is its content. -/
inductive AVal where
  | bool (b : Bool)
  | int (k : IntKind) (n : Int)
  | str (s : List Nat)
  | nilp
  | ptr (b i : Nat)
  | rptr (cs : List AVal)
  | nils
  | slice (b i n s : Nat)
  | rslice (n : Nat) (cs : List AVal)
  | func (f : FuncId) (first cap : List AVal)
  | nilf
  | iface (t : TypeId) (v : AVal)
  | nili
  | agg (cs : List AVal)
  | tuple (vs : List AVal)
  deriving Inhabited

/-- What an abstract block holds. -/
inductive AObj where
  | cells (fix : Bool) (e : TypeId) (cs : List AVal)
  | iter (pos : Nat) (rest : List Nat)
  deriving Inhabited

/-- Where an abstract block lies. -/
structure Place where
  block : Nat
  off : Nat
  ext : Nat

def bytesOf (x : ByteArray) : List Nat := x.data.toList.map (·.toNat)

mutual
def VR (w0 : World) (ν : List Place) : AVal → Value → Prop
  | .bool b, v => v = .bool b
  | .int k n, v => v = .int k n
  | .str s, v => ∃ x : ByteArray, v = .string x ∧ bytesOf x = s
  | .nilp, v => v = .pointer none
  | .ptr b i, v => ∃ p, ν[b]? = some p ∧ v = .pointer (some ⟨p.block, p.off + i, none⟩)
  | .rptr cs, v => ∃ r o, v = .pointer (some ⟨r, o, none⟩) ∧ ROs w0 ν r o cs
  | .nils, v => v = .slice none 0 0
  | .slice b i n s, v => ∃ p a cap, ν[b]? = some p ∧ v = .slice (some a) n cap ∧ n ≤ cap ∧ 0 < s ∧ i + cap * s ≤ p.ext ∧ (cap = 0 ∨ a = ⟨p.block, p.off + i, none⟩)
  | .rslice n cs, v => ∃ a cap, v = .slice (some a) n cap ∧ n ≤ cap ∧ (n = 0 ∧ cs = [] ∨ ∃ r o, a = ⟨r, o, none⟩ ∧ ROs w0 ν r o cs)
  | .func f first cap, v => ∃ fs cs : List Value, v = .func (.func f) fs.toArray cs.toArray ∧ VRs w0 ν first fs ∧ VRs w0 ν cap cs
  | .nilf, v => v = .nilFunc
  | .iface t a, v => ∃ x, v = .iface t x ∧ VR w0 ν a x
  | .nili, v => v = .nilIface
  | .agg cs, v => ∃ xs : List Value, v = .agg xs.toArray ∧ VRs w0 ν cs xs
  | .tuple cs, v => ∃ xs : List Value, v = .tuple xs.toArray ∧ VRs w0 ν cs xs
def VRs (w0 : World) (ν : List Place) : List AVal → List Value → Prop
  | [], vs => vs = []
  | a :: as, vs => ∃ x xs, vs = x :: xs ∧ VR w0 ν a x ∧ VRs w0 ν as xs
def ROs (w0 : World) (ν : List Place) (r o : Nat) : List AVal → Prop
  | [] => True
  | a :: as => (∃ x, w0.cell? ⟨r, o, none⟩ = some x ∧ VR w0 ν a x) ∧ ROs w0 ν r (o + 1) as
end

section
variable {w0 : World} {ν : List Place}
@[simp] theorem VR_bool {b v} : VR w0 ν (.bool b) v ↔ v = .bool b := by simp [VR]
@[simp] theorem VR_int {k n v} : VR w0 ν (.int k n) v ↔ v = .int k n := by simp [VR]
theorem VRs_nil {vs} : VRs w0 ν [] vs ↔ vs = [] := by simp [VRs]
theorem VRs_cons {a as vs} : VRs w0 ν (a :: as) vs ↔ ∃ x xs, vs = x :: xs ∧ VR w0 ν a x ∧ VRs w0 ν as xs := by simp [VRs]
end

end Go.Ab

namespace Go.Ab
open Go

/-! Tries with paths of bits. -/
inductive Tr (α : Type) where
  | emp
  | n (l : Tr α) (v : Option α) (r : Tr α)
  deriving Inhabited

/-R get-/
noncomputable def Tr.get {α : Type} (p : List Bool) : Tr α → Option α :=
  List.rec (motive := fun _ => Tr α → Option α)
    (fun t => Tr.rec (motive := fun _ => Option α) none (fun _ v _ _ _ => v) t)
    (fun b _ ih t => Tr.rec (motive := fun _ => Option α) none (fun l _ r _ _ => Bool.rec (motive := fun _ => Option α) (ih l) (ih r) b) t) p
/-E-/
/-R set-/
noncomputable def Tr.set {α : Type} (p : List Bool) (x : Option α) : Tr α → Tr α :=
  List.rec (motive := fun _ => Tr α → Tr α)
    (fun t => Tr.rec (motive := fun _ => Tr α) (.n .emp x .emp) (fun l _ r _ _ => .n l x r) t)
    (fun b _ ih t => Bool.rec (motive := fun _ => Tr α)
      (Tr.rec (motive := fun _ => Tr α) (.n (ih .emp) none .emp) (fun l v r _ _ => .n (ih l) v r) t)
      (Tr.rec (motive := fun _ => Tr α) (.n .emp none (ih .emp)) (fun l v r _ _ => .n l v (ih r)) t) b) p
/-E-/
/-- 'set', its spine forced, handed on. -/
/-R setK-/
noncomputable def Tr.setK {α β : Type} (p : List Bool) (x : Option α) : Tr α → (Tr α → β) → β :=
  List.rec (motive := fun _ => Tr α → (Tr α → β) → β)
    (fun t k => Tr.rec (motive := fun _ => β) (k (.n .emp x .emp)) (fun l _ r _ _ => k (.n l x r)) t)
    (fun b _ ih t k => Bool.rec (motive := fun _ => β)
      (Tr.rec (motive := fun _ => β) (ih .emp fun l => k (.n l none .emp)) (fun l v r _ _ => ih l fun l => k (.n l v r)) t)
      (Tr.rec (motive := fun _ => β) (ih .emp fun r => k (.n .emp none r)) (fun l v r _ _ => ih r fun r => k (.n l v r)) t) b) p
/-E-/
/-- The path of a number. -/
/-R pathGo-/
noncomputable def pathGo (f : Nat) : Nat → List Bool :=
  Nat.rec (motive := fun _ => Nat → List Bool) (fun _ => [])
    (fun _ ih k => Nat.rec (motive := fun _ => List Bool) [] (fun k _ => Nat.rec (motive := fun _ => Bool) false (fun _ _ => true) (k % 2) :: ih (k / 2)) k) f
/-E-/
noncomputable def path (k : Nat) : List Bool := pathGo k k

abbrev Env := Tr AVal
structure St where
  heap : Tr AObj
  next : Nat

inductive Opd where
  | t (p : List Bool)
  | c (v : AVal)
  | g (n : Nat)

/-- How two values of a type are held against each other. -/
inductive EqK where
  | bool | int | ptr | slice | func | iface
  | str
  | cells (ks : List EqK)

inductive Ext where
  | same | indexByte | compare | index

inductive AOp where
  | mov (x : Opd)
  | pick (c a b : Opd)
  | alloc (fe : TypeId) (z : List AVal)
  | box (fe : TypeId) (x : Opd)
  | build (z : List AVal) (parts : List (Nat × Nat × Opd))
  | buildSlice (e : TypeId) (s len : Nat) (z : List AVal) (parts : List (Nat × Nat × Opd))
  | load (agg : Option Nat) (x : Opd)
  | store (n : Nat) (x v : Opd)
  | nilCheck (x : Opd)
  | arith (op : BinOp) (x y : Opd)
  | strop (op : BinOp) (x y : Opd)
  | eq (neg : Bool) (k : EqK) (x y : Opd)
  | not (x : Opd)
  | neg (x : Opd)
  | cpl (x : Opd)
  | toInt (k : IntKind) (x : Opd)
  | intStr (x : Opd)
  | bytes (e : TypeId) (x : Opd)
  | runes (e : TypeId) (x : Opd)
  | strOf (x : Opd)
  | strRunes (x : Opd)
  | stamp (x : Opd)
  | toUnsafe (x : Opd)
  | cast (u : TypeId) (x : Opd)
  | slStr (x : Opd) (lo hi : Option Opd)
  | slSl (s : Nat) (x : Opd) (lo hi mx : Option Opd)
  | slArr (n s : Nat) (x : Opd) (lo hi mx : Option Opd)
  | fieldAddr (off : Nat) (x : Opd)
  | field (off : Nat) (agg : Option Nat) (x : Opd)
  | iaSl (s : Nat) (x i : Opd)
  | iaArr (len s : Nat) (x i : Opd)
  | ixArr (len s : Nat) (agg : Bool) (x i : Opd)
  | ixStr (x i : Opd)
  | range (x : Opd)
  | next (x : Opd)
  | extract (x : Opd) (i : Nat)
  | call (f : Nat) (args : List Opd)
  | callV (fn : Opd) (args : List Opd)
  | ext (e : Ext) (args : List Opd)
  | append (e : TypeId) (s bytes : Nat) (x y : Opd)
  | len (s : Bool) (x : Opd)
  | lenArr (n : Nat)
  | mn (x y : Opd)
  | mx (x y : Opd)
  | mkFunc (f : Nat) (first captured : List Opd)
  | mkSlice (e : TypeId) (s bytes : Nat) (z : List AVal) (len cap : Opd)
  | mkIface (t : TypeId) (x : Opd)
  | sliceData (x : Opd)
  | unsafeStr (e : TypeId) (x n : Opd)

/-- What an operation is to a region that draws its order. -/
inductive DK where
  | pure
  | read (lo hi : Nat)
  | eff

structure AOper where
  dst : Option (List Bool)
  op : AOp
  guard : Option (List Bool × Bool)
  dk : DK

inductive ACode where
  | skip
  | region (draw : Bool) (ops : List AOper)
  | seq (a b : ACode)
  | cond (c : Opd) (a b : ACode)
  | block (id : Nat) (a : ACode)
  | loop (a : ACode)
  | scope (a : ACode)
  | exit (id : Nat)
  | ret
  | fail

inductive Res where
  | tmp (p : List Bool)
  | cell (p : List Bool) (agg : Option Nat)

structure AFunc where
  arity : Nat
  results : List Res
  body : ACode

structure Tab where
  fn : Tr AFunc
  glob : Tr (List AVal)
  casts : List (Nat × Nat × Nat × Nat)

inductive Out where
  | normal | exit (id : Nat) | ret

/-! ## Small pure parts -/

/-R wrapI-/
noncomputable def modI (k : IntKind) : Int := match k with
  | .i8 | .u8 => 256 | .i16 | .u16 => 65536 | .i32 | .u32 => 4294967296 | .i64 | .u64 => 18446744073709551616
noncomputable def halfI (k : IntKind) : Int := match k with
  | .i8 => 128 | .u8 => 256 | .i16 => 32768 | .u16 => 65536 | .i32 => 2147483648 | .u32 => 4294967296 | .i64 => 9223372036854775808 | .u64 => 18446744073709551616
/-- A number as its kind has it. -/
noncomputable def wrapI (k : IntKind) (n : Int) : Int :=
  let m := n % modI k
  if halfI k ≤ m then m - modI k else m
/-E-/
/-- A number, forced. -/
noncomputable def forceI {β : Type} (n : Int) (k : Int → β) : β :=
  match n with
  | .ofNat 0 => k 0
  | .ofNat (m + 1) => k (.ofNat (m + 1))
  | .negSucc 0 => k (.negSucc 0)
  | .negSucc (m + 1) => k (.negSucc (m + 1))

noncomputable def forceV {β : Type} (v : AVal) (k : AVal → β) : β :=
  match v with
  | .int kd n => forceI n fun n => k (.int kd n)
  | .bool b => (match b with | true => k (.bool true) | false => k (.bool false))
  | v => k v

/-R takeX-/
noncomputable def takeX {α : Type} (n : Nat) : List α → Option (List α) :=
  Nat.rec (motive := fun _ => List α → Option (List α)) (fun _ => some [])
    (fun _ ih l => List.rec (motive := fun _ => Option (List α)) none (fun x xs _ => Option.rec (motive := fun _ => Option (List α)) none (fun r => some (x :: r)) (ih xs)) l) n
/-E-/
/-R dropX-/
noncomputable def dropX {α : Type} (n : Nat) : List α → Option (List α) :=
  Nat.rec (motive := fun _ => List α → Option (List α)) (fun l => some l)
    (fun _ ih l => List.rec (motive := fun _ => Option (List α)) none (fun _ xs _ => ih xs) l) n
/-E-/
/-- n cells from the i-th on. -/
noncomputable def sub {α : Type} (l : List α) (i n : Nat) : Option (List α) :=
  match dropX i l with
  | some r => takeX n r
  | none => none

/-- cells put in the place of those from the i-th on (all of them must be there). -/
noncomputable def putX {α : Type} : Nat → List α → List α → Option (List α)
  | _, l, [] => some l
  | 0, _ :: l, v :: vs => match putX 0 l vs with | some r => some (v :: r) | none => none
  | n + 1, x :: l, v :: vs => match putX n l (v :: vs) with | some r => some (x :: r) | none => none
  | _, [], _ :: _ => none

noncomputable def AVal.cells : AVal → List AVal
  | .agg cs => cs
  | v => [v]

noncomputable def AVal.one : AVal → Bool
  | .agg _ | .tuple _ => false
  | _ => true

/-R lenL-/
noncomputable def lenL {α : Type} (l : List α) : Nat := List.rec (motive := fun _ => Nat) 0 (fun _ _ n => Nat.succ n) l
/-E-/
/-R eqBytes-/
noncomputable def eqBytes (a : List Nat) : List Nat → Bool :=
  List.rec (motive := fun _ => List Nat → Bool) (fun l => List.rec (motive := fun _ => Bool) true (fun _ _ _ => false) l)
    (fun x _ ih l => List.rec (motive := fun _ => Bool) false (fun y ys _ => Bool.rec (motive := fun _ => Bool) false (ih ys) (Nat.beq x y)) l) a
/-E-/
noncomputable def ltBytes : List Nat → List Nat → Bool
  | _, [] => false
  | [], _ :: _ => true
  | a :: x, b :: y => Nat.blt a b || ((a == b) && ltBytes x y)

noncomputable def intArith (op : BinOp) (k : IntKind) (x y : Int) : Option AVal :=
  match op with
  | .add => some (.int k (wrapI k (x + y)))
  | .sub => some (.int k (wrapI k (x - y)))
  | .mul => some (.int k (wrapI k (x * y)))
  | .quo => if y = 0 then none else some (.int k (wrapI k (x.tdiv y)))
  | .rem => if y = 0 then none else some (.int k (x.tmod y))
  | .and => some (.int k (wrapI k ((BitVec.ofInt k.bits x &&& BitVec.ofInt k.bits y).toNat)))
  | .or => some (.int k (wrapI k ((BitVec.ofInt k.bits x ||| BitVec.ofInt k.bits y).toNat)))
  | .xor => some (.int k (wrapI k ((BitVec.ofInt k.bits x ^^^ BitVec.ofInt k.bits y).toNat)))
  | .andNot => some (.int k (wrapI k ((BitVec.ofInt k.bits x &&& ~~~BitVec.ofInt k.bits y).toNat)))
  | .eql => some (.bool (x == y))
  | .neq => some (.bool (x != y))
  | .lss => some (.bool (decide (x < y)))
  | .leq => some (.bool (decide (x ≤ y)))
  | .gtr => some (.bool (decide (x > y)))
  | .geq => some (.bool (decide (x ≥ y)))
  | .shl | .shr => none

noncomputable def shiftI (op : BinOp) (k : IntKind) (x y : Int) : Option AVal :=
  if y < 0 then none else
  let n := min y.toNat k.bits
  match op with
  | .shl => some (.int k (wrapI k (x * 2 ^ n)))
  | .shr => some (.int k (x.fdiv (2 ^ n)))
  | _ => none

noncomputable def arith (op : BinOp) : AVal → AVal → Option AVal
  | .int k x, .int k' y =>
    match op with
    | .shl | .shr => shiftI op k x y
    | _ => if k = k' then intArith op k x y else none
  | _, _ => none

noncomputable def strop (op : BinOp) : AVal → AVal → Option AVal
  | .str x, .str y =>
    match op with
    | .add => if lenL x + lenL y ≤ 1073741824 then some (.str (x ++ y)) else none
    | .eql => some (.bool (eqBytes x y))
    | .neq => some (.bool (!eqBytes x y))
    | .lss => some (.bool (ltBytes x y))
    | .leq => some (.bool (ltBytes x y || eqBytes x y))
    | .gtr => some (.bool (!(ltBytes x y || eqBytes x y)))
    | .geq => some (.bool (!ltBytes x y))
    | _ => none
  | _, _ => none

mutual
noncomputable def eqV : EqK → AVal → AVal → Option Bool
  | .bool, .bool a, .bool b => some (a == b)
  | .int, .int k a, .int k' b => if k = k' then some (a == b) else none
  | .str, .str a, .str b => some (eqBytes a b)
  | .ptr, .nilp, .nilp => some true
  | .ptr, .nilp, .ptr _ _ => some false
  | .ptr, .nilp, .rptr _ => some false
  | .ptr, .ptr _ _, .nilp => some false
  | .ptr, .rptr _, .nilp => some false
  | .ptr, .ptr a i, .ptr b j => if a = b then some (i == j) else none
  | .slice, .nils, .nils => some true
  | .slice, .nils, .slice .. => some false
  | .slice, .nils, .rslice .. => some false
  | .slice, .slice .., .nils => some false
  | .slice, .rslice .., .nils => some false
  | .func, .nilf, .nilf => some true
  | .func, .nilf, .func .. => some false
  | .func, .func .., .nilf => some false
  | .iface, .nili, .iface .. => some false
  | .iface, .iface .., .nili => some false
  | .cells ks, .agg xs, .agg ys => eqVs ks xs ys
  | _, _, _ => none
noncomputable def eqVs : List EqK → List AVal → List AVal → Option Bool
  | [], [], [] => some true
  | k :: ks, x :: xs, y :: ys =>
    match eqV k x y with
    | some true => eqVs ks xs ys
    | some false => some false
    | none => none
  | _, _, _ => none
end

/-- UTF-8: what stands at the head of bytes. -/
noncomputable def decodeL (l : List Nat) : Nat × Nat :=
  let at' (k : Nat) : Nat := l.getD k 0
  let cont (k : Nat) : Bool := (decide (k < lenL l)) && at' k / 64 == 2
  let b0 := at' 0
  if b0 < 0x80 then (b0, 1)
  else if b0 / 32 == 6 && cont 1 then
    let c := (b0 % 32) * 64 + at' 1 % 64
    if c ≥ 0x80 then (c, 2) else (0xFFFD, 1)
  else if b0 / 16 == 14 && cont 1 && cont 2 then
    let c := (b0 % 16) * 4096 + (at' 1 % 64) * 64 + at' 2 % 64
    if c ≥ 0x800 && Utf8.valid c then (c, 3) else (0xFFFD, 1)
  else if b0 / 8 == 30 && cont 1 && cont 2 && cont 3 then
    let c := (b0 % 8) * 262144 + (at' 1 % 64) * 4096 + (at' 2 % 64) * 64 + at' 3 % 64
    if c ≥ 0x10000 && Utf8.valid c then (c, 4) else (0xFFFD, 1)
  else (0xFFFD, 1)

noncomputable def encodeL (r : Int) : List Nat :=
  let c := if Utf8.valid r then r.toNat else 0xFFFD
  if c < 0x80 then [c]
  else if c < 0x800 then [0xC0 + c / 64, 0x80 + c % 64]
  else if c < 0x10000 then [0xE0 + c / 4096, 0x80 + c / 64 % 64, 0x80 + c % 64]
  else [0xF0 + c / 262144, 0x80 + c / 4096 % 64, 0x80 + c / 64 % 64, 0x80 + c % 64]

noncomputable def bytesOfCells : List AVal → Option (List Nat)
  | [] => some []
  | .int .u8 n :: l => (match bytesOfCells l with | some r => some (n.toNat % 256 :: r) | none => none)
  | _ :: _ => none

noncomputable def cellsOfBytes (l : List Nat) : List AVal := l.map fun b => .int .u8 (Int.ofNat b)

noncomputable def toN (v : AVal) (top : Nat) : Option Nat :=
  match v with
  | .int _ n => if 0 ≤ n ∧ n ≤ (top : Int) then some n.toNat else none
  | _ => none

noncomputable def toNo (v : Option AVal) (dflt top : Nat) : Option Nat :=
  match v with
  | some v => toN v top
  | none => some dflt

noncomputable def indexByteL (c : Nat) : List Nat → Nat → Option Nat
  | [], _ => none
  | x :: l, i => if x = c then some i else indexByteL c l (i + 1)

noncomputable def isPrefixL : List Nat → List Nat → Bool
  | [], _ => true
  | x :: xs, y :: ys => (x == y) && isPrefixL xs ys
  | _ :: _, [] => false

noncomputable def indexL (b : List Nat) : List Nat → Nat → Option Nat
  | [], _ => none
  | x :: l, i => if isPrefixL b (x :: l) then some i else indexL b l (i + 1)

noncomputable def optInt : Option Nat → AVal
  | some i => .int .i64 (Int.ofNat i)
  | none => .int .i64 (-1)

noncomputable def extRun : Ext → List AVal → Option AVal
  | .same, [x] => some x
  | .indexByte, [.str s, .int .u8 c] => some (optInt (indexByteL (c.toNat % 256) s 0))
  | .compare, [.str a, .str b] => some (.int .i64 (if eqBytes a b then 0 else if ltBytes a b then -1 else 1))
  | _, _ => none

/-- The parts of an array's, a struct's literal put in their places: one behind the other, rising. -/
noncomputable def fillL : List (Nat × Nat × AVal) → Nat → List AVal → Option (List AVal)
  | [], _, cs => some cs
  | (off, size, v) :: rest, pos, cs =>
    if pos ≤ off ∧ lenL v.cells = size then
      match takeX (off - pos) cs, dropX (off - pos + size) cs with
      | some a, some c =>
        (match fillL rest (off + size) c with
        | some r => some (a ++ (v.cells ++ r))
        | none => none)
      | _, _ => none
    else none

noncomputable def argsOf (f : Opd → AVal) : List Opd → List AVal
  | [] => []
  | x :: l => f x :: argsOf f l

noncomputable def envOf : List AVal → Nat → Env → Env
  | [], _, e => e
  | v :: vs, i, e => envOf vs (i + 1) (e.set (path i) (some v))

/-! ## The heap -/
noncomputable def St.get (σ : St) (b : Nat) : Option AObj := σ.heap.get (path b)
noncomputable def St.putK {β : Type} (σ : St) (b : Nat) (o : AObj) (k : St → β) : β := σ.heap.setK (path b) (some o) fun h => k { σ with heap := h }
noncomputable def St.killK {β : Type} (σ : St) (b : Nat) (k : St → β) : β := σ.heap.setK (path b) none fun h => k { σ with heap := h }
noncomputable def St.newK {β : Type} (σ : St) (o : AObj) (k : Nat → St → β) : β := forceN (σ.next + 1) fun n => σ.heap.setK (path σ.next) (some o) fun h => k σ.next { heap := h, next := n }
where forceN {β : Type} (n : Nat) (k : Nat → β) : β := match n with | 0 => k 0 | m + 1 => k (m + 1)

noncomputable def undefA : AVal := .tuple []

noncomputable def Opd.ev (T : Tab) (env : Env) : Opd → AVal
  | .t p => match env.get p with | some v => v | none => undefA
  | .c v => v
  | .g n => match T.glob.get (path n) with | some cs => .rptr cs | none => undefA

noncomputable def head? (l : List AVal) : Option AVal := match l with | c :: _ => some c | [] => none

noncomputable def allOne : List AVal → Bool
  | [] => true
  | c :: l => c.one && allOne l

/-- What lies at a pointer: one cell, or so many as one value. -/
noncomputable def loadL (agg : Option Nat) (cs : List AVal) : Option AVal :=
  match agg with
  | none => head? cs
  | some n => match takeX n cs with | some l => some (.agg l) | none => none

/-- The cells of a slice of elements of size s; of a string. -/
noncomputable def cellsIn (σ : St) (s : Nat) : AVal → Option (Nat × List AVal)
  | .nils => some (0, [])
  | .slice b i n s' =>
    if s = s' then
      match σ.get b with
      | some (.cells _ _ cs) => (match sub cs i (n * s) with | some l => some (n, l) | none => none)
      | _ => none
    else none
  | .rslice n cs => (match takeX (n * s) cs with | some l => some (n, l) | none => none)
  | .str t => if s = 1 then some (lenL t, cellsOfBytes t) else none
  | _ => none

noncomputable def runesL : Nat → List Nat → List AVal
  | 0, _ => []
  | f + 1, l => match l with
    | [] => []
    | _ => let d := decodeL l; .int .i32 (Int.ofNat d.1) :: runesL f (l.drop d.2)

noncomputable def runesOfCells : List AVal → Option (List Nat)
  | [] => some []
  | .int .i32 n :: l => (match runesOfCells l with | some r => some (encodeL n ++ r) | none => none)
  | _ :: _ => none

noncomputable def boundsL (len top : Nat) (lo hi mx : Option AVal) : Option (Nat × Nat) :=
  match toNo mx top top with
  | some m =>
    match (match hi with | some v => toN v m | none => if mx.isSome then none else some len) with
    | some h => (match toNo lo 0 h with | some l => some (l, h) | none => none)
    | none => none
  | none => none

noncomputable def inCasts (e n i u : Nat) : List (Nat × Nat × Nat × Nat) → Bool
  | [] => false
  | (a, b, c, d) :: l => (a == e && b == n && c == i && d == u) || inCasts e n i u l

noncomputable def rep (z : List AVal) : Nat → List AVal
  | 0 => []
  | n + 1 => z ++ rep z n

noncomputable def opMov (T : Tab) (x : Opd) (env : Env) (σ : St) : Option (AVal × St) := some (x.ev T env, σ)
noncomputable def opPick (T : Tab) (c : Opd) (a : Opd) (b : Opd) (env : Env) (σ : St) : Option (AVal × St) := (match c.ev T env with | .bool true => some (a.ev T env, σ) | .bool false => some (b.ev T env, σ) | _ => none)
noncomputable def opAlloc (q : Bool) (e : TypeId) (z : List AVal) (σ : St) : Option (AVal × St) := if q then none else σ.newK (.cells true e z) fun b σ => some (.ptr b 0, σ)
noncomputable def opBox (T : Tab) (q : Bool) (e : TypeId) (x : Opd) (env : Env) (σ : St) : Option (AVal × St) := if q then none else σ.newK (.cells true e (x.ev T env).cells) fun b σ => some (.ptr b 0, σ)
noncomputable def opBuild (T : Tab) (z : List AVal) (parts : List (Nat × Nat × Opd)) (env : Env) (σ : St) : Option (AVal × St) := (match fillL (parts.map fun p => (p.1, p.2.1, p.2.2.ev T env)) 0 z with | some cs => some (.agg cs, σ) | none => none)
noncomputable def opBuildSlice (T : Tab) (q : Bool) (e : TypeId) (s : Nat) (len : Nat) (z : List AVal) (parts : List (Nat × Nat × Opd)) (env : Env) (σ : St) : Option (AVal × St) :=
    if q then none else
    match fillL (parts.map fun p => (p.1, p.2.1, p.2.2.ev T env)) 0 z with
    | some cs => σ.newK (.cells true e cs) fun b σ => some (.slice b 0 len s, σ)
    | none => none
noncomputable def opLoad (T : Tab) (agg : Option Nat) (x : Opd) (env : Env) (σ : St) : Option (AVal × St) :=
    (match x.ev T env with
    | .ptr b i =>
      (match σ.get b with
      | some (.cells _ _ cs) => (match dropX i cs with | some l => (match loadL agg l with | some v => some (v, σ) | none => none) | none => none)
      | _ => none)
    | .rptr cs => (match loadL agg cs with | some v => some (v, σ) | none => none)
    | _ => none)
noncomputable def opStore (T : Tab) (q : Bool) (n : Nat) (x : Opd) (v : Opd) (env : Env) (σ : St) : Option (AVal × St) :=
    if q then none else
    (match x.ev T env with
    | .ptr b i =>
      (match σ.get b with
      | some (.cells f e cs) =>
        if lenL (v.ev T env).cells = n ∧ allOne (v.ev T env).cells = true then
          match putX i cs (v.ev T env).cells with
          | some cs => σ.putK b (.cells f e cs) fun σ => some (undefA, σ)
          | none => none
        else none
      | _ => none)
    | _ => none)
noncomputable def opNilCheck (T : Tab) (x : Opd) (env : Env) (σ : St) : Option (AVal × St) := (match x.ev T env with | .nilp => none | .nilf => none | .nili => none | v => some (v, σ))
noncomputable def opArith (T : Tab) (op : BinOp) (x : Opd) (y : Opd) (env : Env) (σ : St) : Option (AVal × St) := (match arith op (x.ev T env) (y.ev T env) with | some v => some (v, σ) | none => none)
noncomputable def opStrop (T : Tab) (op : BinOp) (x : Opd) (y : Opd) (env : Env) (σ : St) : Option (AVal × St) := (match strop op (x.ev T env) (y.ev T env) with | some v => some (v, σ) | none => none)
noncomputable def opEq (T : Tab) (neg : Bool) (k : EqK) (x : Opd) (y : Opd) (env : Env) (σ : St) : Option (AVal × St) := (match eqV k (x.ev T env) (y.ev T env) with | some b => some (.bool (if neg then !b else b), σ) | none => none)
noncomputable def opNot (T : Tab) (x : Opd) (env : Env) (σ : St) : Option (AVal × St) := (match x.ev T env with | .bool b => some (.bool (!b), σ) | _ => none)
noncomputable def opNeg (T : Tab) (x : Opd) (env : Env) (σ : St) : Option (AVal × St) := (match x.ev T env with | .int k n => some (.int k (wrapI k (0 - n)), σ) | _ => none)
noncomputable def opCpl (T : Tab) (x : Opd) (env : Env) (σ : St) : Option (AVal × St) := (match x.ev T env with | .int k n => (match intArith .xor k (if k.signed then -1 else k.max) n with | some v => some (v, σ) | none => none) | _ => none)
noncomputable def opToInt (T : Tab) (k : IntKind) (x : Opd) (env : Env) (σ : St) : Option (AVal × St) := (match x.ev T env with | .int _ n => some (.int k (wrapI k n), σ) | _ => none)
noncomputable def opIntStr (T : Tab) (x : Opd) (env : Env) (σ : St) : Option (AVal × St) := (match x.ev T env with | .int _ n => some (.str (encodeL n), σ) | _ => none)
noncomputable def opBytes (T : Tab) (q : Bool) (e : TypeId) (x : Opd) (env : Env) (σ : St) : Option (AVal × St) :=
    if q then none else
    (match x.ev T env with
    | .str s => σ.newK (.cells false e (cellsOfBytes s)) fun b σ => some (.slice b 0 (lenL s) 1, σ)
    | _ => none)
noncomputable def opRunes (T : Tab) (q : Bool) (e : TypeId) (x : Opd) (env : Env) (σ : St) : Option (AVal × St) :=
    if q then none else
    (match x.ev T env with
    | .str s => σ.newK (.cells false e (runesL (lenL s) s)) fun b σ => some (.slice b 0 (lenL (runesL (lenL s) s)) 1, σ)
    | _ => none)
noncomputable def opStrOf (T : Tab) (x : Opd) (env : Env) (σ : St) : Option (AVal × St) :=
    (match x.ev T env with
    | .str _ => none
    | v => (match cellsIn σ 1 v with
      | some (_, cs) => (match bytesOfCells cs with | some l => some (.str l, σ) | none => none)
      | none => none))
noncomputable def opStrRunes (T : Tab) (x : Opd) (env : Env) (σ : St) : Option (AVal × St) :=
    (match x.ev T env with
    | .str _ => none
    | v => (match cellsIn σ 1 v with
      | some (_, cs) => (match runesOfCells cs with | some l => some (.str l, σ) | none => none)
      | none => none))
noncomputable def opStamp (T : Tab) (q : Bool) (x : Opd) (env : Env) (σ : St) : Option (AVal × St) :=
    if q then none else
    (match x.ev T env with
    | .slice b i (n + 1) s => (match σ.get b with | some (.cells true _ _) => some (.slice b i (n + 1) s, σ) | _ => none)
    | _ => none)
noncomputable def opToUnsafe (T : Tab) (x : Opd) (env : Env) (σ : St) : Option (AVal × St) :=
    (match x.ev T env with
    | .ptr b i => (match σ.get b with | some (.cells _ _ cs) => if i < lenL cs then some (.ptr b i, σ) else none | _ => none)
    | .nilp => some (.nilp, σ)
    | _ => none)
noncomputable def opCast (T : Tab) (u : TypeId) (x : Opd) (env : Env) (σ : St) : Option (AVal × St) :=
    (match x.ev T env with
    | .ptr b i => (match σ.get b with | some (.cells true e cs) => if inCasts e (lenL cs) i u T.casts then some (.ptr b i, σ) else none | _ => none)
    | .nilp => some (.nilp, σ)
    | _ => none)
noncomputable def opSlStr (T : Tab) (x : Opd) (lo : Option Opd) (hi : Option Opd) (env : Env) (σ : St) : Option (AVal × St) :=
    (match x.ev T env with
    | .str s => (match boundsL (lenL s) (lenL s) (lo.map (·.ev T env)) (hi.map (·.ev T env)) none with
      | some (l, h) => (match sub s l (h - l) with | some r => some (.str r, σ) | none => none)
      | none => none)
    | _ => none)
noncomputable def opSlSl (T : Tab) (s : Nat) (x : Opd) (lo : Option Opd) (hi : Option Opd) (mx : Option Opd) (env : Env) (σ : St) : Option (AVal × St) :=
    (match x.ev T env with
    | .nils => (match boundsL 0 0 (lo.map (·.ev T env)) (hi.map (·.ev T env)) (mx.map (·.ev T env)) with | some _ => some (.nils, σ) | none => none)
    | .slice b i n s' =>
      if s = s' then
        match boundsL n n (lo.map (·.ev T env)) (hi.map (·.ev T env)) (mx.map (·.ev T env)) with
        | some (l, h) => some (.slice b (i + l * s) (h - l) s, σ)
        | none => none
      else none
    | .rslice n cs =>
      (match boundsL n n (lo.map (·.ev T env)) (hi.map (·.ev T env)) (mx.map (·.ev T env)) with
      | some (l, h) => if l = h then some (.rslice 0 [], σ) else (match dropX (l * s) cs with | some r => some (.rslice (h - l) r, σ) | none => none)
      | none => none)
    | _ => none)
noncomputable def opSlArr (T : Tab) (n : Nat) (s : Nat) (x : Opd) (lo : Option Opd) (hi : Option Opd) (mx : Option Opd) (env : Env) (σ : St) : Option (AVal × St) :=
    (match boundsL n n (lo.map (·.ev T env)) (hi.map (·.ev T env)) (mx.map (·.ev T env)) with
    | some (l, h) =>
      (match x.ev T env with
      | .ptr b i => (match σ.get b with | some (.cells _ _ cs) => if i + n * s ≤ lenL cs ∧ 0 < s then some (.slice b (i + l * s) (h - l) s, σ) else none | _ => none)
      | .rptr cs => if l = h then some (.rslice 0 [], σ) else (match dropX (l * s) cs with | some r => some (.rslice (h - l) r, σ) | none => none)
      | _ => none)
    | none => none)
noncomputable def opFieldAddr (T : Tab) (off : Nat) (x : Opd) (env : Env) (σ : St) : Option (AVal × St) :=
    (match x.ev T env with
    | .ptr b i => some (.ptr b (i + off), σ)
    | .rptr cs => (match dropX off cs with | some r => some (.rptr r, σ) | none => none)
    | _ => none)
noncomputable def opField (T : Tab) (off : Nat) (agg : Option Nat) (x : Opd) (env : Env) (σ : St) : Option (AVal × St) :=
    (match x.ev T env with
    | .agg cs => (match dropX off cs with | some l => (match loadL agg l with | some v => some (v, σ) | none => none) | none => none)
    | _ => none)
noncomputable def opIaSl (T : Tab) (s : Nat) (x : Opd) (i : Opd) (env : Env) (σ : St) : Option (AVal × St) :=
    (match x.ev T env, i.ev T env with
    | .slice b j n s', .int _ i => if s = s' ∧ 0 ≤ i ∧ i < (n : Int) then some (.ptr b (j + i.toNat * s), σ) else none
    | .rslice n cs, .int _ i => if 0 ≤ i ∧ i < (n : Int) then (match dropX (i.toNat * s) cs with | some r => some (.rptr r, σ) | none => none) else none
    | _, _ => none)
noncomputable def opIaArr (T : Tab) (len : Nat) (s : Nat) (x : Opd) (i : Opd) (env : Env) (σ : St) : Option (AVal × St) :=
    (match x.ev T env, i.ev T env with
    | .ptr b j, .int _ i => if 0 ≤ i ∧ i < (len : Int) then some (.ptr b (j + i.toNat * s), σ) else none
    | .rptr cs, .int _ i => if 0 ≤ i ∧ i < (len : Int) then (match dropX (i.toNat * s) cs with | some r => some (.rptr r, σ) | none => none) else none
    | _, _ => none)
noncomputable def opIxArr (T : Tab) (len : Nat) (s : Nat) (agg : Bool) (x : Opd) (i : Opd) (env : Env) (σ : St) : Option (AVal × St) :=
    (match x.ev T env, i.ev T env with
    | .agg cs, .int _ i => if 0 ≤ i ∧ i < (len : Int) then (match dropX (i.toNat * s) cs with | some l => (match loadL (if agg then some s else none) l with | some v => some (v, σ) | none => none) | none => none) else none
    | _, _ => none)
noncomputable def opIxStr (T : Tab) (x : Opd) (i : Opd) (env : Env) (σ : St) : Option (AVal × St) :=
    (match x.ev T env, i.ev T env with
    | .str s, .int _ i => if 0 ≤ i then (match dropX i.toNat s with | some (c :: _) => some (.int .u8 (Int.ofNat c), σ) | _ => none) else none
    | _, _ => none)
noncomputable def opRange (T : Tab) (q : Bool) (x : Opd) (env : Env) (σ : St) : Option (AVal × St) :=
    if q then none else
    (match x.ev T env with
    | .str s => σ.newK (.iter 0 s) fun b σ => some (.ptr b 0, σ)
    | _ => none)
noncomputable def opNext (T : Tab) (q : Bool) (x : Opd) (env : Env) (σ : St) : Option (AVal × St) :=
    if q then none else
    (match x.ev T env with
    | .ptr b 0 =>
      (match σ.get b with
      | some (.iter pos rest) =>
        (match rest with
        | [] => some (.tuple [.bool false], σ)
        | _ :: _ =>
          match dropX (decodeL rest).2 rest with
          | some rest' => forceI (Int.ofNat (pos + (decodeL rest).2)) fun p => σ.putK b (.iter p.toNat rest') fun σ => some (.tuple [.bool true, .int .i64 (Int.ofNat pos), .int .i32 (Int.ofNat (decodeL rest).1)], σ)
          | none => none)
      | _ => none)
    | _ => none)
noncomputable def opExtract (T : Tab) (x : Opd) (i : Nat) (env : Env) (σ : St) : Option (AVal × St) := (match x.ev T env with | .tuple vs => (match dropX i vs with | some (v :: _) => some (v, σ) | _ => none) | _ => none)
noncomputable def opCall (T : Tab) (cf : Bool → Nat → List AVal → St → Option (AVal × St)) (q : Bool) (f : Nat) (args : List Opd) (env : Env) (σ : St) : Option (AVal × St) := cf q f (argsOf (Opd.ev T env) args) σ
noncomputable def opCallV (T : Tab) (cf : Bool → Nat → List AVal → St → Option (AVal × St)) (q : Bool) (fn : Opd) (args : List Opd) (env : Env) (σ : St) : Option (AVal × St) := (match fn.ev T env with | .func f first cap => cf q f (first ++ argsOf (Opd.ev T env) args ++ cap) σ | _ => none)
noncomputable def opExt (T : Tab) (e : Ext) (args : List Opd) (env : Env) (σ : St) : Option (AVal × St) := (match extRun e (argsOf (Opd.ev T env) args) with | some v => some (v, σ) | none => none)
noncomputable def opAppend (T : Tab) (q : Bool) (e : TypeId) (s : Nat) (bytes : Nat) (x : Opd) (y : Opd) (env : Env) (σ : St) : Option (AVal × St) :=
    if q then none else
    (match cellsIn σ s (y.ev T env) with
    | some (0, _) => (match x.ev T env with | .nils => some (.nils, σ) | .slice b i n s' => some (.slice b i n s', σ) | _ => none)
    | some (m + 1, new) =>
      (match x.ev T env with
      | .nils => if (m + 1) * bytes ≤ 1099511627776 ∧ allOne new = true then σ.newK (.cells false e new) fun b σ => some (.slice b 0 (m + 1) s, σ) else none
      | .slice b i n s' =>
        if s = s' ∧ (n + (m + 1)) * bytes ≤ 1099511627776 ∧ allOne new = true then
          match σ.get b with
          | some (.cells _ e' cs) =>
            if e = e' then
              match sub cs i (n * s) with
              | some old => σ.killK b fun σ => σ.newK (.cells false e (old ++ new)) fun b σ => some (.slice b 0 (n + (m + 1)) s, σ)
              | none => none
            else none
          | _ => none
        else none
      | _ => none)
    | none => none)
noncomputable def opLen (T : Tab) (s : Bool) (x : Opd) (env : Env) (σ : St) : Option (AVal × St) :=
  match s with
  | true => (match x.ev T env with | .str s => some (.int .i64 (Int.ofNat (lenL s)), σ) | _ => none)
  | false =>
    (match x.ev T env with
    | .nils => some (.int .i64 0, σ)
    | .slice _ _ n _ => some (.int .i64 (Int.ofNat n), σ)
    | .rslice n _ => some (.int .i64 (Int.ofNat n), σ)
    | _ => none)
noncomputable def opLenArr (n : Nat) (σ : St) : Option (AVal × St) := some (.int .i64 (Int.ofNat n), σ)
noncomputable def opMn (T : Tab) (x : Opd) (y : Opd) (env : Env) (σ : St) : Option (AVal × St) := (match x.ev T env, y.ev T env with | .int k a, .int _ b => some (.int k (if b < a then b else a), σ) | _, _ => none)
noncomputable def opMx (T : Tab) (x : Opd) (y : Opd) (env : Env) (σ : St) : Option (AVal × St) := (match x.ev T env, y.ev T env with | .int k a, .int _ b => some (.int k (if a < b then b else a), σ) | _, _ => none)
noncomputable def opMkFunc (T : Tab) (f : Nat) (first : List Opd) (cap : List Opd) (env : Env) (σ : St) : Option (AVal × St) := some (.func f (argsOf (Opd.ev T env) first) (argsOf (Opd.ev T env) cap), σ)
noncomputable def opMkSlice (T : Tab) (q : Bool) (e : TypeId) (s : Nat) (bytes : Nat) (z : List AVal) (len : Opd) (cap : Opd) (env : Env) (σ : St) : Option (AVal × St) :=
    if q then none else
    (match len.ev T env, cap.ev T env with
    | .int _ l, .int _ c =>
      if 0 ≤ l ∧ l ≤ c ∧ c * (bytes : Int) ≤ 1099511627776 ∧ c ≤ 1099511627776 then σ.newK (.cells true e (rep z c.toNat)) fun b σ => some (.slice b 0 l.toNat s, σ) else none
    | _, _ => none)
noncomputable def opMkIface (T : Tab) (t : TypeId) (x : Opd) (env : Env) (σ : St) : Option (AVal × St) := some (.iface t (x.ev T env), σ)
noncomputable def opSliceData (T : Tab) (x : Opd) (env : Env) (σ : St) : Option (AVal × St) := (match x.ev T env with | .nils => some (.nilp, σ) | .slice b i (_ + 1) _ => some (.ptr b i, σ) | _ => none)
noncomputable def opUnsafeStr (T : Tab) (q : Bool) (e : TypeId) (x : Opd) (n : Opd) (env : Env) (σ : St) : Option (AVal × St) :=
    if q then none else
    (match n.ev T env, x.ev T env with
    | .int _ (.ofNat 0), .nilp => some (.str [], σ)
    | .int _ (.ofNat 0), .ptr _ _ => some (.str [], σ)
    | .int _ (.ofNat (n + 1)), .ptr b i =>
      (match σ.get b with
      | some (.cells _ e' cs) =>
        if e = e' ∧ n < 1099511627776 then
          match sub cs i (n + 1) with
          | some l => (match bytesOfCells l with | some l => σ.killK b fun σ => some (.str l, σ) | none => none)
          | none => none
        else none
      | _ => none)
    | _, _ => none)

/-- One operation. q: nothing may be written, nothing made. -/
noncomputable def stepOp (T : Tab) (cf : Bool → Nat → List AVal → St → Option (AVal × St)) (q : Bool) (op : AOp) (env : Env) (σ : St) : Option (AVal × St) :=
  match op with
  | .mov x => opMov T x env σ
  | .pick c a b => opPick T c a b env σ
  | .alloc e z => opAlloc q e z σ
  | .box e x => opBox T q e x env σ
  | .build z parts => opBuild T z parts env σ
  | .buildSlice e s len z parts => opBuildSlice T q e s len z parts env σ
  | .load agg x => opLoad T agg x env σ
  | .store n x v => opStore T q n x v env σ
  | .nilCheck x => opNilCheck T x env σ
  | .arith op x y => opArith T op x y env σ
  | .strop op x y => opStrop T op x y env σ
  | .eq neg k x y => opEq T neg k x y env σ
  | .not x => opNot T x env σ
  | .neg x => opNeg T x env σ
  | .cpl x => opCpl T x env σ
  | .toInt k x => opToInt T k x env σ
  | .intStr x => opIntStr T x env σ
  | .bytes e x => opBytes T q e x env σ
  | .runes e x => opRunes T q e x env σ
  | .strOf x => opStrOf T x env σ
  | .strRunes x => opStrRunes T x env σ
  | .stamp x => opStamp T q x env σ
  | .toUnsafe x => opToUnsafe T x env σ
  | .cast u x => opCast T u x env σ
  | .slStr x lo hi => opSlStr T x lo hi env σ
  | .slSl s x lo hi mx => opSlSl T s x lo hi mx env σ
  | .slArr n s x lo hi mx => opSlArr T n s x lo hi mx env σ
  | .fieldAddr off x => opFieldAddr T off x env σ
  | .field off agg x => opField T off agg x env σ
  | .iaSl s x i => opIaSl T s x i env σ
  | .iaArr len s x i => opIaArr T len s x i env σ
  | .ixArr len s agg x i => opIxArr T len s agg x i env σ
  | .ixStr x i => opIxStr T x i env σ
  | .range x => opRange T q x env σ
  | .next x => opNext T q x env σ
  | .extract x i => opExtract T x i env σ
  | .call f args => opCall T cf q f args env σ
  | .callV fn args => opCallV T cf q fn args env σ
  | .ext e args => opExt T e args env σ
  | .append e s bytes x y => opAppend T q e s bytes x y env σ
  | .len s x => opLen T s x env σ
  | .lenArr n => opLenArr n σ
  | .mn x y => opMn T x y env σ
  | .mx x y => opMx T x y env σ
  | .mkFunc f first cap => opMkFunc T f first cap env σ
  | .mkSlice e s bytes z len cap => opMkSlice T q e s bytes z len cap env σ
  | .mkIface t x => opMkIface T t x env σ
  | .sliceData x => opSliceData T x env σ
  | .unsafeStr e x n => opUnsafeStr T q e x n env σ

mutual
noncomputable def eqA : AVal → AVal → Bool
  | .bool a, .bool b => a == b
  | .int k a, .int k' b => decide (k = k') && a == b
  | .str a, .str b => eqBytes a b
  | .nilp, .nilp => true
  | .ptr a i, .ptr b j => a == b && i == j
  | .nils, .nils => true
  | .slice a i n s, .slice b j m t => a == b && i == j && n == m && s == t
  | .nilf, .nilf => true
  | .nili, .nili => true
  | .agg xs, .agg ys => eqAs xs ys
  | .tuple xs, .tuple ys => eqAs xs ys
  | .rslice n xs, .rslice m ys => n == m && eqAs xs ys
  | .rptr xs, .rptr ys => eqAs xs ys
  | .iface t x, .iface u y => t == u && eqA x y
  | .func f xs ys, .func g us vs => f == g && eqAs xs us && eqAs ys vs
  | _, _ => false
noncomputable def eqAs : List AVal → List AVal → Bool
  | [], [] => true
  | x :: xs, y :: ys => eqA x y && eqAs xs ys
  | _, _ => false
end

noncomputable def wantedA (o : AOper) (env : Env) : Bool :=
  match o.guard with
  | none => true
  | some (p, want) => match env.get p with | some (.bool b) => b == want | _ => false

noncomputable def setDstK {β : Type} (o : AOper) (v : AVal) (env : Env) (k : Env → β) : β :=
  match o.dst with
  | none => k env
  | some p => forceV v fun v => env.setK p (some v) k

abbrev CF := Bool → Nat → List AVal → St → Option (AVal × St)

/-R runOps-/
noncomputable def runOps (T : Tab) (cf : CF) (q : Bool) (ops : List AOper) : Env → St → Option (Env × St) :=
  List.rec (motive := fun _ => Env → St → Option (Env × St)) (fun env σ => some (env, σ))
    (fun o _ ih env σ =>
      match wantedA o env with
      | true => (match stepOp T cf q o.op env σ with | some r => setDstK o r.1 env fun env => ih env r.2 | none => none)
      | false => setDstK o undefA env fun env => ih env σ) ops
/-E-/
/-- A reading that may come elsewhere among the effects: what it gave. -/
structure Flt where
  hi : Nat
  op : AOp
  env : Env
  v : AVal

noncomputable def stays (T : Tab) (cf : CF) (op : AOp) (env : Env) (v : AVal) (σ : St) : Bool :=
  match stepOp T cf true op env σ with
  | some r => eqA v r.1
  | none => false

noncomputable def staysAll (T : Tab) (cf : CF) (op : AOp) (env : Env) (v : AVal) : Nat → List St → Bool
  | 0, _ => true
  | _ + 1, [] => false
  | n + 1, σ :: l => stays T cf op env v σ && staysAll T cf op env v n l

noncomputable def fltsStay (T : Tab) (cf : CF) (k : Nat) (σ : St) : List Flt → Bool
  | [] => true
  | f :: l => (decide (f.hi < k) || stays T cf f.op f.env f.v σ) && fltsStay T cf k σ l

noncomputable def drawOps (T : Tab) (cf : CF) (q : Bool) : List AOper → Nat → List St → List Flt → Env → St → Option (Env × St)
  | [], _, _, _, env, σ => some (env, σ)
  | o :: ops, k, old, fl, env, σ =>
    match o.dk with
    | .pure =>
      (match wantedA o env with
      | true => (match stepOp T cf true o.op env σ with | some r => setDstK o r.1 env fun env => drawOps T cf q ops k old fl env σ | none => none)
      | false => setDstK o undefA env fun env => drawOps T cf q ops k old fl env σ)
    | .read lo hi =>
      (match wantedA o env with
      | true =>
        (match stepOp T cf true o.op env σ with
        | some r => if staysAll T cf o.op env r.1 (k - lo) old then setDstK o r.1 env fun env' => drawOps T cf q ops k old (if k < hi then ⟨hi, o.op, env, r.1⟩ :: fl else fl) env' σ else none
        | none => none)
      | false => setDstK o undefA env fun env => drawOps T cf q ops k old fl env σ)
    | .eff =>
      (match wantedA o env with
      | true =>
        (match stepOp T cf q o.op env σ with
        | some r => if fltsStay T cf (k + 1) r.2 fl then setDstK o r.1 env fun env => drawOps T cf q ops (k + 1) (σ :: old) fl env r.2 else none
        | none => none)
      | false => setDstK o undefA env fun env => drawOps T cf q ops (k + 1) (σ :: old) fl env σ)

noncomputable def resOne (T : Tab) (env : Env) (σ : St) : Res → Option AVal
  | .tmp p => some ((Opd.t p).ev T env)
  | .cell p agg =>
    match (Opd.t p).ev T env with
    | .ptr b i =>
      (match σ.get b with
      | some (.cells _ _ cs) => (match dropX i cs with | some l => loadL agg l | none => none)
      | _ => none)
    | .rptr cs => loadL agg cs
    | _ => none

noncomputable def resAll (T : Tab) (env : Env) (σ : St) : List Res → Option (List AVal)
  | [] => some []
  | r :: l => match resOne T env σ r, resAll T env σ l with | some v, some vs => some (v :: vs) | _, _ => none

noncomputable def resV (T : Tab) (env : Env) (σ : St) (rs : List Res) : Option AVal :=
  match resAll T env σ rs with
  | some [v] => some v
  | some vs => some (.tuple vs)
  | none => none

abbrev EX := Bool → ACode → Env → St → Option (Out × Env × St)

noncomputable def callF (T : Tab) (ih : EX) : CF := fun q f args σ =>
  match T.fn.get (path f) with
  | some fn =>
    if lenL args = fn.arity then
      (match ih q fn.body (envOf args 0 .emp) σ with
      | some (.normal, env, σ) => (match resV T env σ fn.results with | some v => some (v, σ) | none => none)
      | some (.ret, env, σ) => (match resV T env σ fn.results with | some v => some (v, σ) | none => none)
      | _ => none)
    else none
  | none => none

noncomputable def stepC (T : Tab) (ih : EX) (q : Bool) (c : ACode) (env : Env) (σ : St) : Option (Out × Env × St) :=
  match c with
  | .skip => some (.normal, env, σ)
  | .region false ops => (match runOps T (callF T ih) q ops env σ with | some r => some (.normal, r.1, r.2) | none => none)
  | .region true ops => (match drawOps T (callF T ih) q ops 0 [] [] env σ with | some r => some (.normal, r.1, r.2) | none => none)
  | .seq a b =>
    (match ih q a env σ with
    | some (.normal, env, σ) => ih q b env σ
    | r => r)
  | .cond c a b => (match c.ev T env with | .bool true => ih q a env σ | .bool false => ih q b env σ | _ => none)
  | .block id a =>
    (match ih q a env σ with
    | some (.exit j, env, σ) => if j = id then some (.normal, env, σ) else some (.exit j, env, σ)
    | r => r)
  | .loop a =>
    (match ih q a env σ with
    | some (.normal, env, σ) => ih q (.loop a) env σ
    | r => r)
  | .scope a => ih q a env σ
  | .exit id => some (.exit id, env, σ)
  | .ret => some (.ret, env, σ)
  | .fail => none

/-- The run, so many levels deep. -/
/-R exec-/
noncomputable def exec (T : Tab) (n : Nat) : EX := Nat.rec (motive := fun _ => EX) (fun _ _ _ _ => none) (fun _ ih => stepC T ih) n
/-E-/
noncomputable def call (T : Tab) (n : Nat) : CF := callF T (exec T n)

noncomputable def st0 : St := { heap := .emp, next := 0 }

end Go.Ab

namespace Go.Ab
open Go Go.RowKit

/-! ## Tries -/
section
variable {α β : Type}
@[simp] theorem Tr.get_e (p : List Bool) : Tr.get p (.emp : Tr α) = none := by cases p <;> rfl
@[simp] theorem Tr.get_nil (l r : Tr α) (v : Option α) : Tr.get [] (.n l v r) = v := rfl
@[simp] theorem Tr.get_false (p : List Bool) (l r : Tr α) (v : Option α) : Tr.get (false :: p) (.n l v r) = Tr.get p l := rfl
@[simp] theorem Tr.get_true (p : List Bool) (l r : Tr α) (v : Option α) : Tr.get (true :: p) (.n l v r) = Tr.get p r := rfl
theorem Tr.set_nil (x : Option α) (l r : Tr α) (v : Option α) : Tr.set [] x (.n l v r) = .n l x r := rfl
theorem Tr.set_nil_e (x : Option α) : Tr.set [] x (.emp : Tr α) = .n .emp x .emp := rfl
theorem Tr.set_false (p : List Bool) (x : Option α) (l r : Tr α) (v : Option α) : Tr.set (false :: p) x (.n l v r) = .n (Tr.set p x l) v r := rfl
theorem Tr.set_true (p : List Bool) (x : Option α) (l r : Tr α) (v : Option α) : Tr.set (true :: p) x (.n l v r) = .n l v (Tr.set p x r) := rfl
theorem Tr.set_false_e (p : List Bool) (x : Option α) : Tr.set (false :: p) x (.emp : Tr α) = .n (Tr.set p x .emp) none .emp := rfl
theorem Tr.set_true_e (p : List Bool) (x : Option α) : Tr.set (true :: p) x (.emp : Tr α) = .n .emp none (Tr.set p x .emp) := rfl

theorem Tr.get_set_same (p : List Bool) (x : Option α) : ∀ t : Tr α, Tr.get p (Tr.set p x t) = x := by
  induction p with
  | nil => intro t; cases t <;> rfl
  | cons b p ih => intro t; cases t <;> cases b <;> simp [Tr.set_false, Tr.set_true, Tr.set_false_e, Tr.set_true_e, ih]

theorem Tr.get_set_other (p : List Bool) (x : Option α) : ∀ (q : List Bool) (t : Tr α), q ≠ p → Tr.get q (Tr.set p x t) = Tr.get q t := by
  induction p with
  | nil =>
    intro q t h
    cases q with
    | nil => exact absurd rfl h
    | cons b q => cases t <;> cases b <;> simp [Tr.set_nil, Tr.set_nil_e]
  | cons b p ih =>
    intro q t h
    cases q with
    | nil => cases t <;> cases b <;> simp [Tr.set_false, Tr.set_true, Tr.set_false_e, Tr.set_true_e, Tr.get]
    | cons c q =>
      cases t <;> cases b <;> cases c <;> simp [Tr.set_false, Tr.set_true, Tr.set_false_e, Tr.set_true_e]
      all_goals (have := ih q .emp (by simpa using h); first | exact this | (rw [ih q _ (by simpa using h)]; try simp))

theorem Tr.setK_eq (p : List Bool) (x : Option α) : ∀ (t : Tr α) (k : Tr α → β), Tr.setK p x t k = k (Tr.set p x t) := by
  induction p with
  | nil => intro t k; cases t <;> rfl
  | cons b p ih =>
    intro t k
    cases t <;> cases b
    · exact ih .emp (fun l => k (.n l none .emp))
    · exact ih .emp (fun r => k (.n .emp none r))
    · rename_i l v r; exact ih l (fun l => k (.n l v r))
    · rename_i l v r; exact ih r (fun r => k (.n l v r))
end

/-! ## Paths -/
def unpath : List Bool → Nat
  | [] => 0
  | false :: p => 2 * unpath p + 1
  | true :: p => 2 * unpath p + 2

theorem unpath_go (f : Nat) : ∀ k, k ≤ f → unpath (pathGo f k) = k := by
  induction f with
  | zero => intro k h; have : k = 0 := by omega
            subst this; rfl
  | succ f ih =>
    intro k h
    cases k with
    | zero => rfl
    | succ k =>
      have h2 : unpath (pathGo f (k / 2)) = k / 2 := ih _ (by omega)
      have e : pathGo (f + 1) (k + 1) = (Nat.rec (motive := fun _ => Bool) false (fun _ _ => true) (k % 2)) :: pathGo f (k / 2) := rfl
      rw [e]
      rcases Nat.mod_two_eq_zero_or_one k with h0 | h1
      · rw [h0]; show 2 * unpath (pathGo f (k / 2)) + 1 = k + 1; omega
      · rw [h1]; show 2 * unpath (pathGo f (k / 2)) + 2 = k + 1; omega

theorem path_inj {a b : Nat} (h : path a = path b) : a = b := by
  have := congrArg unpath h
  unfold path at this
  rwa [unpath_go a a (Nat.le_refl _), unpath_go b b (Nat.le_refl _)] at this

/-! ## Lists -/
section
variable {α : Type}
theorem lenL_eq (l : List α) : lenL l = l.length := by
  induction l with
  | nil => rfl
  | cons a l ih => show Nat.succ (lenL l) = _; rw [ih]; rfl

theorem dropX_zero (l : List α) : dropX 0 l = some l := rfl
theorem dropX_succ_nil (n : Nat) : dropX (n + 1) ([] : List α) = none := rfl
theorem dropX_succ_cons (n : Nat) (x : α) (l : List α) : dropX (n + 1) (x :: l) = dropX n l := rfl
theorem takeX_zero (l : List α) : takeX 0 l = some [] := rfl
theorem takeX_succ_nil (n : Nat) : takeX (n + 1) ([] : List α) = none := rfl
theorem takeX_succ_cons (n : Nat) (x : α) (l : List α) : takeX (n + 1) (x :: l) = (match takeX n l with | some r => some (x :: r) | none => none) := by
  have e : takeX (n + 1) (x :: l) = Option.rec (motive := fun _ => Option (List α)) none (fun r => some (x :: r)) (takeX n l) := rfl
  rw [e]
  cases takeX n l <;> rfl

theorem dropX_eq {n : Nat} : ∀ {l r : List α}, dropX n l = some r ↔ n ≤ l.length ∧ r = l.drop n := by
  induction n with
  | zero => intro l r; rw [dropX_zero]; simp [eq_comm]
  | succ n ih =>
    intro l r
    cases l with
    | nil => rw [dropX_succ_nil]; simp
    | cons x l => rw [dropX_succ_cons, ih]; simp

theorem takeX_eq {n : Nat} : ∀ {l r : List α}, takeX n l = some r ↔ n ≤ l.length ∧ r = l.take n := by
  induction n with
  | zero => intro l r; rw [takeX_zero]; simp [eq_comm]
  | succ n ih =>
    intro l r
    cases l with
    | nil => rw [takeX_succ_nil]; simp
    | cons x l =>
      rw [takeX_succ_cons]
      cases h : takeX n l with
      | none =>
        constructor
        · intro h'; simp at h'
        · rintro ⟨h1, h2⟩
          have := (ih (l := l) (r := l.take n)).2 ⟨by simpa using h1, rfl⟩
          rw [h] at this; simp at this
      | some r' =>
        obtain ⟨h1, rfl⟩ := ih.1 h
        simp [eq_comm]; intro _; exact h1

theorem sub_eq {i n : Nat} {l r : List α} : sub l i n = some r ↔ i + n ≤ l.length ∧ r = (l.drop i).take n := by
  unfold sub
  cases h : dropX i l with
  | none =>
    constructor
    · intro h'; simp at h'
    · rintro ⟨h1, _⟩
      have := (dropX_eq (l := l) (r := l.drop i)).2 ⟨by omega, rfl⟩
      rw [h] at this; simp at this
  | some d =>
    obtain ⟨h1, rfl⟩ := dropX_eq.1 h
    simp only [takeX_eq, List.length_drop]
    constructor
    · rintro ⟨a, b⟩; exact ⟨by omega, b⟩
    · rintro ⟨a, b⟩; exact ⟨by omega, b⟩

theorem putX_eq : ∀ {i : Nat} {l vs r : List α}, putX i l vs = some r →
    (vs = [] ∧ r = l) ∨ (i + vs.length ≤ l.length ∧ r = l.take i ++ vs ++ l.drop (i + vs.length)) := by
  intro i l
  induction l generalizing i with
  | nil =>
    intro vs r h
    cases vs with
    | nil => left; unfold putX at h; simpa [eq_comm] using h
    | cons v vs => unfold putX at h; simp at h
  | cons x l ih =>
    intro vs r h
    cases vs with
    | nil => left; unfold putX at h; simpa [eq_comm] using h
    | cons v vs =>
      cases i with
      | zero =>
        unfold putX at h
        cases h' : putX 0 l vs with
        | none => rw [h'] at h; simp at h
        | some r' =>
          rw [h'] at h; simp at h; subst h
          rcases ih h' with ⟨rfl, rfl⟩ | ⟨h1, rfl⟩
          · right; simp
          · right; simp at h1 ⊢; exact h1
      | succ i =>
        unfold putX at h
        cases h' : putX i l (v :: vs) with
        | none => rw [h'] at h; simp at h
        | some r' =>
          rw [h'] at h; simp at h; subst h
          rcases ih h' with ⟨h0, _⟩ | ⟨h1, rfl⟩
          · simp at h0
          · right
            refine ⟨by simp at h1 ⊢; omega, ?_⟩
            simp at h1 ⊢
            rw [show i + 1 + (vs.length + 1) = (i + (vs.length + 1)) + 1 by omega]; rfl
end
end Go.Ab
