/- The abstract machine, part 34: own memory, strings' ends, arrays, as seen by a run. -/
import Derived.Test.YthbanbnmomcohaaGreatDoorM9
set_option linter.all false
set_option linter.unusedSimpArgs false
noncomputable section
namespace Go.Ab
open Go Go.RowKit

def stS (σ : St) (n : Nat) (p v : AVal) : Option St := match p with
  | .ptr b i =>
    (match σ.get b with
    | some (.cells f e cs) =>
      if lenL v.cells = n ∧ allOne v.cells = true then
        match putX i cs v.cells with
        | some cs => some (σ.put b (.cells f e cs))
        | none => none
      else none
    | _ => none)
  | _ => none
theorem opStore_s {T : Tab} {q : Bool} {n : Nat} {x v : Opd} {env : Env} {σ : St} : opStore T q n x v env σ = (if q then none else match stS σ n (x.ev T env) (v.ev T env) with | some σ => some (undefA, σ) | none => none) := by
  unfold opStore stS
  split
  · rfl
  · cases x.ev T env <;> try rfl
    rename_i b i
    simp only
    cases σ.get b with
    | none => rfl
    | some o =>
      cases o with
      | iter p r => rfl
      | cells f e cs =>
        simp only
        split
        · generalize putX i cs _ = o; cases o
          · rfl
          · simp only [St.putK_eq]
        · rfl
theorem stS_ptr {σ : St} {n b i : Nat} {v : AVal} : stS σ n (.ptr b i) v = (match σ.get b with
    | some (.cells f e cs) =>
      if lenL v.cells = n ∧ allOne v.cells = true then
        match putX i cs v.cells with
        | some cs => some (σ.put b (.cells f e cs))
        | none => none
      else none
    | _ => none) := rfl
theorem fldA_ptr {off b i : Nat} : fldA off (.ptr b i) = some (.ptr b (i + off)) := rfl
theorem ldA_ptr {σ : St} {agg : Option Nat} {b i : Nat} : ldA σ agg (.ptr b i) = (match σ.get b with
    | some (.cells _ _ cs) => (match dropX i cs with | some l => loadL agg l | none => none)
    | _ => none) := by
  unfold ldA cellsAt
  simp only
  cases σ.get b with
  | none => rfl
  | some o =>
    cases o with
    | iter p r => rfl
    | cells f e cs => rfl
theorem loadL_none {c : AVal} {l : List AVal} : loadL none (c :: l) = some c := rfl
theorem loadL_2 {a b : AVal} {l : List AVal} : loadL (some 2) (a :: b :: l) = some (.agg [a, b]) := rfl
theorem loadL_3 {a b c : AVal} {l : List AVal} : loadL (some 3) (a :: b :: c :: l) = some (.agg [a, b, c]) := rfl
theorem loadL_6 {a b c d e f : AVal} {l : List AVal} : loadL (some 6) (a :: b :: c :: d :: e :: f :: l) = some (.agg [a, b, c, d, e, f]) := rfl
theorem putX_all6 {a b c d e f a' b' c' d' e' f' : AVal} : putX 0 [a, b, c, d, e, f] [a', b', c', d', e', f'] = some [a', b', c', d', e', f'] := by simp only [putX]
theorem putX_all3 {a b c a' b' c' : AVal} : putX 0 [a, b, c] [a', b', c'] = some [a', b', c'] := by simp only [putX]
theorem putX_all2 {a b a' b' : AVal} : putX 0 [a, b] [a', b'] = some [a', b'] := by simp only [putX]
theorem putX_all1 {a a' : AVal} : putX 0 [a] [a'] = some [a'] := by simp only [putX]
theorem cells_agg {l : List AVal} : AVal.cells (.agg l) = l := rfl
theorem cells_int {k : IntKind} {n : Int} : AVal.cells (.int k n) = [.int k n] := rfl
theorem cells_bool {b : Bool} : AVal.cells (.bool b) = [.bool b] := rfl
theorem cells_str {s : List Nat} : AVal.cells (.str s) = [.str s] := rfl
theorem cells_func {f : FuncId} {a b : List AVal} : AVal.cells (.func f a b) = [.func f a b] := rfl
theorem cells_slice {b i n s : Nat} : AVal.cells (.slice b i n s) = [.slice b i n s] := rfl
theorem cells_one {v : AVal} (h : v.one = true) : AVal.cells v = [v] := by cases v <;> first | rfl | simp [AVal.one] at h
theorem one_int {k : IntKind} {n : Int} : AVal.one (.int k n) = true := rfl
theorem one_bool {b : Bool} : AVal.one (.bool b) = true := rfl
theorem one_str {s : List Nat} : AVal.one (.str s) = true := rfl
theorem one_func {f : FuncId} {a b : List AVal} : AVal.one (.func f a b) = true := rfl
theorem one_slice {b i n s : Nat} : AVal.one (.slice b i n s) = true := rfl

/-- The end of a string, from a place on. -/
def sfrom (v lo : AVal) : Option AVal := match v, lo with
  | .str s, .int _ n => if 0 ≤ n ∧ n ≤ (s.length : Int) then some (.str (s.drop n.toNat)) else none
  | _, _ => none
theorem opSlStr_from {T : Tab} {x lo : Opd} {env : Env} {σ : St} : opSlStr T x (some lo) none env σ = (match sfrom (x.ev T env) (lo.ev T env) with | some v => some (v, σ) | none => none) := by
  unfold opSlStr sfrom
  simp only [Option.map_some, Option.map_none]
  cases x.ev T env <;> try rfl
  rename_i s
  simp only [boundsL, toNo, Option.isSome_none, Bool.false_eq_true, if_false, lenL_eq]
  cases lo.ev T env <;> try rfl
  rename_i k n
  simp only [toN]
  by_cases h : 0 ≤ n ∧ n ≤ (s.length : Int)
  · have h2 : sub s n.toNat (s.length - n.toNat) = some (s.drop n.toNat) := sub_eq.2 ⟨by omega, by rw [List.take_of_length_le]; simp⟩
    simp only [if_pos h, h2]
  · simp only [if_neg h]

def ixA (len s : Nat) (v i : AVal) : Option AVal := match v, i with
  | .ptr b j, .int _ i => if 0 ≤ i ∧ i < (len : Int) then some (.ptr b (j + i.toNat * s)) else none
  | .rptr cs, .int _ i => if 0 ≤ i ∧ i < (len : Int) then (match dropX (i.toNat * s) cs with | some r => some (.rptr r) | none => none) else none
  | _, _ => none
theorem opIaArr_s {T : Tab} {len s : Nat} {x i : Opd} {env : Env} {σ : St} : opIaArr T len s x i env σ = (match ixA len s (x.ev T env) (i.ev T env) with | some v => some (v, σ) | none => none) := by
  unfold opIaArr ixA
  cases x.ev T env <;> try rfl
  · cases i.ev T env <;> try rfl
    simp only; split <;> rfl
  · rename_i cs
    cases i.ev T env <;> try rfl
    rename_i k n
    simp only
    split
    · cases dropX (n.toNat * s) cs <;> rfl
    · rfl

theorem ixA_r {len s : Nat} {cs : List AVal} {n : Nat} {k : IntKind} (h : n < len) (hs : n * s ≤ cs.length) : ixA len s (.rptr cs) (.int k (n : Int)) = some (.rptr (cs.drop (n * s))) := by
  simp only [ixA, Int.toNat_natCast]
  rw [if_pos ⟨by omega, by omega⟩, dropX_eq.2 ⟨hs, rfl⟩]
theorem ldA_r {σ : St} {agg : Option Nat} {cs : List AVal} : ldA σ agg (.rptr cs) = loadL agg cs := rfl
end Go.Ab
end

noncomputable section
namespace Go.Ab
open Go
set_option maxRecDepth 10000
theorem so_mov {T : Tab} {cf : CF} {q : Bool} {env : Env} {σ : St} {x : Opd} : stepOp T cf q (.mov x) env σ = some (x.ev T env, σ) := rfl
theorem so_pick {T : Tab} {cf : CF} {q : Bool} {env : Env} {σ : St} {c : Opd} {a : Opd} {b : Opd} : stepOp T cf q (.pick c a b) env σ = opPick T c a b env σ := rfl
theorem so_alloc {T : Tab} {cf : CF} {q : Bool} {env : Env} {σ : St} {e : TypeId} {z : List AVal} : stepOp T cf q (.alloc e z) env σ = opAlloc q e z σ := rfl
theorem so_box {T : Tab} {cf : CF} {q : Bool} {env : Env} {σ : St} {e : TypeId} {x : Opd} : stepOp T cf q (.box e x) env σ = opBox T q e x env σ := rfl
theorem so_build {T : Tab} {cf : CF} {q : Bool} {env : Env} {σ : St} {z : List AVal} {parts : List (Nat × Nat × Opd)} : stepOp T cf q (.build z parts) env σ = opBuild T z parts env σ := rfl
theorem so_buildSlice {T : Tab} {cf : CF} {q : Bool} {env : Env} {σ : St} {e : TypeId} {s : Nat} {len : Nat} {z : List AVal} {parts : List (Nat × Nat × Opd)} : stepOp T cf q (.buildSlice e s len z parts) env σ = opBuildSlice T q e s len z parts env σ := rfl
theorem so_load {T : Tab} {cf : CF} {q : Bool} {env : Env} {σ : St} {agg : Option Nat} {x : Opd} : stepOp T cf q (.load agg x) env σ = opLoad T agg x env σ := rfl
theorem so_store {T : Tab} {cf : CF} {q : Bool} {env : Env} {σ : St} {n : Nat} {x : Opd} {v : Opd} : stepOp T cf q (.store n x v) env σ = opStore T q n x v env σ := rfl
theorem so_nilCheck {T : Tab} {cf : CF} {q : Bool} {env : Env} {σ : St} {x : Opd} : stepOp T cf q (.nilCheck x) env σ = opNilCheck T x env σ := rfl
theorem so_arith {T : Tab} {cf : CF} {q : Bool} {env : Env} {σ : St} {op : BinOp} {x : Opd} {y : Opd} : stepOp T cf q (.arith op x y) env σ = (match arith op (x.ev T env) (y.ev T env) with | some v => some (v, σ) | none => none) := rfl
theorem so_strop {T : Tab} {cf : CF} {q : Bool} {env : Env} {σ : St} {op : BinOp} {x : Opd} {y : Opd} : stepOp T cf q (.strop op x y) env σ = (match strop op (x.ev T env) (y.ev T env) with | some v => some (v, σ) | none => none) := rfl
theorem so_eq {T : Tab} {cf : CF} {q : Bool} {env : Env} {σ : St} {neg : Bool} {k : EqK} {x : Opd} {y : Opd} : stepOp T cf q (.eq neg k x y) env σ = (match eqV k (x.ev T env) (y.ev T env) with | some b => some (.bool (if neg then !b else b), σ) | none => none) := rfl
theorem so_not {T : Tab} {cf : CF} {q : Bool} {env : Env} {σ : St} {x : Opd} : stepOp T cf q (.not x) env σ = (match x.ev T env with | .bool b => some (.bool (!b), σ) | _ => none) := rfl
theorem so_neg {T : Tab} {cf : CF} {q : Bool} {env : Env} {σ : St} {x : Opd} : stepOp T cf q (.neg x) env σ = opNeg T x env σ := rfl
theorem so_cpl {T : Tab} {cf : CF} {q : Bool} {env : Env} {σ : St} {x : Opd} : stepOp T cf q (.cpl x) env σ = opCpl T x env σ := rfl
theorem so_toInt {T : Tab} {cf : CF} {q : Bool} {env : Env} {σ : St} {k : IntKind} {x : Opd} : stepOp T cf q (.toInt k x) env σ = (match x.ev T env with | .int _ n => some (.int k (wrapI k n), σ) | _ => none) := rfl
theorem so_intStr {T : Tab} {cf : CF} {q : Bool} {env : Env} {σ : St} {x : Opd} : stepOp T cf q (.intStr x) env σ = opIntStr T x env σ := rfl
theorem so_bytes {T : Tab} {cf : CF} {q : Bool} {env : Env} {σ : St} {e : TypeId} {x : Opd} : stepOp T cf q (.bytes e x) env σ = opBytes T q e x env σ := rfl
theorem so_runes {T : Tab} {cf : CF} {q : Bool} {env : Env} {σ : St} {e : TypeId} {x : Opd} : stepOp T cf q (.runes e x) env σ = opRunes T q e x env σ := rfl
theorem so_strOf {T : Tab} {cf : CF} {q : Bool} {env : Env} {σ : St} {x : Opd} : stepOp T cf q (.strOf x) env σ = opStrOf T x env σ := rfl
theorem so_strRunes {T : Tab} {cf : CF} {q : Bool} {env : Env} {σ : St} {x : Opd} : stepOp T cf q (.strRunes x) env σ = opStrRunes T x env σ := rfl
theorem so_stamp {T : Tab} {cf : CF} {q : Bool} {env : Env} {σ : St} {x : Opd} : stepOp T cf q (.stamp x) env σ = opStamp T q x env σ := rfl
theorem so_toUnsafe {T : Tab} {cf : CF} {q : Bool} {env : Env} {σ : St} {x : Opd} : stepOp T cf q (.toUnsafe x) env σ = opToUnsafe T x env σ := rfl
theorem so_cast {T : Tab} {cf : CF} {q : Bool} {env : Env} {σ : St} {u : TypeId} {x : Opd} : stepOp T cf q (.cast u x) env σ = opCast T u x env σ := rfl
theorem so_slStr {T : Tab} {cf : CF} {q : Bool} {env : Env} {σ : St} {x : Opd} {lo : Option Opd} {hi : Option Opd} : stepOp T cf q (.slStr x lo hi) env σ = opSlStr T x lo hi env σ := rfl
theorem so_slSl {T : Tab} {cf : CF} {q : Bool} {env : Env} {σ : St} {s : Nat} {x : Opd} {lo : Option Opd} {hi : Option Opd} {mx : Option Opd} : stepOp T cf q (.slSl s x lo hi mx) env σ = opSlSl T s x lo hi mx env σ := rfl
theorem so_slArr {T : Tab} {cf : CF} {q : Bool} {env : Env} {σ : St} {n : Nat} {s : Nat} {x : Opd} {lo : Option Opd} {hi : Option Opd} {mx : Option Opd} : stepOp T cf q (.slArr n s x lo hi mx) env σ = opSlArr T n s x lo hi mx env σ := rfl
theorem so_fieldAddr {T : Tab} {cf : CF} {q : Bool} {env : Env} {σ : St} {off : Nat} {x : Opd} : stepOp T cf q (.fieldAddr off x) env σ = opFieldAddr T off x env σ := rfl
theorem so_field {T : Tab} {cf : CF} {q : Bool} {env : Env} {σ : St} {off : Nat} {agg : Option Nat} {x : Opd} : stepOp T cf q (.field off agg x) env σ = opField T off agg x env σ := rfl
theorem so_iaSl {T : Tab} {cf : CF} {q : Bool} {env : Env} {σ : St} {s : Nat} {x : Opd} {i : Opd} : stepOp T cf q (.iaSl s x i) env σ = opIaSl T s x i env σ := rfl
theorem so_iaArr {T : Tab} {cf : CF} {q : Bool} {env : Env} {σ : St} {len : Nat} {s : Nat} {x : Opd} {i : Opd} : stepOp T cf q (.iaArr len s x i) env σ = opIaArr T len s x i env σ := rfl
theorem so_ixArr {T : Tab} {cf : CF} {q : Bool} {env : Env} {σ : St} {len : Nat} {s : Nat} {agg : Bool} {x : Opd} {i : Opd} : stepOp T cf q (.ixArr len s agg x i) env σ = opIxArr T len s agg x i env σ := rfl
theorem so_ixStr {T : Tab} {cf : CF} {q : Bool} {env : Env} {σ : St} {x : Opd} {i : Opd} : stepOp T cf q (.ixStr x i) env σ = opIxStr T x i env σ := rfl
theorem so_range {T : Tab} {cf : CF} {q : Bool} {env : Env} {σ : St} {x : Opd} : stepOp T cf q (.range x) env σ = opRange T q x env σ := rfl
theorem so_next {T : Tab} {cf : CF} {q : Bool} {env : Env} {σ : St} {x : Opd} : stepOp T cf q (.next x) env σ = opNext T q x env σ := rfl
theorem so_extract {T : Tab} {cf : CF} {q : Bool} {env : Env} {σ : St} {x : Opd} {i : Nat} : stepOp T cf q (.extract x i) env σ = opExtract T x i env σ := rfl
theorem so_call {T : Tab} {cf : CF} {q : Bool} {env : Env} {σ : St} {f : Nat} {args : List Opd} : stepOp T cf q (.call f args) env σ = opCall T cf q f args env σ := rfl
theorem so_callV {T : Tab} {cf : CF} {q : Bool} {env : Env} {σ : St} {fn : Opd} {args : List Opd} : stepOp T cf q (.callV fn args) env σ = opCallV T cf q fn args env σ := rfl
theorem so_ext {T : Tab} {cf : CF} {q : Bool} {env : Env} {σ : St} {e : Ext} {args : List Opd} : stepOp T cf q (.ext e args) env σ = opExt T e args env σ := rfl
theorem so_append {T : Tab} {cf : CF} {q : Bool} {env : Env} {σ : St} {e : TypeId} {s : Nat} {bytes : Nat} {x : Opd} {y : Opd} : stepOp T cf q (.append e s bytes x y) env σ = opAppend T q e s bytes x y env σ := rfl
theorem so_len {T : Tab} {cf : CF} {q : Bool} {env : Env} {σ : St} {s : Bool} {x : Opd} : stepOp T cf q (.len s x) env σ = opLen T s x env σ := rfl
theorem so_lenArr {T : Tab} {cf : CF} {q : Bool} {env : Env} {σ : St} {n : Nat} : stepOp T cf q (.lenArr n) env σ = opLenArr n σ := rfl
theorem so_mn {T : Tab} {cf : CF} {q : Bool} {env : Env} {σ : St} {x : Opd} {y : Opd} : stepOp T cf q (.mn x y) env σ = opMn T x y env σ := rfl
theorem so_mx {T : Tab} {cf : CF} {q : Bool} {env : Env} {σ : St} {x : Opd} {y : Opd} : stepOp T cf q (.mx x y) env σ = opMx T x y env σ := rfl
theorem so_mkFunc {T : Tab} {cf : CF} {q : Bool} {env : Env} {σ : St} {f : Nat} {first : List Opd} {cap : List Opd} : stepOp T cf q (.mkFunc f first cap) env σ = opMkFunc T f first cap env σ := rfl
theorem so_mkSlice {T : Tab} {cf : CF} {q : Bool} {env : Env} {σ : St} {e : TypeId} {s : Nat} {bytes : Nat} {z : List AVal} {len : Opd} {cap : Opd} : stepOp T cf q (.mkSlice e s bytes z len cap) env σ = opMkSlice T q e s bytes z len cap env σ := rfl
theorem so_mkIface {T : Tab} {cf : CF} {q : Bool} {env : Env} {σ : St} {t : TypeId} {x : Opd} : stepOp T cf q (.mkIface t x) env σ = opMkIface T t x env σ := rfl
theorem so_sliceData {T : Tab} {cf : CF} {q : Bool} {env : Env} {σ : St} {x : Opd} : stepOp T cf q (.sliceData x) env σ = opSliceData T x env σ := rfl
theorem so_unsafeStr {T : Tab} {cf : CF} {q : Bool} {env : Env} {σ : St} {e : TypeId} {x : Opd} {n : Opd} : stepOp T cf q (.unsafeStr e x n) env σ = opUnsafeStr T q e x n env σ := rfl
theorem ar_add {k : IntKind} {x y : Int} : arith .add (.int k x) (.int k y) = some (.int k (wrapI k (x + y))) := by first | (simp only [arith, if_true]; done) | (simp only [arith, if_true]; rfl)
theorem ar_sub {k : IntKind} {x y : Int} : arith .sub (.int k x) (.int k y) = some (.int k (wrapI k (x - y))) := by first | (simp only [arith, if_true]; done) | (simp only [arith, if_true]; rfl)
theorem ar_mul {k : IntKind} {x y : Int} : arith .mul (.int k x) (.int k y) = some (.int k (wrapI k (x * y))) := by first | (simp only [arith, if_true]; done) | (simp only [arith, if_true]; rfl)
theorem ar_quo {k : IntKind} {x y : Int} : arith .quo (.int k x) (.int k y) = if y = 0 then none else some (.int k (wrapI k (x.tdiv y))) := by first | (simp only [arith, if_true]; done) | (simp only [arith, if_true]; rfl)
theorem ar_rem {k : IntKind} {x y : Int} : arith .rem (.int k x) (.int k y) = if y = 0 then none else some (.int k (x.tmod y)) := by first | (simp only [arith, if_true]; done) | (simp only [arith, if_true]; rfl)
theorem ar_and {k : IntKind} {x y : Int} : arith .and (.int k x) (.int k y) = intArith .and k x y := by first | (simp only [arith, if_true]; done) | (simp only [arith, if_true]; rfl)
theorem ar_or {k : IntKind} {x y : Int} : arith .or (.int k x) (.int k y) = intArith .or k x y := by first | (simp only [arith, if_true]; done) | (simp only [arith, if_true]; rfl)
theorem ar_xor {k : IntKind} {x y : Int} : arith .xor (.int k x) (.int k y) = intArith .xor k x y := by first | (simp only [arith, if_true]; done) | (simp only [arith, if_true]; rfl)
theorem ar_andNot {k : IntKind} {x y : Int} : arith .andNot (.int k x) (.int k y) = intArith .andNot k x y := by first | (simp only [arith, if_true]; done) | (simp only [arith, if_true]; rfl)
theorem ar_eql {k : IntKind} {x y : Int} : arith .eql (.int k x) (.int k y) = some (.bool (x == y)) := by first | (simp only [arith, if_true]; done) | (simp only [arith, if_true]; rfl)
theorem ar_neq {k : IntKind} {x y : Int} : arith .neq (.int k x) (.int k y) = some (.bool (x != y)) := by first | (simp only [arith, if_true]; done) | (simp only [arith, if_true]; rfl)
theorem ar_lss {k : IntKind} {x y : Int} : arith .lss (.int k x) (.int k y) = some (.bool (decide (x < y))) := by first | (simp only [arith, if_true]; done) | (simp only [arith, if_true]; rfl)
theorem ar_leq {k : IntKind} {x y : Int} : arith .leq (.int k x) (.int k y) = some (.bool (decide (x ≤ y))) := by first | (simp only [arith, if_true]; done) | (simp only [arith, if_true]; rfl)
theorem ar_gtr {k : IntKind} {x y : Int} : arith .gtr (.int k x) (.int k y) = some (.bool (decide (y < x))) := by first | (simp only [arith, if_true]; done) | (simp only [arith, if_true]; rfl)
theorem ar_geq {k : IntKind} {x y : Int} : arith .geq (.int k x) (.int k y) = some (.bool (decide (y ≤ x))) := by first | (simp only [arith, if_true]; done) | (simp only [arith, if_true]; rfl)
theorem ar_shl {k k2 : IntKind} {x y : Int} : arith .shl (.int k x) (.int k2 y) = shiftI .shl k x y := rfl
theorem ar_shr {k k2 : IntKind} {x y : Int} : arith .shr (.int k x) (.int k2 y) = shiftI .shr k x y := rfl
theorem st_add {x y : List Nat} : strop .add (.str x) (.str y) = if lenL x + lenL y ≤ 1073741824 then some (.str (x ++ y)) else none := rfl
theorem st_eql {x y : List Nat} : strop .eql (.str x) (.str y) = some (.bool (eqBytes x y)) := rfl
theorem st_neq {x y : List Nat} : strop .neq (.str x) (.str y) = some (.bool (!eqBytes x y)) := rfl
theorem st_lss {x y : List Nat} : strop .lss (.str x) (.str y) = some (.bool (ltBytes x y)) := rfl
theorem st_leq {x y : List Nat} : strop .leq (.str x) (.str y) = some (.bool (ltBytes x y || eqBytes x y)) := rfl
theorem st_gtr {x y : List Nat} : strop .gtr (.str x) (.str y) = some (.bool (!(ltBytes x y || eqBytes x y))) := rfl
theorem st_geq {x y : List Nat} : strop .geq (.str x) (.str y) = some (.bool (!ltBytes x y)) := rfl
theorem ev_0 {a b : Bool} : eqV .bool (.bool a) (.bool b) = some (a == b) := by simp only [eqV, if_true]
theorem ev_1 {k : IntKind} {a b : Int} : eqV .int (.int k a) (.int k b) = some (a == b) := by simp only [eqV, if_true]
theorem ev_2 {a b : List Nat} : eqV .str (.str a) (.str b) = some (eqBytes a b) := by simp only [eqV, if_true]
theorem ev_3  : eqV .ptr .nilp .nilp = some true := by simp only [eqV, if_true]
theorem ev_4 {a b : Nat} : eqV .ptr .nilp (.ptr a b) = some false := by simp only [eqV, if_true]
theorem ev_5 {a b : Nat} : eqV .ptr (.ptr a b) .nilp = some false := by simp only [eqV, if_true]
theorem ev_6  : eqV .slice .nils .nils = some true := by simp only [eqV, if_true]
theorem ev_7 {a b c d : Nat} : eqV .slice .nils (.slice a b c d) = some false := by simp only [eqV, if_true]
theorem ev_8 {a : Nat} {l : List AVal} : eqV .slice .nils (.rslice a l) = some false := by simp only [eqV, if_true]
theorem ev_9 {a b c d : Nat} : eqV .slice (.slice a b c d) .nils = some false := by simp only [eqV, if_true]
theorem ev_10 {a : Nat} {l : List AVal} : eqV .slice (.rslice a l) .nils = some false := by simp only [eqV, if_true]
theorem ev_11  : eqV .func .nilf .nilf = some true := by simp only [eqV, if_true]
theorem ev_c0 : eqVs [] [] [] = some true := by simp only [eqVs]
theorem ev_c1 {ks : List EqK} {xs ys : List AVal} : eqV (.cells ks) (.agg xs) (.agg ys) = eqVs ks xs ys := by simp only [eqV]
theorem ev_c2 {k : EqK} {ks : List EqK} {x y : AVal} {xs ys : List AVal} : eqVs (k :: ks) (x :: xs) (y :: ys) = (match eqV k x y with | some true => eqVs ks xs ys | some false => some false | none => none) := by rw [eqVs]; cases eqV k x y with | none => rfl | some b => cases b <;> rfl
theorem undefA_eq : undefA = .tuple [] := rfl
theorem opPick_eq {T : Tab} {c a b : Opd} {env : Env} {σ : St} : opPick T c a b env σ = (match c.ev T env with | .bool true => some (a.ev T env, σ) | .bool false => some (b.ev T env, σ) | _ => none) := rfl
theorem opAlloc_eq {q : Bool} {e : TypeId} {z : List AVal} {σ : St} : opAlloc q e z σ = if q then none else σ.newK (.cells true e z) fun b σ => some (.ptr b 0, σ) := rfl
theorem opCall_eq {T : Tab} {cf : CF} {q : Bool} {f : Nat} {l : List Opd} {env : Env} {σ : St} : opCall T cf q f l env σ = cf q f (argsOf (Opd.ev T env) l) σ := rfl
theorem argsOf_nil {f : Opd → AVal} : argsOf f [] = [] := rfl
theorem argsOf_cons {f : Opd → AVal} {x : Opd} {l : List Opd} : argsOf f (x :: l) = f x :: argsOf f l := rfl
theorem allOne_nil : allOne [] = true := rfl
theorem allOne_cons {c : AVal} {l : List AVal} : allOne (c :: l) = (c.one && allOne l) := rfl
theorem sA : type_of% (And.intro @Ew_seq (And.intro @Ew_region (And.intro @Ew_draw (And.intro @Ew_cond (And.intro @Ew_block (And.intro @Ew_skip (And.intro @Ew_exit (And.intro @Ew_ret (And.intro @Ew_scope (And.intro @runOps_cons (And.intro @runOps_nil (And.intro @wanted_none (And.intro @wanted_some (And.intro @setDst_some (And.intro @setDst_none (And.intro @ev_t (And.intro @ev_c (And.intro @V_U (And.intro @so_mov (And.intro @so_pick (And.intro @so_alloc (And.intro @so_box (And.intro @so_build (And.intro @so_buildSlice (And.intro @so_load (And.intro @so_store (And.intro @so_nilCheck (And.intro @so_arith (And.intro @so_strop (And.intro @so_eq (And.intro @so_not (And.intro @so_neg (And.intro @so_cpl (And.intro @so_toInt (And.intro @so_intStr (And.intro @so_bytes (And.intro @so_runes (And.intro @so_strOf (And.intro @so_strRunes (And.intro @so_stamp (And.intro @so_toUnsafe (And.intro @so_cast (And.intro @so_slStr (And.intro @so_slSl (And.intro @so_slArr (And.intro @so_fieldAddr (And.intro @so_field (And.intro @so_iaSl (And.intro @so_iaArr (And.intro @so_ixArr (And.intro @so_ixStr (And.intro @so_range (And.intro @so_next (And.intro @so_extract (And.intro @so_call (And.intro @so_callV (And.intro @so_ext (And.intro @so_append (And.intro @so_len (And.intro @so_lenArr (And.intro @so_mn (And.intro @so_mx (And.intro @so_mkFunc (And.intro @so_mkSlice (And.intro @so_mkIface (And.intro @so_sliceData (And.intro @so_unsafeStr (And.intro @oT.eq_1 (And.intro @oO.eq_1 (And.intro @oZ.eq_1 (And.intro @oM.eq_1 (And.intro @oC.eq_1 (And.intro @oF.eq_1 (And.intro @oL.eq_1 (And.intro @oI.eq_1 (And.intro @oN.eq_1 (And.intro @oK.eq_1 (And.intro @oA.eq_1 (And.intro @oB.eq_1 (And.intro @oPa.eq_1 (And.intro @oPo.eq_1 (And.intro @oX.eq_1 (And.intro @oH.eq_1 (And.intro @oY.eq_1 (And.intro @oTs_nil (And.intro @oTs_cons (And.intro @oU.eq_1 (And.intro @oW.eq_1 (And.intro @oJ.eq_1 (And.intro @oS.eq_1 (And.intro @gT_eq (And.intro @gF_eq (And.intro @eF_eq (And.intro @rD_eq (And.intro @rE_eq (And.intro @rG.eq_1 (And.intro @rS.eq_1 (And.intro @cN.eq_1 (And.intro @vI.eq_1 (And.intro @vU.eq_1 (And.intro @vQ.eq_1 (And.intro @undefA_eq (And.intro @ar_add (And.intro @ar_sub (And.intro @ar_mul (And.intro @ar_quo (And.intro @ar_rem (And.intro @ar_and (And.intro @ar_or (And.intro @ar_xor (And.intro @ar_andNot (And.intro @ar_eql (And.intro @ar_neq (And.intro @ar_lss (And.intro @ar_leq (And.intro @ar_gtr (And.intro @ar_geq (And.intro @ar_shl (And.intro @ar_shr (And.intro @st_add (And.intro @st_eql (And.intro @st_neq (And.intro @st_lss (And.intro @st_leq (And.intro @st_gtr (And.intro @st_geq (And.intro @ev_0 (And.intro @ev_1 (And.intro @ev_2 (And.intro @ev_3 (And.intro @ev_4 (And.intro @ev_5 (And.intro @ev_6 (And.intro @ev_7 (And.intro @ev_8 (And.intro @ev_9 (And.intro @ev_10 (And.intro @ev_11 (And.intro @ev_c0 (And.intro @ev_c1 (And.intro @ev_c2 (And.intro @Int.natCast_nonneg (And.intro @opLen_s (And.intro @opLen_t (And.intro @lenL_eq (And.intro @eqBytes_dec (And.intro @Int.ofNat_eq_natCast (And.intro @Int.toNat_natCast (And.intro @decide_true (And.intro @decide_false (And.intro @ge_iff_le.{0} (And.intro @gt_iff_lt.{0} (And.intro @Bool.not_true (And.intro @Bool.not_false (And.intro @beq_self_eq_true.{0} (And.intro @int_beq (And.intro @int_bne (And.intro @Bool.false_beq (And.intro @Bool.true_beq (And.intro @opPick_eq (And.intro @envOf_cons (And.intro @envOf_nil (And.intro @fin_normal (And.intro @fin_ret (And.intro @resV_0 (And.intro @resV_1 (And.intro @resV_2 (@resV_3)))))))))))))))))))))))))))))))))))))))))))))))))))))))))))))))))))))))))))))))))))))))))))))))))))))))))))))))))))))))))))))))))))))))))))))))))))))))))))))))))))))))) := And.intro @Ew_seq (And.intro @Ew_region (And.intro @Ew_draw (And.intro @Ew_cond (And.intro @Ew_block (And.intro @Ew_skip (And.intro @Ew_exit (And.intro @Ew_ret (And.intro @Ew_scope (And.intro @runOps_cons (And.intro @runOps_nil (And.intro @wanted_none (And.intro @wanted_some (And.intro @setDst_some (And.intro @setDst_none (And.intro @ev_t (And.intro @ev_c (And.intro @V_U (And.intro @so_mov (And.intro @so_pick (And.intro @so_alloc (And.intro @so_box (And.intro @so_build (And.intro @so_buildSlice (And.intro @so_load (And.intro @so_store (And.intro @so_nilCheck (And.intro @so_arith (And.intro @so_strop (And.intro @so_eq (And.intro @so_not (And.intro @so_neg (And.intro @so_cpl (And.intro @so_toInt (And.intro @so_intStr (And.intro @so_bytes (And.intro @so_runes (And.intro @so_strOf (And.intro @so_strRunes (And.intro @so_stamp (And.intro @so_toUnsafe (And.intro @so_cast (And.intro @so_slStr (And.intro @so_slSl (And.intro @so_slArr (And.intro @so_fieldAddr (And.intro @so_field (And.intro @so_iaSl (And.intro @so_iaArr (And.intro @so_ixArr (And.intro @so_ixStr (And.intro @so_range (And.intro @so_next (And.intro @so_extract (And.intro @so_call (And.intro @so_callV (And.intro @so_ext (And.intro @so_append (And.intro @so_len (And.intro @so_lenArr (And.intro @so_mn (And.intro @so_mx (And.intro @so_mkFunc (And.intro @so_mkSlice (And.intro @so_mkIface (And.intro @so_sliceData (And.intro @so_unsafeStr (And.intro @oT.eq_1 (And.intro @oO.eq_1 (And.intro @oZ.eq_1 (And.intro @oM.eq_1 (And.intro @oC.eq_1 (And.intro @oF.eq_1 (And.intro @oL.eq_1 (And.intro @oI.eq_1 (And.intro @oN.eq_1 (And.intro @oK.eq_1 (And.intro @oA.eq_1 (And.intro @oB.eq_1 (And.intro @oPa.eq_1 (And.intro @oPo.eq_1 (And.intro @oX.eq_1 (And.intro @oH.eq_1 (And.intro @oY.eq_1 (And.intro @oTs_nil (And.intro @oTs_cons (And.intro @oU.eq_1 (And.intro @oW.eq_1 (And.intro @oJ.eq_1 (And.intro @oS.eq_1 (And.intro @gT_eq (And.intro @gF_eq (And.intro @eF_eq (And.intro @rD_eq (And.intro @rE_eq (And.intro @rG.eq_1 (And.intro @rS.eq_1 (And.intro @cN.eq_1 (And.intro @vI.eq_1 (And.intro @vU.eq_1 (And.intro @vQ.eq_1 (And.intro @undefA_eq (And.intro @ar_add (And.intro @ar_sub (And.intro @ar_mul (And.intro @ar_quo (And.intro @ar_rem (And.intro @ar_and (And.intro @ar_or (And.intro @ar_xor (And.intro @ar_andNot (And.intro @ar_eql (And.intro @ar_neq (And.intro @ar_lss (And.intro @ar_leq (And.intro @ar_gtr (And.intro @ar_geq (And.intro @ar_shl (And.intro @ar_shr (And.intro @st_add (And.intro @st_eql (And.intro @st_neq (And.intro @st_lss (And.intro @st_leq (And.intro @st_gtr (And.intro @st_geq (And.intro @ev_0 (And.intro @ev_1 (And.intro @ev_2 (And.intro @ev_3 (And.intro @ev_4 (And.intro @ev_5 (And.intro @ev_6 (And.intro @ev_7 (And.intro @ev_8 (And.intro @ev_9 (And.intro @ev_10 (And.intro @ev_11 (And.intro @ev_c0 (And.intro @ev_c1 (And.intro @ev_c2 (And.intro @Int.natCast_nonneg (And.intro @opLen_s (And.intro @opLen_t (And.intro @lenL_eq (And.intro @eqBytes_dec (And.intro @Int.ofNat_eq_natCast (And.intro @Int.toNat_natCast (And.intro @decide_true (And.intro @decide_false (And.intro @ge_iff_le.{0} (And.intro @gt_iff_lt.{0} (And.intro @Bool.not_true (And.intro @Bool.not_false (And.intro @beq_self_eq_true.{0} (And.intro @int_beq (And.intro @int_bne (And.intro @Bool.false_beq (And.intro @Bool.true_beq (And.intro @opPick_eq (And.intro @envOf_cons (And.intro @envOf_nil (And.intro @fin_normal (And.intro @fin_ret (And.intro @resV_0 (And.intro @resV_1 (And.intro @resV_2 (@resV_3)))))))))))))))))))))))))))))))))))))))))))))))))))))))))))))))))))))))))))))))))))))))))))))))))))))))))))))))))))))))))))))))))))))))))))))))))))))))))))))))))))))))
theorem sC : type_of% (And.intro @Ew_seq (And.intro @Ew_region (And.intro @Ew_draw (And.intro @Ew_cond (And.intro @Ew_block (And.intro @Ew_skip (And.intro @Ew_exit (And.intro @Ew_ret (And.intro @Ew_scope (And.intro @runOps_cons (And.intro @runOps_nil (And.intro @wanted_none (And.intro @wanted_some (And.intro @setDst_some (And.intro @setDst_none (And.intro @ev_t (And.intro @ev_c (And.intro @V_U (And.intro @so_mov (And.intro @so_pick (And.intro @so_alloc (And.intro @so_box (And.intro @so_build (And.intro @so_buildSlice (And.intro @so_load (And.intro @so_store (And.intro @so_nilCheck (And.intro @so_arith (And.intro @so_strop (And.intro @so_eq (And.intro @so_not (And.intro @so_neg (And.intro @so_cpl (And.intro @so_toInt (And.intro @so_intStr (And.intro @so_bytes (And.intro @so_runes (And.intro @so_strOf (And.intro @so_strRunes (And.intro @so_stamp (And.intro @so_toUnsafe (And.intro @so_cast (And.intro @so_slStr (And.intro @so_slSl (And.intro @so_slArr (And.intro @so_fieldAddr (And.intro @so_field (And.intro @so_iaSl (And.intro @so_iaArr (And.intro @so_ixArr (And.intro @so_ixStr (And.intro @so_range (And.intro @so_next (And.intro @so_extract (And.intro @so_call (And.intro @so_callV (And.intro @so_ext (And.intro @so_append (And.intro @so_len (And.intro @so_lenArr (And.intro @so_mn (And.intro @so_mx (And.intro @so_mkFunc (And.intro @so_mkSlice (And.intro @so_mkIface (And.intro @so_sliceData (And.intro @so_unsafeStr (And.intro @oT.eq_1 (And.intro @oO.eq_1 (And.intro @oZ.eq_1 (And.intro @oM.eq_1 (And.intro @oC.eq_1 (And.intro @oF.eq_1 (And.intro @oL.eq_1 (And.intro @oI.eq_1 (And.intro @oN.eq_1 (And.intro @oK.eq_1 (And.intro @oA.eq_1 (And.intro @oB.eq_1 (And.intro @oPa.eq_1 (And.intro @oPo.eq_1 (And.intro @oX.eq_1 (And.intro @oH.eq_1 (And.intro @oY.eq_1 (And.intro @oTs_nil (And.intro @oTs_cons (And.intro @oU.eq_1 (And.intro @oW.eq_1 (And.intro @oJ.eq_1 (And.intro @oS.eq_1 (And.intro @gT_eq (And.intro @gF_eq (And.intro @eF_eq (And.intro @rD_eq (And.intro @rE_eq (And.intro @rG.eq_1 (And.intro @rS.eq_1 (And.intro @cN.eq_1 (And.intro @vI.eq_1 (And.intro @vU.eq_1 (@vQ.eq_1))))))))))))))))))))))))))))))))))))))))))))))))))))))))))))))))))))))))))))))))))))))))))))))))))))) := And.intro @Ew_seq (And.intro @Ew_region (And.intro @Ew_draw (And.intro @Ew_cond (And.intro @Ew_block (And.intro @Ew_skip (And.intro @Ew_exit (And.intro @Ew_ret (And.intro @Ew_scope (And.intro @runOps_cons (And.intro @runOps_nil (And.intro @wanted_none (And.intro @wanted_some (And.intro @setDst_some (And.intro @setDst_none (And.intro @ev_t (And.intro @ev_c (And.intro @V_U (And.intro @so_mov (And.intro @so_pick (And.intro @so_alloc (And.intro @so_box (And.intro @so_build (And.intro @so_buildSlice (And.intro @so_load (And.intro @so_store (And.intro @so_nilCheck (And.intro @so_arith (And.intro @so_strop (And.intro @so_eq (And.intro @so_not (And.intro @so_neg (And.intro @so_cpl (And.intro @so_toInt (And.intro @so_intStr (And.intro @so_bytes (And.intro @so_runes (And.intro @so_strOf (And.intro @so_strRunes (And.intro @so_stamp (And.intro @so_toUnsafe (And.intro @so_cast (And.intro @so_slStr (And.intro @so_slSl (And.intro @so_slArr (And.intro @so_fieldAddr (And.intro @so_field (And.intro @so_iaSl (And.intro @so_iaArr (And.intro @so_ixArr (And.intro @so_ixStr (And.intro @so_range (And.intro @so_next (And.intro @so_extract (And.intro @so_call (And.intro @so_callV (And.intro @so_ext (And.intro @so_append (And.intro @so_len (And.intro @so_lenArr (And.intro @so_mn (And.intro @so_mx (And.intro @so_mkFunc (And.intro @so_mkSlice (And.intro @so_mkIface (And.intro @so_sliceData (And.intro @so_unsafeStr (And.intro @oT.eq_1 (And.intro @oO.eq_1 (And.intro @oZ.eq_1 (And.intro @oM.eq_1 (And.intro @oC.eq_1 (And.intro @oF.eq_1 (And.intro @oL.eq_1 (And.intro @oI.eq_1 (And.intro @oN.eq_1 (And.intro @oK.eq_1 (And.intro @oA.eq_1 (And.intro @oB.eq_1 (And.intro @oPa.eq_1 (And.intro @oPo.eq_1 (And.intro @oX.eq_1 (And.intro @oH.eq_1 (And.intro @oY.eq_1 (And.intro @oTs_nil (And.intro @oTs_cons (And.intro @oU.eq_1 (And.intro @oW.eq_1 (And.intro @oJ.eq_1 (And.intro @oS.eq_1 (And.intro @gT_eq (And.intro @gF_eq (And.intro @eF_eq (And.intro @rD_eq (And.intro @rE_eq (And.intro @rG.eq_1 (And.intro @rS.eq_1 (And.intro @cN.eq_1 (And.intro @vI.eq_1 (And.intro @vU.eq_1 (@vQ.eq_1))))))))))))))))))))))))))))))))))))))))))))))))))))))))))))))))))))))))))))))))))))))))))))))))))))
theorem sD : type_of% (And.intro @draw_nil (And.intro @draw_pure (And.intro @draw_read (And.intro @draw_eff (And.intro @stays_0 (And.intro @flts_nil (And.intro @Nat.lt_irrefl (@Nat.sub_self)))))))) := And.intro @draw_nil (And.intro @draw_pure (And.intro @draw_read (And.intro @draw_eff (And.intro @stays_0 (And.intro @flts_nil (And.intro @Nat.lt_irrefl (@Nat.sub_self)))))))
theorem sO : type_of% (And.intro @undefA_eq (And.intro @ar_add (And.intro @ar_sub (And.intro @ar_mul (And.intro @ar_quo (And.intro @ar_rem (And.intro @ar_and (And.intro @ar_or (And.intro @ar_xor (And.intro @ar_andNot (And.intro @ar_eql (And.intro @ar_neq (And.intro @ar_lss (And.intro @ar_leq (And.intro @ar_gtr (And.intro @ar_geq (And.intro @ar_shl (And.intro @ar_shr (And.intro @st_add (And.intro @st_eql (And.intro @st_neq (And.intro @st_lss (And.intro @st_leq (And.intro @st_gtr (And.intro @st_geq (And.intro @ev_0 (And.intro @ev_1 (And.intro @ev_2 (And.intro @ev_3 (And.intro @ev_4 (And.intro @ev_5 (And.intro @ev_6 (And.intro @ev_7 (And.intro @ev_8 (And.intro @ev_9 (And.intro @ev_10 (And.intro @ev_11 (And.intro @ev_c0 (And.intro @ev_c1 (And.intro @ev_c2 (And.intro @Int.natCast_nonneg (And.intro @opLen_s (And.intro @opLen_t (And.intro @lenL_eq (And.intro @eqBytes_dec (And.intro @Int.ofNat_eq_natCast (And.intro @Int.toNat_natCast (And.intro @decide_true (And.intro @decide_false (And.intro @ge_iff_le.{0} (And.intro @gt_iff_lt.{0} (And.intro @Bool.not_true (And.intro @Bool.not_false (And.intro @beq_self_eq_true.{0} (And.intro @int_beq (And.intro @int_bne (And.intro @Bool.false_beq (And.intro @Bool.true_beq (@opPick_eq))))))))))))))))))))))))))))))))))))))))))))))))))))))))))) := And.intro @undefA_eq (And.intro @ar_add (And.intro @ar_sub (And.intro @ar_mul (And.intro @ar_quo (And.intro @ar_rem (And.intro @ar_and (And.intro @ar_or (And.intro @ar_xor (And.intro @ar_andNot (And.intro @ar_eql (And.intro @ar_neq (And.intro @ar_lss (And.intro @ar_leq (And.intro @ar_gtr (And.intro @ar_geq (And.intro @ar_shl (And.intro @ar_shr (And.intro @st_add (And.intro @st_eql (And.intro @st_neq (And.intro @st_lss (And.intro @st_leq (And.intro @st_gtr (And.intro @st_geq (And.intro @ev_0 (And.intro @ev_1 (And.intro @ev_2 (And.intro @ev_3 (And.intro @ev_4 (And.intro @ev_5 (And.intro @ev_6 (And.intro @ev_7 (And.intro @ev_8 (And.intro @ev_9 (And.intro @ev_10 (And.intro @ev_11 (And.intro @ev_c0 (And.intro @ev_c1 (And.intro @ev_c2 (And.intro @Int.natCast_nonneg (And.intro @opLen_s (And.intro @opLen_t (And.intro @lenL_eq (And.intro @eqBytes_dec (And.intro @Int.ofNat_eq_natCast (And.intro @Int.toNat_natCast (And.intro @decide_true (And.intro @decide_false (And.intro @ge_iff_le.{0} (And.intro @gt_iff_lt.{0} (And.intro @Bool.not_true (And.intro @Bool.not_false (And.intro @beq_self_eq_true.{0} (And.intro @int_beq (And.intro @int_bne (And.intro @Bool.false_beq (And.intro @Bool.true_beq (@opPick_eq))))))))))))))))))))))))))))))))))))))))))))))))))))))))))
theorem sF : type_of% (And.intro @envOf_cons (And.intro @envOf_nil (And.intro @fin_normal (And.intro @fin_ret (And.intro @resV_0 (And.intro @resV_1 (And.intro @resV_2 (@resV_3)))))))) := And.intro @envOf_cons (And.intro @envOf_nil (And.intro @fin_normal (And.intro @fin_ret (And.intro @resV_0 (And.intro @resV_1 (And.intro @resV_2 (@resV_3)))))))
theorem sM : type_of% (And.intro @opAlloc_eq (And.intro @allOne_nil (And.intro @allOne_cons (And.intro @St.newK_eq (And.intro @opStore_s (And.intro @stS_ptr (And.intro @opLoad_s (And.intro @opFieldAddr_s (And.intro @opIaSl_s (And.intro @fldA_ptr (And.intro @ldA_ptr (And.intro @St.get_new_same (And.intro @St.get_put_same (And.intro @loadL_none (And.intro @loadL_2 (And.intro @loadL_3 (And.intro @loadL_6 (And.intro @putX_all6 (And.intro @putX_all3 (And.intro @putX_all2 (And.intro @putX_all1 (And.intro @cells_agg (And.intro @cells_int (And.intro @cells_bool (And.intro @cells_str (And.intro @cells_func (And.intro @cells_slice (And.intro @one_int (And.intro @one_bool (And.intro @one_str (And.intro @one_func (And.intro @one_slice (And.intro @List.length_cons.{0} (And.intro @List.length_nil.{0} (And.intro @Nat.zero_add (And.intro @dropX_zero (And.intro @dropX_1 (And.intro @dropX_2 (And.intro @dropX_3 (And.intro @dropX_4 (And.intro @dropX_5 (And.intro @Bool.and_true (And.intro @and_true (And.intro @true_and (And.intro @Bool.false_eq_true (And.intro @St.new_next (@St.put_next))))))))))))))))))))))))))))))))))))))))))))))) := And.intro @opAlloc_eq (And.intro @allOne_nil (And.intro @allOne_cons (And.intro @St.newK_eq (And.intro @opStore_s (And.intro @stS_ptr (And.intro @opLoad_s (And.intro @opFieldAddr_s (And.intro @opIaSl_s (And.intro @fldA_ptr (And.intro @ldA_ptr (And.intro @St.get_new_same (And.intro @St.get_put_same (And.intro @loadL_none (And.intro @loadL_2 (And.intro @loadL_3 (And.intro @loadL_6 (And.intro @putX_all6 (And.intro @putX_all3 (And.intro @putX_all2 (And.intro @putX_all1 (And.intro @cells_agg (And.intro @cells_int (And.intro @cells_bool (And.intro @cells_str (And.intro @cells_func (And.intro @cells_slice (And.intro @one_int (And.intro @one_bool (And.intro @one_str (And.intro @one_func (And.intro @one_slice (And.intro @List.length_cons.{0} (And.intro @List.length_nil.{0} (And.intro @Nat.zero_add (And.intro @dropX_zero (And.intro @dropX_1 (And.intro @dropX_2 (And.intro @dropX_3 (And.intro @dropX_4 (And.intro @dropX_5 (And.intro @Bool.and_true (And.intro @and_true (And.intro @true_and (And.intro @Bool.false_eq_true (And.intro @St.new_next (@St.put_next))))))))))))))))))))))))))))))))))))))))))))))
theorem sV : type_of% (And.intro @V_U (And.intro @envOf_cons (@envOf_nil))) := And.intro @V_U (And.intro @envOf_cons (@envOf_nil))
end Go.Ab
end
