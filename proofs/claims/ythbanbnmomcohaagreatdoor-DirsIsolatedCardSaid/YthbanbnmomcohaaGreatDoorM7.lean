/- The abstract machine, part 24: what writes nothing; what looks at no state; at which temporaries an operation looks. -/
import Derived.Test.YthbanbnmomcohaaGreatDoorM6
import Derived.Orders
set_option linter.all false
set_option linter.unusedSimpArgs false
namespace Go.Ab
open Go Go.RowKit

def Quiet (cf : CF) : Prop := ∀ f args σ v σ', cf true f args σ = some (v, σ') → σ' = σ

noncomputable def Opd.tmps : Opd → List (List Bool)
  | .t p => [p]
  | _ => []
noncomputable def tmpsO : Option Opd → List (List Bool)
  | some x => x.tmps
  | none => []
noncomputable def tmpsL : List Opd → List (List Bool)
  | [] => []
  | x :: l => x.tmps ++ tmpsL l
noncomputable def tmpsP : List (Nat × Nat × Opd) → List (List Bool)
  | [] => []
  | p :: l => p.2.2.tmps ++ tmpsP l

noncomputable def AOp.tmps : AOp → List (List Bool)
  | .mov x => x.tmps
  | .pick c a b => c.tmps ++ (a.tmps ++ b.tmps)
  | .alloc _ _ => []
  | .box _ x => x.tmps
  | .build _ ps => tmpsP ps
  | .buildSlice _ _ _ _ ps => tmpsP ps
  | .load _ x => x.tmps
  | .store _ x v => x.tmps ++ v.tmps
  | .nilCheck x => x.tmps
  | .arith _ x y => x.tmps ++ y.tmps
  | .strop _ x y => x.tmps ++ y.tmps
  | .eq _ _ x y => x.tmps ++ y.tmps
  | .not x => x.tmps
  | .neg x => x.tmps
  | .cpl x => x.tmps
  | .toInt _ x => x.tmps
  | .intStr x => x.tmps
  | .bytes _ x => x.tmps
  | .runes _ x => x.tmps
  | .strOf x => x.tmps
  | .strRunes x => x.tmps
  | .stamp x => x.tmps
  | .toUnsafe x => x.tmps
  | .cast _ x => x.tmps
  | .slStr x lo hi => x.tmps ++ (tmpsO lo ++ tmpsO hi)
  | .slSl _ x lo hi m => x.tmps ++ (tmpsO lo ++ (tmpsO hi ++ tmpsO m))
  | .slArr _ _ x lo hi m => x.tmps ++ (tmpsO lo ++ (tmpsO hi ++ tmpsO m))
  | .fieldAddr _ x => x.tmps
  | .field _ _ x => x.tmps
  | .iaSl _ x i => x.tmps ++ i.tmps
  | .iaArr _ _ x i => x.tmps ++ i.tmps
  | .ixArr _ _ _ x i => x.tmps ++ i.tmps
  | .ixStr x i => x.tmps ++ i.tmps
  | .range x => x.tmps
  | .next x => x.tmps
  | .extract x _ => x.tmps
  | .call _ as => tmpsL as
  | .callV f as => f.tmps ++ tmpsL as
  | .ext _ as => tmpsL as
  | .append _ _ _ x y => x.tmps ++ y.tmps
  | .len _ x => x.tmps
  | .lenArr _ => []
  | .mn x y => x.tmps ++ y.tmps
  | .mx x y => x.tmps ++ y.tmps
  | .mkFunc _ a b => tmpsL a ++ tmpsL b
  | .mkSlice _ _ _ _ l c => l.tmps ++ c.tmps
  | .mkIface _ x => x.tmps
  | .sliceData x => x.tmps
  | .unsafeStr _ x n => x.tmps ++ n.tmps

/-- What looks at no state. -/
noncomputable def pureOp : AOp → Bool
  | .mov _ | .pick .. | .build .. | .nilCheck _ | .arith .. | .strop .. | .eq .. | .not _ | .neg _ | .cpl _ | .toInt .. | .intStr _
  | .slStr .. | .slSl .. | .fieldAddr .. | .field .. | .iaSl .. | .iaArr .. | .ixArr .. | .ixStr .. | .extract .. | .ext .. | .len .. | .lenArr _
  | .mn .. | .mx .. | .mkFunc .. | .mkIface .. | .sliceData _ => true
  | _ => false

section
variable {T : Tab} {cf : CF} {env env' : Env} {σ σ' : St} {q q' : Bool}

theorem ev_congr {x : Opd} (h : ∀ p ∈ x.tmps, env.get p = env'.get p) : x.ev T env = x.ev T env' := by
  cases x with
  | t p => simp only [Opd.ev, h p (by simp [Opd.tmps])]
  | _ => rfl

theorem evO_congr {x : Option Opd} (h : ∀ p ∈ tmpsO x, env.get p = env'.get p) : x.map (·.ev T env) = x.map (·.ev T env') := by
  cases x with
  | none => rfl
  | some x => simp only [Option.map_some, ev_congr (T := T) (x := x) h]

theorem args_congr : ∀ {l : List Opd}, (∀ p ∈ tmpsL l, env.get p = env'.get p) → argsOf (Opd.ev T env) l = argsOf (Opd.ev T env') l
  | [], _ => rfl
  | x :: l, h => by
    simp only [argsOf]
    rw [ev_congr (x := x) fun p hp => h p (by simp [tmpsL, hp]), args_congr fun p hp => h p (by simp [tmpsL, hp])]

theorem parts_congr : ∀ {l : List (Nat × Nat × Opd)}, (∀ p ∈ tmpsP l, env.get p = env'.get p) → (l.map fun p => (p.1, p.2.1, p.2.2.ev T env)) = l.map fun p => (p.1, p.2.1, p.2.2.ev T env')
  | [], _ => rfl
  | x :: l, h => by
    simp only [List.map_cons]
    rw [ev_congr (x := x.2.2) fun p hp => h p (by simp [tmpsP, hp]), parts_congr fun p hp => h p (by simp [tmpsP, hp])]

theorem step_congr {op : AOp} (h : ∀ p ∈ op.tmps, env.get p = env'.get p) : stepOp T cf q op env σ = stepOp T cf q op env' σ := by
  cases op <;> simp only [AOp.tmps, List.mem_append] at h
  case mov x => simp only [stepOp, opMov, ev_congr (x := x) h]
  case pick c a b => simp only [stepOp, opPick, ev_congr (x := c) fun p hp => h p (.inl hp), ev_congr (x := a) fun p hp => h p (.inr (.inl hp)), ev_congr (x := b) fun p hp => h p (.inr (.inr hp))]
  case alloc => rfl
  case box e x => simp only [stepOp, opBox, ev_congr (x := x) h]
  case build z ps => simp only [stepOp, opBuild, parts_congr (T := T) (l := ps) h]
  case buildSlice e s l z ps => simp only [stepOp, opBuildSlice, parts_congr (T := T) (l := ps) h]
  case load a x => simp only [stepOp, opLoad, ev_congr (x := x) h]
  case store n x v => simp only [stepOp, opStore, ev_congr (x := x) fun p hp => h p (.inl hp), ev_congr (x := v) fun p hp => h p (.inr hp)]
  case nilCheck x => simp only [stepOp, opNilCheck, ev_congr (x := x) h]
  case arith o x y => simp only [stepOp, opArith, ev_congr (x := x) fun p hp => h p (.inl hp), ev_congr (x := y) fun p hp => h p (.inr hp)]
  case strop o x y => simp only [stepOp, opStrop, ev_congr (x := x) fun p hp => h p (.inl hp), ev_congr (x := y) fun p hp => h p (.inr hp)]
  case eq n k x y => simp only [stepOp, opEq, ev_congr (x := x) fun p hp => h p (.inl hp), ev_congr (x := y) fun p hp => h p (.inr hp)]
  case not x => simp only [stepOp, opNot, ev_congr (x := x) h]
  case neg x => simp only [stepOp, opNeg, ev_congr (x := x) h]
  case cpl x => simp only [stepOp, opCpl, ev_congr (x := x) h]
  case toInt k x => simp only [stepOp, opToInt, ev_congr (x := x) h]
  case intStr x => simp only [stepOp, opIntStr, ev_congr (x := x) h]
  case bytes e x => simp only [stepOp, opBytes, ev_congr (x := x) h]
  case runes e x => simp only [stepOp, opRunes, ev_congr (x := x) h]
  case strOf x => simp only [stepOp, opStrOf, ev_congr (x := x) h]
  case strRunes x => simp only [stepOp, opStrRunes, ev_congr (x := x) h]
  case stamp x => simp only [stepOp, opStamp, ev_congr (x := x) h]
  case toUnsafe x => simp only [stepOp, opToUnsafe, ev_congr (x := x) h]
  case cast u x => simp only [stepOp, opCast, ev_congr (x := x) h]
  case slStr x lo hi => simp only [stepOp, opSlStr, ev_congr (x := x) fun p hp => h p (.inl hp), evO_congr (T := T) (x := lo) fun p hp => h p (.inr (.inl hp)), evO_congr (T := T) (x := hi) fun p hp => h p (.inr (.inr hp))]
  case slSl s x lo hi mx => simp only [stepOp, opSlSl, ev_congr (x := x) fun p hp => h p (.inl hp), evO_congr (T := T) (x := lo) fun p hp => h p (.inr (.inl hp)), evO_congr (T := T) (x := hi) fun p hp => h p (.inr (.inr (.inl hp))), evO_congr (T := T) (x := mx) fun p hp => h p (.inr (.inr (.inr hp)))]
  case slArr n s x lo hi mx => simp only [stepOp, opSlArr, ev_congr (x := x) fun p hp => h p (.inl hp), evO_congr (T := T) (x := lo) fun p hp => h p (.inr (.inl hp)), evO_congr (T := T) (x := hi) fun p hp => h p (.inr (.inr (.inl hp))), evO_congr (T := T) (x := mx) fun p hp => h p (.inr (.inr (.inr hp)))]
  case fieldAddr o x => simp only [stepOp, opFieldAddr, ev_congr (x := x) h]
  case field o a x => simp only [stepOp, opField, ev_congr (x := x) h]
  case iaSl s x i => simp only [stepOp, opIaSl, ev_congr (x := x) fun p hp => h p (.inl hp), ev_congr (x := i) fun p hp => h p (.inr hp)]
  case iaArr l s x i => simp only [stepOp, opIaArr, ev_congr (x := x) fun p hp => h p (.inl hp), ev_congr (x := i) fun p hp => h p (.inr hp)]
  case ixArr l s a x i => simp only [stepOp, opIxArr, ev_congr (x := x) fun p hp => h p (.inl hp), ev_congr (x := i) fun p hp => h p (.inr hp)]
  case ixStr x i => simp only [stepOp, opIxStr, ev_congr (x := x) fun p hp => h p (.inl hp), ev_congr (x := i) fun p hp => h p (.inr hp)]
  case range x => simp only [stepOp, opRange, ev_congr (x := x) h]
  case next x => simp only [stepOp, opNext, ev_congr (x := x) h]
  case extract x i => simp only [stepOp, opExtract, ev_congr (x := x) h]
  case call f as => simp only [stepOp, opCall, args_congr (T := T) (l := as) h]
  case callV f as => simp only [stepOp, opCallV, ev_congr (x := f) fun p hp => h p (.inl hp), args_congr (T := T) (l := as) fun p hp => h p (.inr hp)]
  case ext e as => simp only [stepOp, opExt, args_congr (T := T) (l := as) h]
  case append e s b x y => simp only [stepOp, opAppend, ev_congr (x := x) fun p hp => h p (.inl hp), ev_congr (x := y) fun p hp => h p (.inr hp)]
  case len s x => simp only [stepOp, opLen, ev_congr (x := x) h]
  case lenArr n => rfl
  case mn x y => simp only [stepOp, opMn, ev_congr (x := x) fun p hp => h p (.inl hp), ev_congr (x := y) fun p hp => h p (.inr hp)]
  case mx x y => simp only [stepOp, opMx, ev_congr (x := x) fun p hp => h p (.inl hp), ev_congr (x := y) fun p hp => h p (.inr hp)]
  case mkFunc f a b => simp only [stepOp, opMkFunc, args_congr (T := T) (l := a) fun p hp => h p (.inl hp), args_congr (T := T) (l := b) fun p hp => h p (.inr hp)]
  case mkSlice e s b z l c => simp only [stepOp, opMkSlice, ev_congr (x := l) fun p hp => h p (.inl hp), ev_congr (x := c) fun p hp => h p (.inr hp)]
  case mkIface t x => simp only [stepOp, opMkIface, ev_congr (x := x) h]
  case sliceData x => simp only [stepOp, opSliceData, ev_congr (x := x) h]
  case unsafeStr e x n => simp only [stepOp, opUnsafeStr, ev_congr (x := x) fun p hp => h p (.inl hp), ev_congr (x := n) fun p hp => h p (.inr hp)]

theorem pure_step {op : AOp} (hp : pureOp op = true) {v : AVal} {σ1 : St} (h : stepOp T cf q op env σ = some (v, σ1)) : stepOp T cf q' op env σ' = some (v, σ') := by
  cases op <;> simp only [pureOp] at hp <;> first | (exact absurd hp (by decide)) | skip
  case mov => simp only [stepOp, opMov] at h ⊢; simp_all
  case pick => simp only [stepOp, opPick] at h ⊢; (repeat' split at h) <;> simp_all
  case build => simp only [stepOp, opBuild] at h ⊢; (repeat' split at h) <;> simp_all
  case nilCheck => simp only [stepOp, opNilCheck] at h ⊢; (repeat' split at h) <;> simp_all
  case arith => simp only [stepOp, opArith] at h ⊢; (repeat' split at h) <;> simp_all
  case strop => simp only [stepOp, opStrop] at h ⊢; (repeat' split at h) <;> simp_all
  case eq => simp only [stepOp, opEq] at h ⊢; (repeat' split at h) <;> simp_all
  case not => simp only [stepOp, opNot] at h ⊢; (repeat' split at h) <;> simp_all
  case neg => simp only [stepOp, opNeg] at h ⊢; (repeat' split at h) <;> simp_all
  case cpl => simp only [stepOp, opCpl] at h ⊢; (repeat' split at h) <;> simp_all
  case toInt => simp only [stepOp, opToInt] at h ⊢; (repeat' split at h) <;> simp_all
  case intStr => simp only [stepOp, opIntStr] at h ⊢; (repeat' split at h) <;> simp_all
  case slStr => simp only [stepOp, opSlStr] at h ⊢; (repeat' split at h) <;> simp_all
  case slSl => simp only [stepOp, opSlSl] at h ⊢; (repeat' split at h) <;> simp_all
  case fieldAddr => simp only [stepOp, opFieldAddr] at h ⊢; (repeat' split at h) <;> simp_all
  case field => simp only [stepOp, opField] at h ⊢; (repeat' split at h) <;> simp_all
  case iaSl => simp only [stepOp, opIaSl] at h ⊢; (repeat' split at h) <;> simp_all
  case iaArr => simp only [stepOp, opIaArr] at h ⊢; (repeat' split at h) <;> simp_all
  case ixArr => simp only [stepOp, opIxArr] at h ⊢; (repeat' split at h) <;> simp_all
  case ixStr => simp only [stepOp, opIxStr] at h ⊢; (repeat' split at h) <;> simp_all
  case extract => simp only [stepOp, opExtract] at h ⊢; (repeat' split at h) <;> simp_all
  case ext => simp only [stepOp, opExt] at h ⊢; (repeat' split at h) <;> simp_all
  case len s x => cases s <;> simp only [stepOp, opLen] at h ⊢ <;> (repeat' split at h) <;> simp_all
  case lenArr => simp only [stepOp, opLenArr] at h ⊢; simp_all
  case mn => simp only [stepOp, opMn] at h ⊢; split at h <;> simp_all
  case mx => simp only [stepOp, opMx] at h ⊢; split at h <;> simp_all
  case mkFunc => simp only [stepOp, opMkFunc] at h ⊢; simp_all
  case mkIface => simp only [stepOp, opMkIface] at h ⊢; simp_all
  case sliceData => simp only [stepOp, opSliceData] at h ⊢; (repeat' split at h) <;> simp_all

theorem quiet_step (hcf : Quiet cf) {op : AOp} {v : AVal} {σ1 : St} (h : stepOp T cf true op env σ = some (v, σ1)) : σ1 = σ := by
  by_cases hp : pureOp op = true
  · have := pure_step (q' := true) (σ' := σ) hp h
    rw [h] at this
    simpa using this
  · cases op <;> simp only [pureOp, not_true_eq_false] at hp
    case alloc => simp [stepOp, opAlloc] at h
    case box => simp [stepOp, opBox] at h
    case buildSlice => simp [stepOp, opBuildSlice] at h
    case load => simp only [stepOp, opLoad] at h; (repeat' split at h) <;> simp_all
    case store => simp [stepOp, opStore] at h
    case bytes => simp [stepOp, opBytes] at h
    case runes => simp [stepOp, opRunes] at h
    case strOf => simp only [stepOp, opStrOf] at h; (repeat' split at h) <;> simp_all
    case strRunes => simp only [stepOp, opStrRunes] at h; (repeat' split at h) <;> simp_all
    case stamp => simp [stepOp, opStamp] at h
    case toUnsafe => simp only [stepOp, opToUnsafe] at h; (repeat' split at h) <;> simp_all
    case cast => simp only [stepOp, opCast] at h; (repeat' split at h) <;> simp_all
    case slArr => simp only [stepOp, opSlArr] at h; (repeat' split at h) <;> simp_all
    case range => simp [stepOp, opRange] at h
    case next => simp [stepOp, opNext] at h
    case call => exact hcf _ _ _ _ _ h
    case callV => simp only [stepOp, opCallV] at h; split at h <;> first | exact hcf _ _ _ _ _ h | simp at h
    case append => simp [stepOp, opAppend] at h
    case mkSlice => simp [stepOp, opMkSlice] at h
    case unsafeStr => simp [stepOp, opUnsafeStr] at h
end
end Go.Ab

namespace Go.Ab
open Go Go.RowKit

noncomputable def maskL : List (List Bool) → Nat
  | [] => 0
  | p :: l => (1 <<< unpath p) ||| maskL l

noncomputable def AOper.looks (a : AOper) : List (List Bool) :=
  match a.guard with
  | none => a.op.tmps
  | some (p, _) => p :: a.op.tmps

noncomputable def dstMask (a : AOper) : Nat := match a.dst with | some p => 1 <<< unpath p | none => 0

structure DI where
  dk : DK
  k : Nat
  rd : Nat
  wr : Nat
  cl : Nat

noncomputable def clOf (cls : List Nat) : List Edge → Nat
  | [] => 0
  | e :: es => if Region.binds .any e then (1 <<< e.on) ||| (cls.getD e.on 0 ||| clOf cls es) else clOf cls es

noncomputable def stepK (a : AOper) (k : Nat) : Nat := match a.dk with | .eff => k + 1 | _ => k

noncomputable def forceN {β : Type} (n : Nat) (k : Nat → β) : β := match n with | 0 => k 0 | m + 1 => k (m + 1)
theorem forceN_eq {β : Type} (n : Nat) (k : Nat → β) : forceN n k = k n := by cases n <;> rfl

noncomputable def infos : List Oper → List AOper → Nat → List Nat → List DI
  | o :: os, a :: as, k, cls => forceN (clOf cls o.after.toList) fun c => ⟨a.dk, k, maskL a.looks, dstMask a, c⟩ :: infos os as (stepK a k) (cls ++ [c])
  | _, _, _, _ => []

noncomputable def mustFirst (x y : DI) : Bool :=
  (((x.wr &&& (y.rd ||| y.wr)) ||| (x.rd &&& y.wr)) != 0) ||
  (match x.dk, y.dk with
  | .eff, .eff => true
  | .eff, .read lo _ => decide (x.k < lo)
  | .read _ hi, .eff => decide (hi ≤ y.k)
  | _, _ => false)

noncomputable def okAgainst (x : DI) (i : Nat) : List DI → Bool
  | [] => true
  | y :: l => (!mustFirst x y || y.cl.testBit i) && okAgainst x i l

noncomputable def okPairs : Nat → List DI → Bool
  | _, [] => true
  | i, x :: l => okAgainst x i l && okPairs (i + 1) l

noncomputable def okBack : Nat → List Oper → Bool
  | _, [] => true
  | i, o :: l => o.after.toList.all (fun e => !Region.binds .any e || decide (e.on < i)) && okBack (i + 1) l

noncomputable def okKind (a : AOper) (k : Nat) : Bool :=
  match a.dk with
  | .pure => pureOp a.op
  | .read lo hi => decide (lo ≤ k) && decide (k ≤ hi)
  | .eff => true

noncomputable def okKinds : List AOper → Nat → Bool
  | [], _ => true
  | a :: as, k => okKind a k && okKinds as (stepK a k)

noncomputable def okDraw (os : List Oper) (as : List AOper) : Bool :=
  okBack 0 os && (okKinds as 0 && okPairs 0 (infos os as 0 []))

/-- How many effects come before the i-th. -/
noncomputable def kAt : List AOper → Nat → Nat
  | _, 0 => 0
  | [], _ + 1 => 0
  | a :: as, i + 1 => stepK a 0 + kAt as i

theorem stepK_add (a : AOper) (k j : Nat) : stepK a (k + j) = k + stepK a j := by
  unfold stepK; cases a.dk <;> simp <;> omega
theorem stepK_eq (a : AOper) (k : Nat) : stepK a k = k + stepK a 0 := stepK_add a k 0

theorem kAt_succ : ∀ (as : List AOper) (i : Nat) (a : AOper), as[i]? = some a → kAt as (i + 1) = stepK a (kAt as i)
  | [], i, a, h => by simp at h
  | b :: as, 0, a, h => by simp at h; subst h; simp [kAt]
  | b :: as, i + 1, a, h => by
    have := kAt_succ as i a (by simpa using h)
    show stepK b 0 + kAt as (i + 1) = stepK a (stepK b 0 + kAt as i)
    rw [this, stepK_add]

theorem kAt_eff {as : List AOper} {i : Nat} {a : AOper} (h : as[i]? = some a) (he : a.dk = .eff) : kAt as (i + 1) = kAt as i + 1 := by
  rw [kAt_succ as i a h]; simp [stepK, he]

theorem kAt_le_succ (as : List AOper) (i : Nat) : kAt as i ≤ kAt as (i + 1) := by
  cases h : as[i]? with
  | none =>
    have : ∀ (as : List AOper) (i : Nat), as[i]? = none → kAt as i ≤ kAt as (i + 1) := by
      intro as
      induction as with
      | nil => intro i _; cases i <;> simp [kAt]
      | cons b as ih =>
        intro i h
        cases i with
        | zero => simp at h
        | succ i => have := ih i (by simpa using h); simp only [kAt]; omega
    exact this as i h
  | some a =>
    rw [kAt_succ as i a h]
    unfold stepK; cases a.dk <;> simp

theorem kAt_mono (as : List AOper) {i j : Nat} (h : i ≤ j) : kAt as i ≤ kAt as j := by
  induction h with
  | refl => exact Nat.le_refl _
  | step _ ih => exact Nat.le_trans ih (kAt_le_succ as _)

theorem kAt_lt {as : List AOper} {i j : Nat} {a : AOper} (h : as[i]? = some a) (he : a.dk = .eff) (hij : i < j) : kAt as i < kAt as j := by
  have := kAt_eff h he
  have := kAt_mono as (i := i + 1) (j := j) hij
  omega

/-- The k-th effect. -/
theorem kAt_find (as : List AOper) (k : Nat) : ∀ n, k < kAt as n → ∃ i a, i < n ∧ as[i]? = some a ∧ a.dk = .eff ∧ kAt as i = k
  | 0, h => by simp [kAt] at h
  | n + 1, h => by
    by_cases hk : k < kAt as n
    · obtain ⟨i, a, h1, h2⟩ := kAt_find as k n hk
      exact ⟨i, a, by omega, h2⟩
    · cases ha : as[n]? with
      | none =>
        exfalso
        have hle : as.length ≤ n := by simpa using ha
        have : ∀ (as : List AOper) (i : Nat), as.length ≤ i → kAt as (i + 1) = kAt as i := by
          intro as
          induction as with
          | nil => intro i _; cases i <;> simp [kAt]
          | cons b as ih =>
            intro i h
            cases i with
            | zero => simp at h
            | succ i => have := ih i (by simpa using h); simp only [kAt]; omega
        have := this as n hle
        omega
      | some a =>
        have hs := kAt_succ as n a ha
        cases hd : a.dk with
        | eff => 
          have := kAt_eff ha hd
          exact ⟨n, a, by omega, ha, hd, by omega⟩
        | pure => simp [stepK, hd] at hs; omega
        | read lo hi => simp [stepK, hd] at hs; omega

/-! ## Which must come first -/
def DC (ops : List Oper) (D : Nat → Bool) : Prop := ∀ (i : Nat) (o : Oper) (e : Edge), D i = true → ops[i]? = some o → e ∈ o.after → Region.binds .any e = true → D e.on = true
def Rdy (ops : List Oper) (D : Nat → Bool) (i : Nat) : Prop := ∃ o, ops[i]? = some o ∧ ∀ e ∈ o.after, Region.binds .any e = true → D e.on = true
def Sound (ops : List Oper) (i c : Nat) : Prop := ∀ j, c.testBit j = true → ∀ D, DC ops D → Rdy ops D i → D j = true

theorem clOf_sound {ops : List Oper} {D : Nat → Bool} (hD : DC ops D) {cls : List Nat} (hc : ∀ i, i < cls.length → ∃ o, ops[i]? = some o) (hs : ∀ (i c : Nat), cls[i]? = some c → Sound ops i c) {j : Nat} :
    ∀ es : List Edge, (∀ e ∈ es, Region.binds .any e = true → D e.on = true) → (clOf cls es).testBit j = true → D j = true
  | [], _, h => by simp [clOf] at h
  | e :: es, he, h => by
    have hrest := clOf_sound hD hc hs (j := j) es (fun e' h' => he e' (List.mem_cons_of_mem _ h'))
    simp only [clOf] at h
    split at h
    · rename_i hb
      simp only [Nat.testBit_or, Bool.or_eq_true] at h
      have hon := he e (List.mem_cons_self ..) hb
      rcases h with h | h | h
      · rw [Nat.one_shiftLeft] at h
        have := (Nat.testBit_two_pow (n := e.on) (m := j)).symm.trans h
        simp at this; subst this; exact hon
      · cases hg : cls[e.on]? with
        | none => rw [List.getD_eq_getElem?_getD, hg] at h; simp at h
        | some c =>
          rw [List.getD_eq_getElem?_getD, hg] at h
          simp only [Option.getD_some] at h
          obtain ⟨o, ho⟩ := hc e.on (by have := List.getElem?_eq_some_iff.1 hg; exact this.1)
          exact hs e.on c hg j h D hD ⟨o, ho, fun e' h' hb' => hD e.on o e' hon ho h' hb'⟩
      · exact hrest h
    · exact hrest h

theorem infos_spec (ops : List Oper) (all : List AOper) : ∀ (os : List Oper) (as : List AOper) (k : Nat) (cls : List Nat), ops.drop cls.length = os → all.drop cls.length = as → kAt all cls.length = k → os.length = as.length →
    (∀ (i c : Nat), cls[i]? = some c → Sound ops i c) → cls.length ≤ ops.length →
    ∀ (i : Nat) (a : AOper), as[i]? = some a → ∃ d, (infos os as k cls)[i]? = some d ∧ d.dk = a.dk ∧ d.k = kAt all (cls.length + i) ∧ d.rd = maskL a.looks ∧ d.wr = dstMask a ∧ Sound ops (cls.length + i) d.cl
  | [], [], _, _, _, _, _, _, _, _, i, a, h => by simp at h
  | [], _ :: _, _, _, _, _, _, hl, _, _, _, _, _ => by simp at hl
  | _ :: _, [], _, _, _, _, _, hl, _, _, _, _, _ => by simp at hl
  | o :: os, b :: as, k, cls, ho, ha, hk, hl, hs, hle, i, a, h => by
    simp only [infos, forceN_eq]
    have hoi : ops[cls.length]? = some o := by have := congrArg (·[0]?) ho; simpa using this
    have hai : all[cls.length]? = some b := by have := congrArg (·[0]?) ha; simpa using this
    have hlt : cls.length < ops.length := by have := List.getElem?_eq_some_iff.1 hoi; exact this.1
    have hc : Sound ops cls.length (clOf cls o.after.toList) := by
      intro j hj D hD hr
      obtain ⟨o', ho', hr⟩ := hr
      rw [hoi] at ho'; cases ho'
      exact clOf_sound hD (fun i hi => ⟨ops[i]'(by omega), by simp⟩) hs o.after.toList (fun e he hb => hr e (by simpa using he) hb) hj
    cases i with
    | zero =>
      simp at h; subst h
      exact ⟨_, rfl, rfl, by simpa using hk.symm, rfl, rfl, by simpa using hc⟩
    | succ i =>
      have hlen : (cls ++ [clOf cls o.after.toList]).length = cls.length + 1 := by simp
      have := infos_spec ops all os as (stepK b k) (cls ++ [clOf cls o.after.toList]) (by rw [hlen, ← List.drop_drop, ho]; rfl) (by rw [hlen, ← List.drop_drop, ha]; rfl)
        (by rw [hlen, kAt_succ all _ b hai, hk]) (by simpa using hl)
        (by
          intro i' c hi'
          by_cases hlt' : i' < cls.length
          · rw [List.getElem?_append_left hlt'] at hi'; exact hs i' c hi'
          · have : i' = cls.length := by
              have := List.getElem?_eq_some_iff.1 hi'
              have := this.1
              simp at this; omega
            subst this
            simp at hi'; subst hi'; exact hc)
        (by rw [hlen]; omega) i a (by simpa using h)
      obtain ⟨d, h1, h2, h3, h4, h5, h6⟩ := this
      refine ⟨d, by simpa using h1, h2, ?_, h4, h5, ?_⟩
      · rw [h3, hlen]; congr 1; omega
      · rw [hlen, show cls.length + 1 + i = cls.length + (i + 1) by omega] at h6; exact h6

theorem okAgainst_spec {x : DI} {i : Nat} : ∀ {l : List DI}, okAgainst x i l = true → ∀ (j : Nat) (y : DI), l[j]? = some y → mustFirst x y = true → y.cl.testBit i = true
  | [], _, j, y, hy, _ => by simp at hy
  | z :: l, h, j, y, hy, hm => by
    simp only [okAgainst, Bool.and_eq_true, Bool.or_eq_true] at h
    cases j with
    | zero => simp at hy; subst hy; rcases h.1 with h | h; (rw [hm] at h; simp at h); exact h
    | succ j => exact okAgainst_spec h.2 j y (by simpa using hy) hm

theorem okPairs_spec : ∀ {l : List DI} {n : Nat}, okPairs n l = true → ∀ (i j : Nat) (x y : DI), i < j → l[i]? = some x → l[j]? = some y → mustFirst x y = true → y.cl.testBit (n + i) = true
  | [], _, _, i, j, x, y, _, hx, _, _ => by simp at hx
  | z :: l, n, h, i, j, x, y, hij, hx, hy, hm => by
    simp only [okPairs, Bool.and_eq_true] at h
    cases j with
    | zero => omega
    | succ j =>
      cases i with
      | zero => simp at hx; subst hx; exact okAgainst_spec h.1 j y (by simpa using hy) hm
      | succ i =>
        have := okPairs_spec h.2 i j x y (by omega) (by simpa using hx) (by simpa using hy) hm
        rw [show n + (i + 1) = n + 1 + i by omega]; exact this

theorem okBack_spec : ∀ {l : List Oper} {n : Nat}, okBack n l = true → ∀ (i : Nat) (o : Oper), l[i]? = some o → ∀ e ∈ o.after, Region.binds .any e = true → e.on < n + i
  | [], _, _, i, o, ho, _, _, _ => by simp at ho
  | x :: l, n, h, i, o, ho, e, he, hb => by
    simp only [okBack, Bool.and_eq_true, List.all_eq_true, Bool.or_eq_true, decide_eq_true_eq] at h
    cases i with
    | zero =>
      simp at ho; subst ho
      rcases h.1 e (by simpa using he) with h' | h'
      · rw [hb] at h'; simp at h'
      · exact h'
    | succ i => have := okBack_spec h.2 i o (by simpa using ho) e he hb; omega

theorem okKinds_spec : ∀ {as : List AOper} {k : Nat}, okKinds as k = true → ∀ (i : Nat) (a : AOper), as[i]? = some a → okKind a (k + kAt as i) = true
  | [], _, _, i, a, ha => by simp at ha
  | b :: as, k, h, i, a, ha => by
    simp only [okKinds, Bool.and_eq_true] at h
    cases i with
    | zero => simp at ha; subst ha; simpa [kAt] using h.1
    | succ i =>
      have := okKinds_spec h.2 i a (by simpa using ha)
      rw [stepK_eq] at this
      simpa [kAt, Nat.add_assoc] using this

theorem mem_maskL {p : List Bool} : ∀ {l : List (List Bool)}, p ∈ l → (maskL l).testBit (unpath p) = true
  | [], h => by simp at h
  | q :: l, h => by
    simp only [maskL, Nat.testBit_or, Bool.or_eq_true]
    rcases List.mem_cons.1 h with h | h
    · subst h; left; rw [Nat.one_shiftLeft]; simp [Nat.testBit_two_pow]
    · exact .inr (mem_maskL h)

theorem testBit_ne_zero {n i : Nat} (h : n.testBit i = true) : n ≠ 0 := by
  intro e; subst e; simp at h

theorem dst_bit {a : AOper} {p : List Bool} (h : a.dst = some p) : (dstMask a).testBit (unpath p) = true := by
  unfold dstMask; rw [h]; simp only; rw [Nat.one_shiftLeft]; simp [Nat.testBit_two_pow]

theorem mustFirst_of {x y : DI} {b : Nat} (h : (x.wr.testBit b = true ∧ (y.rd.testBit b = true ∨ y.wr.testBit b = true)) ∨ (x.rd.testBit b = true ∧ y.wr.testBit b = true)) : mustFirst x y = true := by
  unfold mustFirst
  rw [Bool.or_eq_true]
  left
  have : ((x.wr &&& (y.rd ||| y.wr)) ||| (x.rd &&& y.wr)).testBit b = true := by
    simp only [Nat.testBit_or, Nat.testBit_and, Bool.or_eq_true, Bool.and_eq_true]
    exact h
  simpa using testBit_ne_zero this

/-- What the check gives: of two in the text's order the earlier has come when the later is ready. -/
structure DrawOK (ops : List Oper) (as : List AOper) : Prop where
  back : ∀ (i : Nat) (o : Oper), ops[i]? = some o → ∀ e ∈ o.after, Region.binds .any e = true → e.on < i
  kind : ∀ (i : Nat) (a : AOper), as[i]? = some a → okKind a (kAt as i) = true
  tmp : ∀ (i j : Nat) (x y : AOper) (p : List Bool), i < j → as[i]? = some x → as[j]? = some y → ((x.dst = some p ∧ (p ∈ y.looks ∨ y.dst = some p)) ∨ (p ∈ x.looks ∧ y.dst = some p)) →
    ∀ D, DC ops D → Rdy ops D j → D i = true
  ee : ∀ (i j : Nat) (x y : AOper), i < j → as[i]? = some x → as[j]? = some y → x.dk = .eff → y.dk = .eff → ∀ D, DC ops D → Rdy ops D j → D i = true
  er : ∀ (i j : Nat) (x y : AOper) (lo hi : Nat), i < j → as[i]? = some x → as[j]? = some y → x.dk = .eff → y.dk = .read lo hi → kAt as i < lo → ∀ D, DC ops D → Rdy ops D j → D i = true
  re : ∀ (i j : Nat) (x y : AOper) (lo hi : Nat), i < j → as[i]? = some x → as[j]? = some y → x.dk = .read lo hi → y.dk = .eff → hi ≤ kAt as j → ∀ D, DC ops D → Rdy ops D j → D i = true

theorem okDraw_spec {ops : List Oper} {as : List AOper} (hl : ops.length = as.length) (h : okDraw ops as = true) : DrawOK ops as := by
  simp only [okDraw, Bool.and_eq_true] at h
  obtain ⟨h1, h2, h3⟩ := h
  have hi := infos_spec ops as ops as 0 [] rfl rfl (by simp [kAt]) hl (by simp) (by simp)
  have main : ∀ (i j : Nat) (x y : AOper), i < j → as[i]? = some x → as[j]? = some y →
      (∀ dx dy : DI, dx.dk = x.dk → dx.k = kAt as i → dx.rd = maskL x.looks → dx.wr = dstMask x → dy.dk = y.dk → dy.k = kAt as j → dy.rd = maskL y.looks → dy.wr = dstMask y → mustFirst dx dy = true) →
      ∀ D, DC ops D → Rdy ops D j → D i = true := by
    intro i j x y hij hx hy hm D hD hr
    obtain ⟨dx, a1, a2, a3, a4, a5, a6⟩ := hi i x hx
    obtain ⟨dy, b1, b2, b3, b4, b5, b6⟩ := hi j y hy
    simp only [List.length_nil, Nat.zero_add] at a3 b3 b6
    have := okPairs_spec h3 i j dx dy hij a1 b1 (hm dx dy a2 a3 a4 a5 b2 b3 b4 b5)
    simp only [Nat.zero_add] at this
    exact b6 i this D hD hr
  refine ⟨fun i o ho e he hb => by have := okBack_spec h1 i o ho e he hb; omega, fun i a ha => by have := okKinds_spec h2 i a ha; simpa using this, ?_, ?_, ?_, ?_⟩
  · intro i j x y p hij hx hy hc
    refine main i j x y hij hx hy ?_
    intro dx dy _ _ a4 a5 _ _ b4 b5
    refine mustFirst_of (b := unpath p) ?_
    rw [a4, a5, b4, b5]
    rcases hc with ⟨c1, c2⟩ | ⟨c1, c2⟩
    · exact .inl ⟨dst_bit c1, c2.imp mem_maskL dst_bit⟩
    · exact .inr ⟨mem_maskL c1, dst_bit c2⟩
  · intro i j x y hij hx hy e1 e2
    refine main i j x y hij hx hy ?_
    intro dx dy a2 _ _ _ b2 _ _ _
    simp [mustFirst, a2, b2, e1, e2]
  · intro i j x y lo hi hij hx hy e1 e2 hk
    refine main i j x y hij hx hy ?_
    intro dx dy a2 a3 _ _ b2 _ _ _
    simp [mustFirst, a2, a3, b2, e1, e2, hk]
  · intro i j x y lo hi hij hx hy e1 e2 hk
    refine main i j x y hij hx hy ?_
    intro dx dy a2 _ _ _ b2 b3 _ _
    simp [mustFirst, a2, b2, b3, e1, e2, hk]
end Go.Ab

namespace Go.Ab
open Go Go.RowKit

section
variable {T : Tab} {cf : CF} {q : Bool}

def Holds (T : Tab) (cf : CF) (op : AOp) (env : Env) (v : AVal) (σ : St) : Prop := ∃ σ', stepOp T cf true op env σ = some (v, σ')

theorem stays_holds {op : AOp} {env : Env} {v : AVal} {σ : St} (h : stays T cf op env v σ = true) : Holds T cf op env v σ := by
  unfold stays at h
  split at h
  · rename_i r hr
    have := eqA_eq _ _ h
    exact ⟨r.2, by rw [hr, this]⟩
  · simp at h

theorem staysAll_holds {op : AOp} {env : Env} {v : AVal} : ∀ {n : Nat} {l : List St}, staysAll T cf op env v n l = true → ∀ (j : Nat) (σ : St), j < n → l[j]? = some σ → Holds T cf op env v σ
  | 0, _, _, j, σ, h, _ => by omega
  | _ + 1, [], _, _, _, _, h => by simp at h
  | n + 1, s :: l, h, j, σ, hj, hs => by
    simp only [staysAll, Bool.and_eq_true] at h
    cases j with
    | zero => simp at hs; subst hs; exact stays_holds h.1
    | succ j => exact staysAll_holds h.2 j σ (by omega) (by simpa using hs)

theorem fltsStay_holds {k : Nat} {σ : St} : ∀ {l : List Flt}, fltsStay T cf k σ l = true → ∀ f ∈ l, k ≤ f.hi → Holds T cf f.op f.env f.v σ
  | [], _, f, hf, _ => by simp at hf
  | g :: l, h, f, hf, hk => by
    simp only [fltsStay, Bool.and_eq_true, Bool.or_eq_true, decide_eq_true_eq] at h
    rcases List.mem_cons.1 hf with e | e
    · subst e
      rcases h.1 with h' | h'
      · omega
      · exact stays_holds h'
    · exact fltsStay_holds h.2 f e hk

/-- What one operation of a region has to do with the states among which it may come. -/
def Fact (T : Tab) (cf : CF) (q : Bool) (a : AOper) (v : AVal) (env : Env) (Sg : Nat → St) (k E : Nat) : Prop :=
  (wantedA a env = false ∧ v = undefA ∧ (a.dk = .eff → Sg (k + 1) = Sg k)) ∨
  (wantedA a env = true ∧
    match a.dk with
    | .pure => ∃ σ, Holds T cf a.op env v σ
    | .read lo hi => ∀ j, lo ≤ j → j ≤ hi → j ≤ E → Holds T cf a.op env v (Sg j)
    | .eff => stepOp T cf q a.op env (Sg k) = some (v, Sg (k + 1)))

structure Trace (T : Tab) (cf : CF) (q : Bool) (as : List AOper) (k : Nat) (env : Env) (V : Nat → AVal) (En : Nat → Env) (Sg : Nat → St) : Prop where
  en0 : En 0 = env
  en : ∀ (i : Nat) (a : AOper), as[i]? = some a → En (i + 1) = setDst a (V i) (En i)
  fact : ∀ (i : Nat) (a : AOper), as[i]? = some a → Fact T cf q a (V i) (En i) Sg (k + kAt as i) (k + kAt as as.length)

theorem Trace.cons {a : AOper} {as : List AOper} {k : Nat} {env : Env} {v : AVal} {V : Nat → AVal} {En : Nat → Env} {Sg : Nat → St}
    (h : Trace T cf q as (stepK a k) (setDst a v env) V En Sg) (hf : Fact T cf q a v env Sg k (k + kAt (a :: as) (a :: as).length)) :
    Trace T cf q (a :: as) k env (fun | 0 => v | i + 1 => V i) (fun | 0 => env | i + 1 => En i) Sg := by
  refine ⟨rfl, ?_, ?_⟩
  · intro i b hb
    cases i with
    | zero => simp at hb; subst hb; exact h.en0
    | succ i => exact h.en i b (by simpa using hb)
  · intro i b hb
    cases i with
    | zero => simp at hb; subst hb; simpa [kAt] using hf
    | succ i =>
      have := h.fact i b (by simpa using hb)
      rw [stepK_eq] at this
      simpa [kAt, Nat.add_assoc] using this

theorem draw_trace : ∀ (as : List AOper) (k : Nat) (old : List St) (fl : List Flt) (env : Env) (σ : St) (r : Env × St) (So : Nat → St), drawOps T cf q as k old fl env σ = some r →
    So k = σ → (∀ j, j < k → old[k - 1 - j]? = some (So j)) → (∀ f ∈ fl, k ≤ f.hi → Holds T cf f.op f.env f.v (So k)) →
    ∃ V En Sg, (∀ j, j ≤ k → Sg j = So j) ∧ (En as.length, Sg (k + kAt as as.length)) = r ∧
      (∀ f ∈ fl, ∀ j, k ≤ j → j ≤ f.hi → j ≤ k + kAt as as.length → Holds T cf f.op f.env f.v (Sg j)) ∧ Trace T cf q as k env V En Sg
  | [], k, old, fl, env, σ, r, So, h, hσ, hold, hfl => by
    simp only [drawOps, Option.some.injEq] at h
    refine ⟨fun _ => undefA, fun _ => env, So, fun _ _ => rfl, by simp [kAt, hσ, h], ?_, ⟨rfl, by simp, by simp⟩⟩
    intro f hf j h1 h2 h3
    have : j = k := by simp [kAt] at h3; omega
    subst this; exact hfl f hf h2
  | a :: as, k, old, fl, env, σ, r, So, h, hσ, hold, hfl => by
    simp only [drawOps] at h
    cases hdk : a.dk with
    | pure =>
      rw [hdk] at h; simp only at h
      have hstepK : stepK a k = k := by simp [stepK, hdk]
      have hE : kAt (a :: as) (a :: as).length = kAt as as.length := by simp [kAt, stepK, hdk]
      have go : ∀ v, Fact T cf q a v env So k 0 ∨ True → drawOps T cf q as k old fl (setDst a v env) σ = some r →
          (∀ Sg : Nat → St, Fact T cf q a v env Sg k (k + kAt (a :: as) (a :: as).length)) → ∃ V En Sg, (∀ j, j ≤ k → Sg j = So j) ∧ (En (a :: as).length, Sg (k + kAt (a :: as) (a :: as).length)) = r ∧
          (∀ f ∈ fl, ∀ j, k ≤ j → j ≤ f.hi → j ≤ k + kAt (a :: as) (a :: as).length → Holds T cf f.op f.env f.v (Sg j)) ∧ Trace T cf q (a :: as) k env V En Sg := by
        intro v _ hr hf
        obtain ⟨V, En, Sg, h1, h2, h3, h4⟩ := draw_trace as k old fl _ σ r So hr hσ hold hfl
        exact ⟨_, _, Sg, h1, by rw [hE]; exact h2, by rw [hE]; exact h3, Trace.cons (by rw [hstepK]; exact h4) (hf Sg)⟩
      cases hw : wantedA a env with
      | true =>
        rw [hw] at h; simp only at h
        split at h
        · rename_i r1 hstep
          rw [setDstK_eq] at h
          exact go r1.1 (.inr trivial) h fun Sg => .inr ⟨hw, by rw [hdk]; exact ⟨σ, r1.2, hstep⟩⟩
        · simp at h
      | false =>
        rw [hw] at h; simp only at h
        rw [setDstK_eq] at h
        exact go undefA (.inr trivial) h fun Sg => .inl ⟨hw, rfl, fun e => by rw [hdk] at e; cases e⟩
    | read lo hi =>
      rw [hdk] at h; simp only at h
      have hstepK : stepK a k = k := by simp [stepK, hdk]
      have hE : kAt (a :: as) (a :: as).length = kAt as as.length := by simp [kAt, stepK, hdk]
      cases hw : wantedA a env with
      | true =>
        rw [hw] at h; simp only at h
        split at h
        · rename_i r1 hstep
          split at h
          · rename_i hst
            rw [setDstK_eq] at h
            have hhere : Holds T cf a.op env r1.1 (So k) := ⟨r1.2, by rw [hσ, hstep]⟩
            obtain ⟨V, En, Sg, h1, h2, h3, h4⟩ := draw_trace as k old _ _ σ r So h hσ hold (by
              intro f hf hk
              split at hf
              · rcases List.mem_cons.1 hf with e | e
                · subst e; exact hhere
                · exact hfl f e hk
              · exact hfl f hf hk)
            refine ⟨_, _, Sg, h1, by rw [hE]; exact h2, ?_, Trace.cons (v := r1.1) (by rw [hstepK]; exact h4) (.inr ⟨hw, ?_⟩)⟩
            · intro f hf j g1 g2 g3
              rw [hE] at g3
              refine h3 f ?_ j g1 g2 g3
              split
              · exact List.mem_cons_of_mem _ hf
              · exact hf
            · rw [hdk]
              simp only
              intro j g1 g2 g3
              rw [hE] at g3
              rcases Nat.lt_trichotomy j k with hj | hj | hj
              · rw [h1 j (by omega)]
                exact staysAll_holds hst (k - 1 - j) _ (by omega) (hold j hj)
              · subst hj; rw [h1 j (Nat.le_refl _)]; exact hhere
              · have hkh : k < hi := by omega
                refine h3 ⟨hi, a.op, env, r1.1⟩ ?_ j (by omega) g2 g3
                rw [if_pos hkh]
                exact List.mem_cons_self ..
          · simp at h
        · simp at h
      | false =>
        rw [hw] at h; simp only at h
        rw [setDstK_eq] at h
        obtain ⟨V, En, Sg, h1, h2, h3, h4⟩ := draw_trace as k old fl _ σ r So h hσ hold hfl
        exact ⟨_, _, Sg, h1, by rw [hE]; exact h2, by rw [hE]; exact h3, Trace.cons (by rw [hstepK]; exact h4) (.inl ⟨hw, rfl, fun e => by rw [hdk] at e; cases e⟩)⟩
    | eff =>
      rw [hdk] at h; simp only at h
      have hstepK : stepK a k = k + 1 := by simp [stepK, hdk]
      have hE : k + kAt (a :: as) (a :: as).length = k + 1 + kAt as as.length := by simp [kAt, stepK, hdk]; omega
      have next : ∀ σ1 : St, (∀ j, j < k + 1 → (σ :: old)[k + 1 - 1 - j]? = some ((fun j => if j ≤ k then So j else σ1) j)) := by
        intro σ1 j hj
        simp only [show j ≤ k by omega, if_true]
        by_cases e : j = k
        · subst e; simp [hσ]
        · have : k + 1 - 1 - j = (k - 1 - j) + 1 := by omega
          rw [this]; simpa using hold j (by omega)
      cases hw : wantedA a env with
      | true =>
        rw [hw] at h; simp only at h
        split at h
        · rename_i r1 hstep
          split at h
          · rename_i hst
            rw [setDstK_eq] at h
            obtain ⟨V, En, Sg, h1, h2, h3, h4⟩ := draw_trace as (k + 1) (σ :: old) fl _ r1.2 r (fun j => if j ≤ k then So j else r1.2) h (if_neg (Nat.not_succ_le_self k)) (next r1.2) (by
              intro f hf hk
              simp only [show ¬ (k + 1 ≤ k) by omega, if_false]
              exact fltsStay_holds hst f hf hk)
            have hk : Sg k = σ := by rw [h1 k (by omega)]; simp [hσ]
            have hk1 : Sg (k + 1) = r1.2 := by rw [h1 (k + 1) (by omega)]; exact if_neg (Nat.not_succ_le_self k)
            refine ⟨_, _, Sg, ?_, by rw [hE]; exact h2, ?_, Trace.cons (v := r1.1) (by rw [hstepK]; exact h4) (.inr ⟨hw, by rw [hdk]; simp only; rw [hk, hk1]; exact hstep⟩)⟩
            · intro j hj; rw [h1 j (by omega)]; simp [hj]
            · intro f hf j g1 g2 g3
              rw [hE] at g3
              by_cases e : j = k
              · subst e; rw [h1 j (by omega)]; simp only [Nat.le_refl, if_true]; exact hfl f hf g2
              · exact h3 f hf j (by omega) g2 g3
          · simp at h
        · simp at h
      | false =>
        rw [hw] at h; simp only at h
        rw [setDstK_eq] at h
        obtain ⟨V, En, Sg, h1, h2, h3, h4⟩ := draw_trace as (k + 1) (σ :: old) fl _ σ r (fun j => if j ≤ k then So j else σ) h (if_neg (Nat.not_succ_le_self k)) (next σ) (by
          intro f hf hk
          simp only [show ¬ (k + 1 ≤ k) by omega, if_false]
          rw [← hσ]
          exact hfl f hf (by omega))
        have hk : Sg k = σ := by rw [h1 k (by omega)]; simp [hσ]
        have hk1 : Sg (k + 1) = σ := by rw [h1 (k + 1) (by omega)]; exact if_neg (Nat.not_succ_le_self k)
        refine ⟨_, _, Sg, ?_, by rw [hE]; exact h2, ?_, Trace.cons (v := undefA) (by rw [hstepK]; exact h4) (.inl ⟨hw, rfl, fun _ => by rw [hk, hk1]⟩)⟩
        · intro j hj; rw [h1 j (by omega)]; simp [hj]
        · intro f hf j g1 g2 g3
          rw [hE] at g3
          by_cases e : j = k
          · subst e; rw [h1 j (by omega)]; simp only [Nat.le_refl, if_true]; exact hfl f hf g2
          · exact h3 f hf j (by omega) g2 g3
end

/-! ## The temporaries when only some have come -/
noncomputable def dstAt (as : List AOper) (i : Nat) : Option (List Bool) := (as[i]?).bind (·.dst)

noncomputable def curD (as : List AOper) (V : Nat → AVal) (env : Env) (D : Nat → Bool) (p : List Bool) : Nat → Option AVal
  | 0 => env.get p
  | n + 1 => if D n = true ∧ dstAt as n = some p then some (V n) else curD as V env D p n

section
variable {as : List AOper} {V : Nat → AVal} {env : Env} {D D' : Nat → Bool} {p : List Bool}

theorem curD_agree : ∀ {n : Nat}, (∀ j, j < n → dstAt as j = some p → D j = D' j) → curD as V env D p n = curD as V env D' p n
  | 0, _ => rfl
  | n + 1, h => by
    have := curD_agree (n := n) fun j hj => h j (by omega)
    simp only [curD, this]
    by_cases hd : dstAt as n = some p
    · rw [h n (by omega) hd]
    · simp [hd]

theorem curD_below {i : Nat} (hD : ∀ j, D j = true → j < i) : ∀ {n : Nat}, i ≤ n → curD as V env D p n = curD as V env D p i
  | 0, h => by have : i = 0 := by omega
               subst this; rfl
  | n + 1, h => by
    by_cases e : i = n + 1
    · subst e; rfl
    · have hn : D n ≠ true := fun h' => by have := hD n h'; omega
      simp only [curD, hn, false_and, if_false, Bool.false_eq_true]
      exact curD_below hD (by omega)

theorem curD_put {i : Nat} {v : AVal} (hd : dstAt as i = some p) (hv : V i = v) (hD' : ∀ j, D' j = (D j || j == i)) : ∀ {n : Nat}, i < n → (∀ j, i < j → j < n → dstAt as j = some p → D j = false) → curD as V env D' p n = some v
  | 0, h, _ => by omega
  | n + 1, h, hlast => by
    by_cases e : i = n
    · subst e; simp [curD, hD', hd, hv]
    · have hn : ¬ (D' n = true ∧ dstAt as n = some p) := by
        rintro ⟨h1, h2⟩
        rw [hD'] at h1
        have := hlast n (by omega) (by omega) h2
        simp [this] at h1
        exact e h1.symm
      simp only [curD, hn, if_false]
      exact curD_put hd hv hD' (by omega) (fun j h1 h2 => hlast j h1 (by omega))
end
end Go.Ab
