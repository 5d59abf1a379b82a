/- The abstract machine, part 29: runs without a bound on their depth, as equations. -/
import Derived.Test.YthbanbnmomcohaaGreatDoorM8
import Derived.Eval
set_option linter.all false
set_option linter.unusedSimpArgs false
namespace Go.Ab
open Go Go.RowKit

def LeX (f g : EX) : Prop := ∀ q c env σ r, f q c env σ = some r → g q c env σ = some r
def LeC (f g : CF) : Prop := ∀ q fn args σ r, f q fn args σ = some r → g q fn args σ = some r

section
variable {T : Tab} {cf cf' : CF} {q : Bool}

theorem stepOp_mono (h : LeC cf cf') {op : AOp} {env : Env} {σ : St} {r : AVal × St} (hs : stepOp T cf q op env σ = some r) : stepOp T cf' q op env σ = some r := by
  cases op
  case call f as => exact h _ _ _ _ _ hs
  case callV f as =>
    simp only [stepOp, opCallV] at hs ⊢
    split at hs
    · rename_i heq; exact h _ _ _ _ _ hs
    · simp at hs
  all_goals exact hs

theorem stays_mono (h : LeC cf cf') {op : AOp} {env : Env} {v : AVal} {σ : St} (hs : stays T cf op env v σ = true) : stays T cf' op env v σ = true := by
  unfold stays at hs ⊢
  split at hs
  · rename_i r hr; rw [stepOp_mono h hr]; exact hs
  · simp at hs

theorem staysAll_mono (h : LeC cf cf') {op : AOp} {env : Env} {v : AVal} : ∀ {n : Nat} {l : List St}, staysAll T cf op env v n l = true → staysAll T cf' op env v n l = true
  | 0, _, _ => by simp [staysAll]
  | _ + 1, [], hs => by simp [staysAll] at hs
  | n + 1, s :: l, hs => by
    simp only [staysAll, Bool.and_eq_true] at hs ⊢
    exact ⟨stays_mono h hs.1, staysAll_mono h hs.2⟩

theorem fltsStay_mono (h : LeC cf cf') {k : Nat} {σ : St} : ∀ {l : List Flt}, fltsStay T cf k σ l = true → fltsStay T cf' k σ l = true
  | [], _ => rfl
  | f :: l, hs => by
    simp only [fltsStay, Bool.and_eq_true, Bool.or_eq_true] at hs ⊢
    exact ⟨hs.1.imp id (stays_mono h), fltsStay_mono h hs.2⟩

theorem runOps_cons (a : AOper) (as : List AOper) (env : Env) (σ : St) : runOps T cf q (a :: as) env σ = (match wantedA a env with
      | true => (match stepOp T cf q a.op env σ with | some r => runOps T cf q as (setDst a r.1 env) r.2 | none => none)
      | false => runOps T cf q as (setDst a undefA env) σ) := by
  have hrun : runOps T cf q (a :: as) env σ = (match wantedA a env with
      | true => (match stepOp T cf q a.op env σ with | some r => setDstK a r.1 env fun env => runOps T cf q as env r.2 | none => none)
      | false => setDstK a undefA env fun env => runOps T cf q as env σ) := rfl
  rw [hrun]
  simp only [setDstK_eq]
theorem runOps_nil (env : Env) (σ : St) : runOps T cf q [] env σ = some (env, σ) := rfl

theorem runOps_mono (h : LeC cf cf') : ∀ {ops : List AOper} {env : Env} {σ : St} {r : Env × St}, runOps T cf q ops env σ = some r → runOps T cf' q ops env σ = some r
  | [], _, _, _, hs => hs
  | a :: as, env, σ, r, hs => by
    rw [runOps_cons] at hs ⊢
    split at hs
    · split at hs
      · rename_i r1 h1; rw [stepOp_mono h h1]; exact runOps_mono h hs
      · simp at hs
    · exact runOps_mono h hs

theorem drawOps_mono (h : LeC cf cf') : ∀ {ops : List AOper} {k : Nat} {old : List St} {fl : List Flt} {env : Env} {σ : St} {r : Env × St}, drawOps T cf q ops k old fl env σ = some r → drawOps T cf' q ops k old fl env σ = some r
  | [], _, _, _, _, _, _, hs => hs
  | a :: as, k, old, fl, env, σ, r, hs => by
    simp only [drawOps, setDstK_eq] at hs ⊢
    split at hs
    · split at hs
      · split at hs
        · rename_i r1 h1; rw [stepOp_mono h h1]; exact drawOps_mono h hs
        · simp at hs
      · exact drawOps_mono h hs
    · split at hs
      · split at hs
        · rename_i r1 h1
          rw [stepOp_mono h h1]
          split at hs
          · rename_i h2; simp only [staysAll_mono h h2, if_true]; exact drawOps_mono h hs
          · simp at hs
        · simp at hs
      · exact drawOps_mono h hs
    · split at hs
      · split at hs
        · rename_i r1 h1
          rw [stepOp_mono h h1]
          split at hs
          · rename_i h2; simp only [fltsStay_mono h h2, if_true]; exact drawOps_mono h hs
          · simp at hs
        · simp at hs
      · exact drawOps_mono h hs
end

section
variable {T : Tab} {ih ih' : EX}

theorem callF_mono (h : LeX ih ih') : LeC (callF T ih) (callF T ih') := by
  intro q f args σ r hs
  simp only [callF] at hs ⊢
  split at hs
  · rename_i fn hfn
    split at hs
    case isFalse => simp at hs
    rename_i har
    rw [if_pos har]
    split at hs
    · rename_i env1 σ1 h1; simp only [h _ _ _ _ _ h1]; exact hs
    · rename_i env1 σ1 h1; simp only [h _ _ _ _ _ h1]; exact hs
    · simp at hs
  · simp at hs

theorem stepC_mono (h : LeX ih ih') : LeX (stepC T ih) (stepC T ih') := by
  intro q c env σ r hs
  cases c with
  | skip => exact hs
  | region d as =>
    cases d with
    | false =>
      simp only [stepC] at hs ⊢
      split at hs
      · rename_i r1 h1; simp only [runOps_mono (callF_mono h) h1]; exact hs
      · simp at hs
    | true =>
      simp only [stepC] at hs ⊢
      split at hs
      · rename_i r1 h1; simp only [drawOps_mono (callF_mono h) h1]; exact hs
      · simp at hs
  | seq a b =>
    simp only [stepC] at hs ⊢
    split at hs
    · rename_i env1 σ1 h1; simp only [h _ _ _ _ _ h1]; exact h _ _ _ _ _ hs
    · rename_i hne
      rw [h _ _ _ _ _ hs]
      obtain ⟨o, env1, σ1⟩ := r
      cases o with
      | normal => exact absurd hs (hne env1 σ1)
      | _ => rfl
  | cond c a b =>
    simp only [stepC] at hs ⊢
    split at hs
    · exact h _ _ _ _ _ hs
    · exact h _ _ _ _ _ hs
    · simp at hs
  | block id a =>
    simp only [stepC] at hs ⊢
    split at hs
    · rename_i j env1 σ1 h1; simp only [h _ _ _ _ _ h1]; exact hs
    · rename_i hne
      rw [h _ _ _ _ _ hs]
      obtain ⟨o, env1, σ1⟩ := r
      cases o with
      | exit j => exact absurd hs (hne j env1 σ1)
      | _ => rfl
  | loop a =>
    simp only [stepC] at hs ⊢
    split at hs
    · rename_i env1 σ1 h1; simp only [h _ _ _ _ _ h1]; exact h _ _ _ _ _ hs
    · rename_i hne
      rw [h _ _ _ _ _ hs]
      obtain ⟨o, env1, σ1⟩ := r
      cases o with
      | normal => exact absurd hs (hne env1 σ1)
      | _ => rfl
  | scope a => exact h _ _ _ _ _ hs
  | exit id => exact hs
  | ret => exact hs
  | fail => exact hs
end

theorem exec_succ (T : Tab) (n : Nat) : exec T (n + 1) = stepC T (exec T n) := rfl

theorem exec_le (T : Tab) : ∀ n, LeX (exec T n) (exec T (n + 1))
  | 0 => fun q c env σ r h => by
    have : exec T 0 = fun _ _ _ _ => none := rfl
    rw [this] at h; simp at h
  | n + 1 => by rw [exec_succ, exec_succ T (n + 1)]; exact stepC_mono (exec_le T n)

theorem exec_mono (T : Tab) {n m : Nat} (h : n ≤ m) : LeX (exec T n) (exec T m) := by
  induction h with
  | refl => exact fun _ _ _ _ _ h => h
  | step _ ih => exact fun q c env σ r h => exec_le T _ q c env σ r (ih q c env σ r h)

open Classical in
/-- A run, however deep. -/
noncomputable def Ew (T : Tab) : EX := fun q c env σ => if h : ∃ r n, exec T n q c env σ = some r then some h.choose else none

theorem Ew_iff {T : Tab} {q : Bool} {c : ACode} {env : Env} {σ : St} {r : Out × Env × St} : Ew T q c env σ = some r ↔ ∃ n, exec T n q c env σ = some r := by
  unfold Ew
  split
  · rename_i h
    obtain ⟨m, hm⟩ := h.choose_spec
    constructor
    · intro e; rw [← Option.some.inj e]; exact ⟨m, hm⟩
    · rintro ⟨n, hn⟩
      have h1 := exec_mono T (Nat.le_max_left n m) _ _ _ _ _ hn
      have h2 := exec_mono T (Nat.le_max_right n m) _ _ _ _ _ hm
      rw [h1] at h2; rw [Option.some.inj h2]
  · rename_i h
    constructor
    · intro e; simp at e
    · rintro ⟨n, hn⟩; exact absurd ⟨r, n, hn⟩ h

noncomputable def Cw (T : Tab) : CF := callF T (Ew T)

theorem Ew_le (T : Tab) (n : Nat) : LeX (exec T n) (Ew T) := fun _ _ _ _ _ h => Ew_iff.2 ⟨n, h⟩

theorem Cw_iff {T : Tab} {q : Bool} {f : Nat} {args : List AVal} {σ : St} {r : AVal × St} : Cw T q f args σ = some r ↔ ∃ n, call T n q f args σ = some r := by
  constructor
  · intro h
    simp only [Cw, callF] at h
    split at h
    · rename_i fn hfn
      split at h
      case isFalse => simp at h
      rename_i har
      split at h
      · rename_i env1 σ1 h1
        obtain ⟨n, hn⟩ := Ew_iff.1 h1
        refine ⟨n, ?_⟩
        simp only [call, callF, hfn, hn, if_pos har]; exact h
      · rename_i env1 σ1 h1
        obtain ⟨n, hn⟩ := Ew_iff.1 h1
        refine ⟨n, ?_⟩
        simp only [call, callF, hfn, hn, if_pos har]; exact h
      · simp at h
    · simp at h
  · rintro ⟨n, h⟩
    exact callF_mono (Ew_le T n) _ _ _ _ _ h

theorem call_mono (T : Tab) {n m : Nat} (h : n ≤ m) : LeC (call T n) (call T m) := callF_mono (exec_mono T h)
theorem call_le (T : Tab) (n : Nat) : LeC (call T n) (Cw T) := fun _ _ _ _ _ h => Cw_iff.2 ⟨n, h⟩

section
variable {T : Tab} {q : Bool}

theorem stepOp_cont {op : AOp} {env : Env} {σ : St} {r : AVal × St} (h : stepOp T (Cw T) q op env σ = some r) : ∃ n, stepOp T (call T n) q op env σ = some r := by
  cases op
  case call f as => exact Cw_iff.1 h
  case callV f as =>
    simp only [stepOp, opCallV] at h ⊢
    split at h
    · exact Cw_iff.1 h
    · simp at h
  all_goals exact ⟨0, h⟩

theorem stays_cont {op : AOp} {env : Env} {v : AVal} {σ : St} (h : stays T (Cw T) op env v σ = true) : ∃ n, stays T (call T n) op env v σ = true := by
  unfold stays at h
  split at h
  · rename_i r hr
    obtain ⟨n, hn⟩ := stepOp_cont hr
    exact ⟨n, by unfold stays; rw [hn]; exact h⟩
  · simp at h

theorem staysAll_cont {op : AOp} {env : Env} {v : AVal} : ∀ {n : Nat} {l : List St}, staysAll T (Cw T) op env v n l = true → ∃ k, staysAll T (call T k) op env v n l = true
  | 0, _, _ => ⟨0, by simp [staysAll]⟩
  | _ + 1, [], h => by simp [staysAll] at h
  | n + 1, s :: l, h => by
    simp only [staysAll, Bool.and_eq_true] at h
    obtain ⟨a, ha⟩ := stays_cont h.1
    obtain ⟨b, hb⟩ := staysAll_cont h.2
    refine ⟨max a b, ?_⟩
    simp only [staysAll, Bool.and_eq_true]
    exact ⟨stays_mono (call_mono T (Nat.le_max_left a b)) ha, staysAll_mono (call_mono T (Nat.le_max_right a b)) hb⟩

theorem fltsStay_cont {k : Nat} {σ : St} : ∀ {l : List Flt}, fltsStay T (Cw T) k σ l = true → ∃ n, fltsStay T (call T n) k σ l = true
  | [], _ => ⟨0, rfl⟩
  | f :: l, h => by
    simp only [fltsStay, Bool.and_eq_true, Bool.or_eq_true] at h
    obtain ⟨b, hb⟩ := fltsStay_cont h.2
    rcases h.1 with h1 | h1
    · refine ⟨b, ?_⟩
      simp only [fltsStay, Bool.and_eq_true, Bool.or_eq_true]
      exact ⟨.inl h1, hb⟩
    · obtain ⟨a, ha⟩ := stays_cont h1
      refine ⟨max a b, ?_⟩
      simp only [fltsStay, Bool.and_eq_true, Bool.or_eq_true]
      exact ⟨.inr (stays_mono (call_mono T (Nat.le_max_left a b)) ha), fltsStay_mono (call_mono T (Nat.le_max_right a b)) hb⟩

theorem runOps_cont : ∀ {ops : List AOper} {env : Env} {σ : St} {r : Env × St}, runOps T (Cw T) q ops env σ = some r → ∃ n, runOps T (call T n) q ops env σ = some r
  | [], _, _, _, h => ⟨0, h⟩
  | a :: as, env, σ, r, h => by
    rw [runOps_cons] at h
    split at h
    · rename_i hw
      split at h
      · rename_i r1 h1
        obtain ⟨x, hx⟩ := stepOp_cont h1
        obtain ⟨y, hy⟩ := runOps_cont h
        refine ⟨max x y, ?_⟩
        rw [runOps_cons, hw]
        simp only [stepOp_mono (call_mono T (Nat.le_max_left x y)) hx]
        exact runOps_mono (call_mono T (Nat.le_max_right x y)) hy
      · simp at h
    · rename_i hw
      obtain ⟨y, hy⟩ := runOps_cont h
      exact ⟨y, by rw [runOps_cons, hw]; exact hy⟩

theorem drawOps_cont : ∀ {ops : List AOper} {k : Nat} {old : List St} {fl : List Flt} {env : Env} {σ : St} {r : Env × St}, drawOps T (Cw T) q ops k old fl env σ = some r → ∃ n, drawOps T (call T n) q ops k old fl env σ = some r
  | [], _, _, _, _, _, _, h => ⟨0, h⟩
  | a :: as, k, old, fl, env, σ, r, h => by
    simp only [drawOps, setDstK_eq] at h
    split at h
    · rename_i hd
      split at h
      · rename_i hw
        split at h
        · rename_i r1 h1
          obtain ⟨x, hx⟩ := stepOp_cont h1
          obtain ⟨y, hy⟩ := drawOps_cont h
          refine ⟨max x y, ?_⟩
          simp only [drawOps, setDstK_eq, hd, hw, stepOp_mono (call_mono T (Nat.le_max_left x y)) hx]
          exact drawOps_mono (call_mono T (Nat.le_max_right x y)) hy
        · simp at h
      · rename_i hw
        obtain ⟨y, hy⟩ := drawOps_cont h
        exact ⟨y, by simp only [drawOps, setDstK_eq, hd, hw]; exact hy⟩
    · rename_i lo hi hd
      split at h
      · rename_i hw
        split at h
        · rename_i r1 h1
          split at h
          · rename_i h2
            obtain ⟨x, hx⟩ := stepOp_cont h1
            obtain ⟨y, hy⟩ := staysAll_cont h2
            obtain ⟨z, hz⟩ := drawOps_cont h
            refine ⟨max x (max y z), ?_⟩
            simp only [drawOps, setDstK_eq, hd, hw, stepOp_mono (call_mono T (Nat.le_max_left x (max y z))) hx,
              staysAll_mono (call_mono T (Nat.le_trans (Nat.le_max_left y z) (Nat.le_max_right x _))) hy, if_true]
            exact drawOps_mono (call_mono T (Nat.le_trans (Nat.le_max_right y z) (Nat.le_max_right x _))) hz
          · simp at h
        · simp at h
      · rename_i hw
        obtain ⟨y, hy⟩ := drawOps_cont h
        exact ⟨y, by simp only [drawOps, setDstK_eq, hd, hw]; exact hy⟩
    · rename_i hd
      split at h
      · rename_i hw
        split at h
        · rename_i r1 h1
          split at h
          · rename_i h2
            obtain ⟨x, hx⟩ := stepOp_cont h1
            obtain ⟨y, hy⟩ := fltsStay_cont h2
            obtain ⟨z, hz⟩ := drawOps_cont h
            refine ⟨max x (max y z), ?_⟩
            simp only [drawOps, setDstK_eq, hd, hw, stepOp_mono (call_mono T (Nat.le_max_left x (max y z))) hx,
              fltsStay_mono (call_mono T (Nat.le_trans (Nat.le_max_left y z) (Nat.le_max_right x _))) hy, if_true]
            exact drawOps_mono (call_mono T (Nat.le_trans (Nat.le_max_right y z) (Nat.le_max_right x _))) hz
          · simp at h
        · simp at h
      · rename_i hw
        obtain ⟨y, hy⟩ := drawOps_cont h
        exact ⟨y, by simp only [drawOps, setDstK_eq, hd, hw]; exact hy⟩

/-- A step with runs of any depth below it is a run. -/
theorem Ew_of {c : ACode} {env : Env} {σ : St} {r : Out × Env × St} (h : stepC T (Ew T) q c env σ = some r) : Ew T q c env σ = some r := by
  have fin : ∀ n, stepC T (exec T n) q c env σ = some r → Ew T q c env σ = some r := fun n h => Ew_iff.2 ⟨n + 1, h⟩
  cases c with
  | skip => exact fin 0 h
  | region d as =>
    cases d with
    | false =>
      simp only [stepC] at h
      split at h
      · rename_i r1 h1
        obtain ⟨n, hn⟩ := runOps_cont h1
        exact fin n (by simp only [stepC]; rw [show callF T (exec T n) = call T n from rfl, hn]; exact h)
      · simp at h
    | true =>
      simp only [stepC] at h
      split at h
      · rename_i r1 h1
        obtain ⟨n, hn⟩ := drawOps_cont h1
        exact fin n (by simp only [stepC]; rw [show callF T (exec T n) = call T n from rfl, hn]; exact h)
      · simp at h
  | seq a b =>
    simp only [stepC] at h
    split at h
    · rename_i env1 σ1 h1
      obtain ⟨x, hx⟩ := Ew_iff.1 h1
      obtain ⟨y, hy⟩ := Ew_iff.1 h
      exact fin (max x y) (by simp only [stepC, exec_mono T (Nat.le_max_left x y) _ _ _ _ _ hx]; exact exec_mono T (Nat.le_max_right x y) _ _ _ _ _ hy)
    · rename_i hne
      obtain ⟨x, hx⟩ := Ew_iff.1 h
      refine fin x ?_
      simp only [stepC, hx]
      obtain ⟨o, env1, σ1⟩ := r
      cases o with
      | normal => exact absurd h (hne env1 σ1)
      | _ => rfl
  | cond c a b =>
    simp only [stepC] at h
    split at h
    · rename_i hc
      obtain ⟨x, hx⟩ := Ew_iff.1 h
      exact fin x (by simp only [stepC, hc]; exact hx)
    · rename_i hc
      obtain ⟨x, hx⟩ := Ew_iff.1 h
      exact fin x (by simp only [stepC, hc]; exact hx)
    · simp at h
  | block id a =>
    simp only [stepC] at h
    split at h
    · rename_i j env1 σ1 h1
      obtain ⟨x, hx⟩ := Ew_iff.1 h1
      exact fin x (by simp only [stepC, hx]; exact h)
    · rename_i hne
      obtain ⟨x, hx⟩ := Ew_iff.1 h
      refine fin x ?_
      simp only [stepC, hx]
      obtain ⟨o, env1, σ1⟩ := r
      cases o with
      | exit j => exact absurd h (hne j env1 σ1)
      | _ => rfl
  | loop a =>
    simp only [stepC] at h
    split at h
    · rename_i env1 σ1 h1
      obtain ⟨x, hx⟩ := Ew_iff.1 h1
      obtain ⟨y, hy⟩ := Ew_iff.1 h
      exact fin (max x y) (by simp only [stepC, exec_mono T (Nat.le_max_left x y) _ _ _ _ _ hx]; exact exec_mono T (Nat.le_max_right x y) _ _ _ _ _ hy)
    · rename_i hne
      obtain ⟨x, hx⟩ := Ew_iff.1 h
      refine fin x ?_
      simp only [stepC, hx]
      obtain ⟨o, env1, σ1⟩ := r
      cases o with
      | normal => exact absurd h (hne env1 σ1)
      | _ => rfl
  | scope a =>
    obtain ⟨x, hx⟩ := Ew_iff.1 (show Ew T q a env σ = some r from h)
    exact fin x hx
  | exit id => exact fin 0 h
  | ret => exact fin 0 h
  | fail => simp [stepC] at h

theorem Ew_eq (T : Tab) (q : Bool) (c : ACode) (env : Env) (σ : St) : Ew T q c env σ = stepC T (Ew T) q c env σ := by
  cases h : stepC T (Ew T) q c env σ with
  | some r => exact Ew_of h
  | none =>
    cases h2 : Ew T q c env σ with
    | none => rfl
    | some r =>
      exfalso
      obtain ⟨n, hn⟩ := Ew_iff.1 h2
      have h3 := exec_le T n _ _ _ _ _ hn
      rw [exec_succ] at h3
      have h4 := stepC_mono (T := T) (Ew_le T n) _ _ _ _ _ h3
      rw [h] at h4; simp at h4
end

/-- A run of any depth is a run of the program. -/
theorem Cw_ok {P : Program} {S : Stat} {w0 : World} (hm : P.follows .mixedOrders = true) (hB : Base P S w0) (hT : TabOK P S w0) : CFok P w0 (Cw S.tab) := by
  intro q f args σ v σ' h
  obtain ⟨n, hn⟩ := Cw_iff.1 h
  exact call_ok hm hB hT n q f args σ v σ' hn
end Go.Ab

namespace Go.Ab
open Go Go.RowKit

noncomputable def Tr.all {α : Type} (f : Nat → α → Bool) : List Bool → Tr α → Bool
  | _, .emp => true
  | acc, .n l v r => Tr.all f (false :: acc) l && ((match v with | some x => f (unpath acc.reverse) x | none => true) && Tr.all f (true :: acc) r)

theorem Tr.all_spec {α : Type} {f : Nat → α → Bool} : ∀ (t : Tr α) (acc p : List Bool) (x : α), Tr.all f acc t = true → t.get p = some x → f (unpath (acc.reverse ++ p)) x = true
  | .emp, _, p, x, _, h => by simp at h
  | .n l v r, acc, p, x, hall, h => by
    simp only [Tr.all, Bool.and_eq_true] at hall
    obtain ⟨h1, h2, h3⟩ := hall
    cases p with
    | nil =>
      have : v = some x := h
      subst this
      simpa using h2
    | cons b p =>
      cases b with
      | false =>
        have := Tr.all_spec l (false :: acc) p x h1 h
        simpa using this
      | true =>
        have := Tr.all_spec r (true :: acc) p x h3 h
        simpa using this

theorem unpath_path (k : Nat) : unpath (path k) = k := unpath_go k k (Nat.le_refl _)

theorem Tr.all_path {α : Type} {f : Nat → α → Bool} {t : Tr α} (h : Tr.all f [] t = true) {k : Nat} {x : α} (hx : t.get (path k) = some x) : f k x = true := by
  have := Tr.all_spec t [] (path k) x h hx
  simpa [unpath_path] using this

noncomputable def okTI (P : Program) (t : TypeId) (ti : TI) : Bool :=
  match P.info? t, P.underlying t with
  | some i, some d => i.size == ti.size && (i.bytes == ti.bytes && ((match i.zero with | some z => (match avals z.cells.toList with | some l => eqAs l ti.zero | none => false) | none => false) && decide (tdOf d = ti.d)))
  | _, _ => false

theorem okTI_spec {P : Program} {t : TypeId} {ti : TI} (h : okTI P t ti = true) : OkTI P t ti := by
  unfold okTI at h
  split at h
  · rename_i i d hi hd
    simp only [Bool.and_eq_true, beq_iff_eq, decide_eq_true_eq] at h
    obtain ⟨h1, h2, h3, h4⟩ := h
    cases hz : i.zero with
    | none => rw [hz] at h3; simp at h3
    | some z =>
      rw [hz] at h3; simp only at h3
      cases ha : avals z.cells.toList with
      | none => rw [ha] at h3; simp at h3
      | some l =>
        rw [ha] at h3; simp only at h3
        exact ⟨⟨i, z, hi, h1, h2, hz, by rw [ha, eqAs_eq _ _ h3]⟩, d, hd, h4⟩
  · simp at h

theorem OKS.of {P : Program} {S : Stat} (h : Tr.all (okTI P) [] S.tt = true) : OKS P S := fun _ _ ht => okTI_spec (Tr.all_path h ht)

noncomputable def okFnAt (P : Program) (S : Stat) (ex : List Nat) (f : Nat) (fn : AFunc) : Bool :=
  ex.contains f || (match P.funcs[f]? with | some F => okFunc S F fn | none => false)

theorem TabOK.of {P : Program} {S : Stat} {w0 : World} (ex : List Nat) (h : Tr.all (okFnAt P S ex) [] S.tab.fn = true) (hex : ∀ f ∈ ex, ∀ k, CFokF P w0 (call S.tab k) f) : TabOK P S w0 := by
  intro f fn hf
  have := Tr.all_path h hf
  unfold okFnAt at this
  rw [Bool.or_eq_true] at this
  rcases this with h1 | h1
  · exact .inr (hex f (by simpa using h1))
  · left
    cases hF : P.funcs[f]? with
    | none => rw [hF] at h1; simp at h1
    | some F => rw [hF] at h1; exact FnOK.of hF h1
end Go.Ab

namespace Go.Ab
open Go Go.RowKit

noncomputable def okCasts (P : Program) : List (Nat × Nat × Nat × Nat) → Bool
  | [] => true
  | (e, n, i, u) :: l => (liesAt P P.depth e (n / P.cellsOf e) i u 1 && P.cellsOf e != 0) && okCasts P l

theorem okCasts_spec {P : Program} : ∀ {l : List (Nat × Nat × Nat × Nat)}, okCasts P l = true → ∀ e n i u, inCasts e n i u l = true → liesAt P P.depth e (n / P.cellsOf e) i u 1 = true ∧ P.cellsOf e ≠ 0
  | [], _, e, n, i, u, h => by simp [inCasts] at h
  | (a, b, c, d) :: l, hok, e, n, i, u, h => by
    simp only [okCasts, Bool.and_eq_true, bne_iff_ne, ne_eq] at hok
    simp only [inCasts, Bool.or_eq_true, Bool.and_eq_true, beq_iff_eq] at h
    rcases h with ⟨⟨⟨rfl, rfl⟩, rfl⟩, rfl⟩ | h
    · exact hok.1
    · exact okCasts_spec hok.2 e n i u h

theorem CastsOK.of {P : Program} {T : Tab} (h : okCasts P T.casts = true) : CastsOK P T := okCasts_spec h

theorem Rel.nothing (W : World) : Rel W [] st0 W :=
  ⟨Below.refl _ _, rfl, fun b o h => by
    have : st0.get b = none := Tr.get_e _
    rw [this] at h; simp at h, fun b b' o o' p p' h => by
    have : st0.get b = none := Tr.get_e _
    rw [this] at h; simp at h⟩

/-- A run from nothing, in whatever world. -/
theorem calls_of_run {P : Program} {W : World} {cf : CF} (hcf : CFok P W cf) {q : Bool} {f : Nat} {args : List AVal} {σ' : St} {v : AVal} (h : cf q f args st0 = some (v, σ')) {xs : List Value} (hxs : VRs W [] args xs) :
    Calls P f xs.toArray W fun e w' => ∃ ν x, e = .returned x ∧ VR W ν v x ∧ Rel W ν σ' w' := by
  refine ((hcf q f args st0 v σ' h).2 [] W xs hxs (Rel.nothing W)).mono ?_
  rintro e w' ⟨ν', x, -, h1, h2, h3⟩
  exact ⟨ν', x, h1, h2, h3⟩
end Go.Ab

namespace Go.Ab
open Go Go.RowKit

/-- What stands in a slot. -/
noncomputable def V (env : Env) (k : Nat) : AVal := match env.get (path k) with | some v => v | none => undefA
noncomputable def U (env : Env) (k : Nat) (v : AVal) : Env := env.set (path k) (some v)

theorem V_U_same (env : Env) (k : Nat) (v : AVal) : V (U env k v) k = v := by
  unfold V U; rw [Tr.get_set_same]
theorem V_U_other (env : Env) {k j : Nat} (v : AVal) (h : ¬ k = j) : V (U env k v) j = V env j := by
  unfold V U; rw [Tr.get_set_other]
  intro e; exact h (path_inj e).symm
theorem V_U (env : Env) (k j : Nat) (v : AVal) : V (U env k v) j = if k = j then v else V env j := by
  by_cases h : k = j
  · subst h; rw [V_U_same, if_pos rfl]
  · rw [V_U_other _ _ h, if_neg h]

theorem ev_t (T : Tab) (env : Env) (k : Nat) : Opd.ev T env (.t (path k)) = V env k := rfl
theorem ev_c (T : Tab) (env : Env) (v : AVal) : Opd.ev T env (.c v) = v := rfl

theorem setDst_some (k : Nat) (op : AOp) (g : Option (List Bool × Bool)) (d : DK) (v : AVal) (env : Env) : setDst ⟨some (path k), op, g, d⟩ v env = U env k v := rfl
theorem setDst_none (op : AOp) (g : Option (List Bool × Bool)) (d : DK) (v : AVal) (env : Env) : setDst ⟨none, op, g, d⟩ v env = env := rfl
theorem wanted_none (d : Option (List Bool)) (op : AOp) (dk : DK) (env : Env) : wantedA ⟨d, op, none, dk⟩ env = true := rfl
theorem wanted_some (d : Option (List Bool)) (op : AOp) (k : Nat) (w : Bool) (dk : DK) (env : Env) : wantedA ⟨d, op, some (path k, w), dk⟩ env = (match V env k with | .bool b => b == w | _ => false) := by
  unfold wantedA V
  simp only
  cases env.get (path k) with
  | none => rfl
  | some v => cases v <;> rfl

section
variable {T : Tab} {q : Bool}
theorem Ew_skip {env σ} : Ew T q .skip env σ = some (.normal, env, σ) := by rw [Ew_eq]; rfl
theorem Ew_seq {a b env σ} : Ew T q (.seq a b) env σ = (match Ew T q a env σ with
    | some (.normal, env, σ) => Ew T q b env σ
    | r => r) := by rw [Ew_eq]; rfl
theorem Ew_region {ops env σ} : Ew T q (.region false ops) env σ = (match runOps T (Cw T) q ops env σ with | some r => some (.normal, r.1, r.2) | none => none) := by rw [Ew_eq]; rfl
theorem Ew_draw {ops env σ} : Ew T q (.region true ops) env σ = (match drawOps T (Cw T) q ops 0 [] [] env σ with | some r => some (.normal, r.1, r.2) | none => none) := by rw [Ew_eq]; rfl
theorem Ew_cond {c a b env σ} : Ew T q (.cond c a b) env σ = (match c.ev T env with | .bool true => Ew T q a env σ | .bool false => Ew T q b env σ | _ => none) := by rw [Ew_eq]; rfl
theorem Ew_block {id a env σ} : Ew T q (.block id a) env σ = (match Ew T q a env σ with
    | some (.exit j, env, σ) => if j = id then some (.normal, env, σ) else some (.exit j, env, σ)
    | r => r) := by rw [Ew_eq]; rfl
theorem Ew_loop {a env σ} : Ew T q (.loop a) env σ = (match Ew T q a env σ with
    | some (.normal, env, σ) => Ew T q (.loop a) env σ
    | r => r) := by rw [Ew_eq]; rfl
theorem Ew_scope {a env σ} : Ew T q (.scope a) env σ = Ew T q a env σ := by rw [Ew_eq]; rfl
theorem Ew_exit {id env σ} : Ew T q (.exit id) env σ = some (.exit id, env, σ) := by rw [Ew_eq]; rfl
theorem Ew_ret {env σ} : Ew T q .ret env σ = some (.ret, env, σ) := by rw [Ew_eq]; rfl
theorem Ew_fail {env σ} : Ew T q .fail env σ = none := by rw [Ew_eq]; rfl
end

theorem eqBytes_refl (a : List Nat) : eqBytes a a = true := eqBytes_eq.2 rfl

mutual
theorem eqA_refl : ∀ v : AVal, eqA v v = true
  | .bool _ | .int _ _ | .nilp | .ptr _ _ | .nils | .slice _ _ _ _ | .nilf | .nili => by simp [eqA]
  | .str s => by simp only [eqA]; exact eqBytes_refl s
  | .agg xs => by simp only [eqA]; exact eqAs_refl xs
  | .tuple xs => by simp only [eqA]; exact eqAs_refl xs
  | .rslice n xs => by simp [eqA, eqAs_refl xs]
  | .rptr xs => by simp only [eqA]; exact eqAs_refl xs
  | .iface t x => by simp [eqA, eqA_refl x]
  | .func f xs ys => by simp [eqA, eqAs_refl xs, eqAs_refl ys]
theorem eqAs_refl : ∀ l : List AVal, eqAs l l = true
  | [] => rfl
  | x :: xs => by simp [eqAs, eqA_refl x, eqAs_refl xs]
end

theorem eqBytes_dec (a b : List Nat) : eqBytes a b = decide (a = b) := by
  by_cases h : a = b
  · subst h; simp [eqBytes_refl]
  · simp only [h, decide_false]
    cases h2 : eqBytes a b with
    | false => rfl
    | true => exact absurd (eqBytes_eq.1 h2) h

/-- What was there stays. -/
structure Fr (σ σ' : St) : Prop where
  next : σ.next ≤ σ'.next
  get : ∀ b, b < σ.next → σ'.get b = σ.get b
theorem Fr.refl (σ : St) : Fr σ σ := ⟨Nat.le_refl _, fun _ _ => rfl⟩
theorem Fr.trans {a b c : St} (h : Fr a b) (h' : Fr b c) : Fr a c :=
  ⟨Nat.le_trans h.next h'.next, fun k hk => by rw [h'.get k (Nat.lt_of_lt_of_le hk h.next), h.get k hk]⟩
theorem Fr.new (σ : St) (o : AObj) : Fr σ (σ.new o) := ⟨Nat.le_succ _, fun b hb => St.get_new_other _ _ (Nat.ne_of_lt hb)⟩
theorem Fr.put {σ σ' : St} {b : Nat} (h : Fr σ σ') (hb : σ.next ≤ b) (o : AObj) : Fr σ (σ'.put b o) :=
  ⟨h.next, fun k hk => by rw [St.get_put_other _ _ (by omega), h.get k hk]⟩
theorem Fr.kill {σ σ' : St} {b : Nat} (h : Fr σ σ') (hb : σ.next ≤ b) : Fr σ (σ'.kill b) :=
  ⟨h.next, fun k hk => by rw [St.get_kill_other _ (by omega), h.get k hk]⟩
theorem St.new_next (σ : St) (o : AObj) : (σ.new o).next = σ.next + 1 := rfl
theorem St.put_next (σ : St) (b : Nat) (o : AObj) : (σ.put b o).next = σ.next := rfl
theorem St.kill_next (σ : St) (b : Nat) : (σ.kill b).next = σ.next := rfl

/-! Calls. -/
theorem envOf_nil (i : Nat) (e : Env) : envOf [] i e = e := rfl
theorem envOf_cons (v : AVal) (vs : List AVal) (i : Nat) (e : Env) : envOf (v :: vs) i e = envOf vs (i + 1) (U e i v) := rfl

/-- What a body's end gives. -/
noncomputable def fin (T : Tab) (rs : List Res) (r : Option (Out × Env × St)) : Option (AVal × St) :=
  match r with
  | some (.normal, env, σ) => (match resV T env σ rs with | some v => some (v, σ) | none => none)
  | some (.ret, env, σ) => (match resV T env σ rs with | some v => some (v, σ) | none => none)
  | _ => none
theorem fin_normal {T : Tab} {rs : List Res} {env : Env} {σ : St} : fin T rs (some (.normal, env, σ)) = (match resV T env σ rs with | some v => some (v, σ) | none => none) := rfl
theorem fin_ret {T : Tab} {rs : List Res} {env : Env} {σ : St} : fin T rs (some (.ret, env, σ)) = (match resV T env σ rs with | some v => some (v, σ) | none => none) := rfl

theorem Cw_of {T : Tab} {f : Nat} {fn : AFunc} (h : T.fn.get (path f) = some fn) (q : Bool) (args : List AVal) (σ : St) (ha : lenL args = fn.arity) :
    Cw T q f args σ = fin T fn.results (Ew T q fn.body (envOf args 0 .emp) σ) := by
  simp only [Cw, callF, h, if_pos ha]
  unfold fin
  cases Ew T q fn.body (envOf args 0 .emp) σ with
  | none => rfl
  | some r =>
    obtain ⟨o, e, s⟩ := r
    cases o <;> rfl

theorem resOne_t {T : Tab} {env : Env} {σ : St} {k : Nat} : resOne T env σ (.tmp (path k)) = some (V env k) := rfl
theorem resV_1 {T : Tab} {env : Env} {σ : St} {k : Nat} : resV T env σ [.tmp (path k)] = some (V env k) := rfl
theorem resV_2 {T : Tab} {env : Env} {σ : St} {j k : Nat} : resV T env σ [.tmp (path j), .tmp (path k)] = some (.tuple [V env j, V env k]) := rfl
theorem resV_3 {T : Tab} {env : Env} {σ : St} {i j k : Nat} : resV T env σ [.tmp (path i), .tmp (path j), .tmp (path k)] = some (.tuple [V env i, V env j, V env k]) := rfl
theorem resV_0 {T : Tab} {env : Env} {σ : St} : resV T env σ [] = some (.tuple []) := rfl

/-! Numbers. -/
theorem wrap_i64 {n : Int} (h0 : -9223372036854775808 ≤ n) (h1 : n < 9223372036854775808) : wrapI .i64 n = n := by
  unfold wrapI modI halfI; simp only; split <;> omega
theorem wrap_u8 {n : Int} (h0 : 0 ≤ n) (h1 : n < 256) : wrapI .u8 n = n := by
  unfold wrapI modI halfI; simp only; split <;> omega
theorem wrap_i32 {n : Int} (h0 : -2147483648 ≤ n) (h1 : n < 2147483648) : wrapI .i32 n = n := by
  unfold wrapI modI halfI; simp only; split <;> omega
theorem wrap_u64 {n : Int} (h0 : 0 ≤ n) (h1 : n < 18446744073709551616) : wrapI .u64 n = n := by
  unfold wrapI modI halfI; simp only; split <;> omega

theorem ia_add {k x y} : intArith .add k x y = some (.int k (wrapI k (x + y))) := rfl
theorem ia_sub {k x y} : intArith .sub k x y = some (.int k (wrapI k (x - y))) := rfl
theorem ia_mul {k x y} : intArith .mul k x y = some (.int k (wrapI k (x * y))) := rfl
theorem ia_quo {k x y} : intArith .quo k x y = if y = 0 then none else some (.int k (wrapI k (x.tdiv y))) := rfl
theorem ia_rem {k x y} : intArith .rem k x y = if y = 0 then none else some (.int k (x.tmod y)) := rfl
theorem ia_eql {k x y} : intArith .eql k x y = some (.bool (x == y)) := rfl
theorem ia_neq {k x y} : intArith .neq k x y = some (.bool (x != y)) := rfl
theorem ia_lss {k x y} : intArith .lss k x y = some (.bool (decide (x < y))) := rfl
theorem ia_leq {k x y} : intArith .leq k x y = some (.bool (decide (x ≤ y))) := rfl
theorem ia_gtr {k x y} : intArith .gtr k x y = some (.bool (decide (y < x))) := rfl
theorem ia_geq {k x y} : intArith .geq k x y = some (.bool (decide (y ≤ x))) := rfl
theorem int_beq (x y : Int) : (x == y) = decide (x = y) := by by_cases h : x = y <;> simp [h]
theorem int_bne (x y : Int) : (x != y) = !decide (x = y) := by by_cases h : x = y <;> simp [h]

theorem dropX_get {α : Type} {l : List α} {n : Nat} (h : n < l.length) : dropX n l = some (l[n] :: l.drop (n + 1)) := by
  rw [dropX_eq.2 ⟨Nat.le_of_lt h, rfl⟩, List.drop_eq_getElem_cons h]

/-! Regions that draw their order. -/
section
variable {T : Tab} {cf : CF} {q : Bool}
theorem draw_nil {k old fl env σ} : drawOps T cf q [] k old fl env σ = some (env, σ) := rfl
theorem draw_pure {d op g ops k old fl env σ} : drawOps T cf q (⟨d, op, g, .pure⟩ :: ops) k old fl env σ =
    (match wantedA ⟨d, op, g, .pure⟩ env with
      | true => (match stepOp T cf true op env σ with | some r => drawOps T cf q ops k old fl (setDst ⟨d, op, g, .pure⟩ r.1 env) σ | none => none)
      | false => drawOps T cf q ops k old fl (setDst ⟨d, op, g, .pure⟩ undefA env) σ) := by simp only [drawOps, setDstK_eq]; rfl
theorem draw_read {d op g ops k lo hi old fl env σ} : drawOps T cf q (⟨d, op, g, .read lo hi⟩ :: ops) k old fl env σ =
    (match wantedA ⟨d, op, g, .read lo hi⟩ env with
      | true =>
        (match stepOp T cf true op env σ with
        | some r => if staysAll T cf op env r.1 (k - lo) old then drawOps T cf q ops k old (if k < hi then ⟨hi, op, env, r.1⟩ :: fl else fl) (setDst ⟨d, op, g, .read lo hi⟩ r.1 env) σ else none
        | none => none)
      | false => drawOps T cf q ops k old fl (setDst ⟨d, op, g, .read lo hi⟩ undefA env) σ) := by simp only [drawOps, setDstK_eq]; rfl
theorem draw_eff {d op g ops k old fl env σ} : drawOps T cf q (⟨d, op, g, .eff⟩ :: ops) k old fl env σ =
    (match wantedA ⟨d, op, g, .eff⟩ env with
      | true =>
        (match stepOp T cf q op env σ with
        | some r => if fltsStay T cf (k + 1) r.2 fl then drawOps T cf q ops (k + 1) (σ :: old) fl (setDst ⟨d, op, g, .eff⟩ r.1 env) r.2 else none
        | none => none)
      | false => drawOps T cf q ops (k + 1) (σ :: old) fl (setDst ⟨d, op, g, .eff⟩ undefA env) σ) := by simp only [drawOps, setDstK_eq]; rfl
theorem stays_0 {op env v l} : staysAll T cf op env v 0 l = true := by cases l <;> rfl
theorem flts_nil {k σ} : fltsStay T cf k σ [] = true := rfl
end

/-- Where a run of code leads. -/
noncomputable def nx (T : Tab) (q : Bool) (c : ACode) (σ : St) (e : Env) : Env := match Ew T q c e σ with | some r => r.2.1 | none => e
noncomputable def nxS (T : Tab) (q : Bool) (c : ACode) (σ : St) (e : Env) : St := match Ew T q c e σ with | some r => r.2.2 | none => σ
end Go.Ab

noncomputable section
namespace Go.Ab
open Go Go.RowKit

/-! Operations without their surroundings. -/
def lenS (v : AVal) : Option AVal := match v with
  | .nils => some (.int .i64 0)
  | .slice _ _ n _ => some (.int .i64 (Int.ofNat n))
  | .rslice n _ => some (.int .i64 (Int.ofNat n))
  | _ => none
def ixS (s : Nat) (v i : AVal) : Option AVal := match v, i with
  | .slice b j n s', .int _ i => if s = s' ∧ 0 ≤ i ∧ i < (n : Int) then some (.ptr b (j + i.toNat * s)) else none
  | .rslice n cs, .int _ i => if 0 ≤ i ∧ i < (n : Int) then (match dropX (i.toNat * s) cs with | some r => some (.rptr r) | none => none) else none
  | _, _ => none
def fldA (off : Nat) (p : AVal) : Option AVal := match p with
  | .ptr b i => some (.ptr b (i + off))
  | .rptr cs => (match dropX off cs with | some r => some (.rptr r) | none => none)
  | _ => none
def cellsAt (σ : St) (p : AVal) : Option (List AVal) := match p with
  | .ptr b i => (match σ.get b with | some (.cells _ _ cs) => dropX i cs | _ => none)
  | .rptr cs => some cs
  | _ => none
def ldA (σ : St) (agg : Option Nat) (p : AVal) : Option AVal := match cellsAt σ p with
  | some l => loadL agg l
  | none => none
def slS (s : Nat) (v : AVal) (lo hi mx : Option AVal) : Option AVal := match v with
  | .nils => (match boundsL 0 0 lo hi mx with | some _ => some .nils | none => none)
  | .slice b i n s' => if s = s' then (match boundsL n n lo hi mx with | some (l, h) => some (.slice b (i + l * s) (h - l) s) | none => none) else none
  | .rslice n cs => (match boundsL n n lo hi mx with
    | some (l, h) => if l = h then some (.rslice 0 []) else (match dropX (l * s) cs with | some r => some (.rslice (h - l) r) | none => none)
    | none => none)
  | _ => none

section
variable {T : Tab} {env : Env} {σ : St}
theorem opLen_s {x : Opd} : opLen T false x env σ = (match lenS (x.ev T env) with | some v => some (v, σ) | none => none) := by
  unfold opLen lenS; cases x.ev T env <;> rfl
theorem opLen_t {x : Opd} : opLen T true x env σ = (match x.ev T env with | .str s => some (.int .i64 (Int.ofNat (lenL s)), σ) | _ => none) := rfl
theorem opIaSl_s {s : Nat} {x i : Opd} : opIaSl T s x i env σ = (match ixS s (x.ev T env) (i.ev T env) with | some v => some (v, σ) | none => none) := by
  unfold opIaSl ixS
  split
  · rename_i h1 h2; simp only [h1, h2]; split <;> rfl
  · rename_i h1 h2; simp only [h1, h2]
    split
    · split <;> rename_i hd <;> simp only [hd]
    · rfl
  · rename_i h1 h2
    split
    · rename_i h; split at h
      · rename_i h3 h4; exact absurd h4 (by intro h5; exact h1 _ _ _ _ _ _ h3 h5)
      · rename_i h3 h4; exact absurd h4 (by intro h5; exact h2 _ _ _ _ h3 h5)
      · simp at h
    · rfl
theorem opFieldAddr_s {off : Nat} {x : Opd} : opFieldAddr T off x env σ = (match fldA off (x.ev T env) with | some v => some (v, σ) | none => none) := by
  unfold opFieldAddr fldA
  cases x.ev T env <;> try rfl
  rename_i cs; simp only; cases dropX off cs <;> rfl
theorem opLoad_s {agg : Option Nat} {x : Opd} : opLoad T agg x env σ = (match ldA σ agg (x.ev T env) with | some v => some (v, σ) | none => none) := by
  unfold opLoad ldA cellsAt
  cases x.ev T env <;> try rfl
  rename_i b i
  simp only
  cases σ.get b with
  | none => rfl
  | some o =>
    cases o with
    | iter p r => rfl
    | cells f e cs =>
      simp only
      cases dropX i cs with
      | none => rfl
      | some l => rfl
theorem opSlSl_s {s : Nat} {x : Opd} {lo hi mx : Option Opd} : opSlSl T s x lo hi mx env σ = (match slS s (x.ev T env) (lo.map (·.ev T env)) (hi.map (·.ev T env)) (mx.map (·.ev T env)) with | some v => some (v, σ) | none => none) := by
  unfold opSlSl slS
  cases x.ev T env <;> try rfl
  · simp only; generalize boundsL _ _ _ _ _ = o; cases o <;> rfl
  · simp only
    split
    · generalize boundsL _ _ _ _ _ = o; cases o <;> rfl
    · rfl
  · rename_i n cs
    simp only
    generalize boundsL _ _ _ _ _ = o
    cases o with
    | none => rfl
    | some lh =>
      obtain ⟨l, h⟩ := lh
      simp only
      split
      · rfl
      · cases dropX (l * s) cs <;> rfl
end

/-! Slices whose cells are known. -/
/-- The block of a slice is old. -/
def lowV (σ : St) (v : AVal) : Prop := match v with
  | .nils => True
  | .slice b _ _ _ => b < σ.next
  | .rslice _ _ => True
  | _ => False

def SlI (σ : St) (s : Nat) (v : AVal) (n : Nat) (cs : List AVal) : Prop := lowV σ v ∧ cellsIn σ s v = some (n, cs)

theorem lowV.mono {σ σ' : St} {v : AVal} (h : lowV σ v) (hf : σ.next ≤ σ'.next) : lowV σ' v := by
  unfold lowV at h ⊢; split <;> simp_all <;> omega
theorem SlI.fr {σ σ' : St} {s n : Nat} {v : AVal} {cs : List AVal} (h : SlI σ s v n cs) (hf : Fr σ σ') : SlI σ' s v n cs := by
  refine ⟨h.1.mono hf.next, ?_⟩
  rw [← h.2]
  have h1 := h.1
  unfold lowV at h1
  unfold cellsIn
  split at h1
  · rfl
  · rename_i b i n s'; simp only; rw [hf.get _ h1]
  · rfl
  · exact absurd h1 id

theorem SlI.one {σ : St} {s n : Nat} {v : AVal} {cs : List AVal} (h : SlI σ s v n cs) : v.one = true := by
  have h1 := h.1; unfold lowV at h1; split at h1
  · rfl
  · rfl
  · rfl
  · exact absurd h1 id

theorem SlI.len {σ : St} {s n : Nat} {v : AVal} {cs : List AVal} (h : SlI σ s v n cs) : lenS v = some (.int .i64 (n : Int)) := by
  obtain ⟨h1, h2⟩ := h
  unfold lowV at h1
  split at h1
  · simp only [cellsIn] at h2; cases h2; rfl
  · rename_i b i m s'
    simp only [cellsIn] at h2
    split at h2
    · split at h2
      · split at h2
        · cases h2; rfl
        · simp at h2
      · simp at h2
    · simp at h2
  · rename_i m l
    simp only [cellsIn] at h2
    split at h2
    · cases h2; rfl
    · simp at h2
  · exact absurd h1 id

/-- The address of an element. -/
def ixp (s : Nat) (v : AVal) (i : Nat) : AVal := match v with
  | .slice b j _ _ => .ptr b (j + i * s)
  | .rslice _ cs => .rptr (cs.drop (i * s))
  | _ => undefA
def fp (off : Nat) (p : AVal) : AVal := match p with
  | .ptr b i => .ptr b (i + off)
  | .rptr cs => .rptr (cs.drop off)
  | _ => undefA

/-- At an address stand these cells (and maybe others behind). -/
def AtC (σ : St) (p : AVal) (cs : List AVal) : Prop := ∃ l, cellsAt σ p = some l ∧ cs <+: l

theorem SlI.cs_len {σ : St} {s n : Nat} {v : AVal} {cs : List AVal} (h : SlI σ s v n cs) : cs.length = n * s := by
  obtain ⟨h1, h2⟩ := h
  unfold lowV at h1
  split at h1
  · simp only [cellsIn] at h2; cases h2; simp
  · rename_i b i m s'
    simp only [cellsIn] at h2
    split at h2
    · split at h2
      · split at h2
        · rename_i hs; cases h2; obtain ⟨ha, hb⟩ := sub_eq.1 hs; subst hb; simp; omega
        · simp at h2
      · simp at h2
    · simp at h2
  · rename_i m l
    simp only [cellsIn] at h2
    split at h2
    · rename_i ht; cases h2; obtain ⟨ha, hb⟩ := takeX_eq.1 ht; subst hb; simp; omega
    · simp at h2
  · exact absurd h1 id

theorem SlI.ix {σ : St} {s n : Nat} {v : AVal} {cs : List AVal} (h : SlI σ s v n cs) {i : Nat} (hi : i < n) {k : IntKind} : ixS s v (.int k (i : Int)) = some (ixp s v i) ∧ AtC σ (ixp s v i) (cs.drop (i * s)) := by
  have hl := h.cs_len
  have his : i * s ≤ n * s := Nat.mul_le_mul_right s (Nat.le_of_lt hi)
  obtain ⟨h1, h2⟩ := h
  unfold lowV at h1
  split at h1
  · simp only [cellsIn] at h2; cases h2; omega
  · rename_i b j m s'
    simp only [cellsIn] at h2
    split at h2
    · rename_i e; subst e
      split at h2
      · rename_i f e l hg
        split at h2
        · rename_i l' hs
          cases h2
          obtain ⟨ha, hb⟩ := sub_eq.1 hs
          refine ⟨?_, ?_⟩
          · simp only [ixS, ixp, Int.toNat_natCast]
            rw [if_pos ⟨trivial, by omega, by omega⟩]
          · refine ⟨l.drop (j + i * s), ?_, ?_⟩
            · simp only [ixp, cellsAt, hg]
              exact dropX_eq.2 ⟨by omega, rfl⟩
            · subst hb
              rw [List.drop_take, List.drop_drop]
              exact List.take_prefix _ _
        · simp at h2
      · simp at h2
    · simp at h2
  · rename_i m l
    simp only [cellsIn] at h2
    split at h2
    · rename_i l' ht
      cases h2
      obtain ⟨ha, hb⟩ := takeX_eq.1 ht
      refine ⟨?_, ?_⟩
      · simp only [ixS, ixp]
        rw [if_pos ⟨by omega, by omega⟩]
        simp only [Int.toNat_natCast]
        rw [dropX_eq.2 ⟨by omega, rfl⟩]
      · refine ⟨l.drop (i * s), rfl, ?_⟩
        subst hb
        rw [List.drop_take]
        exact List.take_prefix _ _
    · simp at h2
  · exact absurd h1 id

theorem SlI.ix_low {σ : St} {s n : Nat} {v : AVal} {cs : List AVal} (h : SlI σ s v n cs) {i b j : Nat} (hp : ixp s v i = .ptr b j) : b < σ.next := by
  have h1 := h.1
  unfold lowV at h1
  split at h1
  · simp [ixp, undefA] at hp
  · simp only [ixp, AVal.ptr.injEq] at hp; omega
  · simp [ixp] at hp
  · exact absurd h1 id

theorem dropX_1 {α : Type} {a : α} {l : List α} : dropX 1 (a :: l) = some l := rfl
theorem dropX_2 {α : Type} {a b : α} {l : List α} : dropX 2 (a :: b :: l) = some l := rfl
theorem dropX_3 {α : Type} {a b c : α} {l : List α} : dropX 3 (a :: b :: c :: l) = some l := rfl
theorem dropX_4 {α : Type} {a b c d : α} {l : List α} : dropX 4 (a :: b :: c :: d :: l) = some l := rfl
theorem dropX_5 {α : Type} {a b c d e : α} {l : List α} : dropX 5 (a :: b :: c :: d :: e :: l) = some l := rfl

theorem AtC.fld {σ : St} {p : AVal} {cs : List AVal} (h : AtC σ p cs) {off : Nat} (ho : off ≤ cs.length) : fldA off p = some (fp off p) ∧ AtC σ (fp off p) (cs.drop off) := by
  obtain ⟨l, hl, hp⟩ := h
  have hll := hp.length_le
  have hpd : cs.drop off <+: l.drop off := by
    obtain ⟨r, rfl⟩ := hp
    exact ⟨r, (List.drop_append_of_le_length ho).symm⟩
  unfold cellsAt at hl
  split at hl
  · rename_i b i
    split at hl
    · rename_i f e cs' hg
      refine ⟨rfl, l.drop off, ?_, hpd⟩
      simp only [fp, cellsAt, hg]
      obtain ⟨h1, h2⟩ := dropX_eq.1 hl
      subst h2
      rw [List.drop_drop]
      simp only [List.length_drop] at hll
      exact dropX_eq.2 ⟨by omega, rfl⟩
    · simp at hl
  · rename_i cs'
    cases hl
    refine ⟨?_, _, rfl, hpd⟩
    simp only [fldA, fp]
    rw [dropX_eq.2 ⟨by omega, rfl⟩]
  · simp at hl

theorem AtC.ld {σ : St} {p c : AVal} {cs : List AVal} (h : AtC σ p (c :: cs)) : ldA σ none p = some c := by
  obtain ⟨l, hl, hp⟩ := h
  obtain ⟨r, rfl⟩ := hp
  simp only [ldA, hl]; rfl
theorem AtC.lds {σ : St} {p : AVal} {cs : List AVal} (h : AtC σ p cs) {n : Nat} (hn : n ≤ cs.length) : ldA σ (some n) p = some (.agg (cs.take n)) := by
  obtain ⟨l, hl, hp⟩ := h
  obtain ⟨r, rfl⟩ := hp
  simp only [ldA, hl, loadL]
  rw [takeX_eq.2 ⟨by simp; omega, rfl⟩]
  simp only [List.take_append_of_le_length hn]

/-- Numbers. -/
def IntsI (σ : St) (v : AVal) (l : List Int) : Prop := SlI σ 1 v l.length (l.map (AVal.int .i64))
theorem IntsI.fr {σ σ' : St} {v : AVal} {l : List Int} (h : IntsI σ v l) (hf : Fr σ σ') : IntsI σ' v l := SlI.fr h hf
theorem IntsI.get {σ : St} {v : AVal} {l : List Int} (h : IntsI σ v l) {i : Nat} (hi : i < l.length) {k : IntKind} : ixS 1 v (.int k (i : Int)) = some (ixp 1 v i) ∧ ldA σ none (ixp 1 v i) = some (.int .i64 l[i]) := by
  obtain ⟨h1, h2⟩ := SlI.ix h hi (k := k)
  refine ⟨h1, ?_⟩
  have : (l.map (AVal.int .i64)).drop (i * 1) = .int .i64 l[i] :: (l.map (AVal.int .i64)).drop (i + 1) := by
    rw [Nat.mul_one, List.drop_eq_getElem_cons (by simpa using hi)]; simp
  rw [this] at h2
  exact h2.ld

/-- Attributes. -/
abbrev AttrD := List Nat × List Nat
def attrCells (a : AttrD) : List AVal := [.str a.1, .str a.2]
def AttrsI (σ : St) (v : AVal) (l : List AttrD) : Prop := SlI σ 2 v l.length (l.flatMap attrCells)
theorem AttrsI.fr {σ σ' : St} {v : AVal} {l : List AttrD} (h : AttrsI σ v l) (hf : Fr σ σ') : AttrsI σ' v l := SlI.fr h hf

theorem drop_flatMap {α β : Type} {f : α → List β} {s : Nat} (hf : ∀ a, (f a).length = s) : ∀ (l : List α) (i : Nat), (l.flatMap f).drop (i * s) = (l.drop i).flatMap f
  | [], i => by simp
  | a :: l, 0 => by simp
  | a :: l, i + 1 => by
    rw [List.flatMap_cons, List.drop_succ_cons, ← drop_flatMap hf l i, Nat.succ_mul]
    rw [show i * s + s = (f a).length + i * s by rw [hf]; omega]
    exact List.drop_length_add_append _

structure AttrAt (σ : St) (p : AVal) (a : AttrD) : Prop where
  ld : ldA σ (some 2) p = some (.agg [.str a.1, .str a.2])
  f0 : fldA 0 p = some (fp 0 p)
  f1 : fldA 1 p = some (fp 1 p)
  l0 : ldA σ none (fp 0 p) = some (.str a.1)
  l1 : ldA σ none (fp 1 p) = some (.str a.2)

theorem AttrsI.get {σ : St} {v : AVal} {l : List AttrD} (h : AttrsI σ v l) {i : Nat} (hi : i < l.length) {k : IntKind} : ixS 2 v (.int k (i : Int)) = some (ixp 2 v i) ∧ AttrAt σ (ixp 2 v i) l[i] := by
  obtain ⟨h1, h2⟩ := SlI.ix h hi (k := k)
  refine ⟨h1, ?_⟩
  rw [drop_flatMap (f := attrCells) (s := 2) (fun a => rfl), List.drop_eq_getElem_cons hi, List.flatMap_cons] at h2
  have e : attrCells l[i] ++ (l.drop (i + 1)).flatMap attrCells = .str l[i].1 :: .str l[i].2 :: (l.drop (i + 1)).flatMap attrCells := rfl
  rw [e] at h2
  have g0 := h2.fld (off := 0) (by simp)
  have g1 := h2.fld (off := 1) (by simp)
  exact ⟨h2.lds (by simp), g0.1, g1.1, g0.2.ld, g1.2.ld⟩

/-- A node. -/
structure ND where
  kind : Nat
  name : List Nat
  attrs : List AttrD
  data : List Nat
  up : Int
  kids : List Int

/-- A node's cells. -/
def NodeC (σ : St) (n : ND) (av kv : AVal) (cs : List AVal) : Prop :=
  cs = [.int .u8 (n.kind : Int), .str n.name, av, .str n.data, .int .i64 n.up, kv] ∧ AttrsI σ av n.attrs ∧ IntsI σ kv n.kids

inductive NodesC (σ : St) : List ND → List AVal → Prop where
  | nil : NodesC σ [] []
  | cons {n t av kv cs ds} (h : NodeC σ n av kv cs) (ht : NodesC σ t ds) : NodesC σ (n :: t) (cs ++ ds)

def TreeI (σ : St) (v : AVal) (t : List ND) : Prop := ∃ cs, SlI σ 6 v t.length cs ∧ NodesC σ t cs

theorem NodeC.fr {σ σ' : St} {n : ND} {av kv : AVal} {cs : List AVal} (h : NodeC σ n av kv cs) (hf : Fr σ σ') : NodeC σ' n av kv cs := ⟨h.1, h.2.1.fr hf, h.2.2.fr hf⟩
theorem NodesC.fr {σ σ' : St} {t : List ND} {cs : List AVal} (h : NodesC σ t cs) (hf : Fr σ σ') : NodesC σ' t cs := by
  induction h with
  | nil => exact .nil
  | cons h _ ih => exact .cons (h.fr hf) ih
theorem TreeI.fr {σ σ' : St} {v : AVal} {t : List ND} (h : TreeI σ v t) (hf : Fr σ σ') : TreeI σ' v t := by
  obtain ⟨cs, h1, h2⟩ := h
  exact ⟨cs, h1.fr hf, h2.fr hf⟩
theorem TreeI.len {σ : St} {v : AVal} {t : List ND} (h : TreeI σ v t) : lenS v = some (.int .i64 (t.length : Int)) := by
  obtain ⟨cs, h1, _⟩ := h; exact h1.len
theorem TreeI.one {σ : St} {v : AVal} {t : List ND} (h : TreeI σ v t) : v.one = true := by
  obtain ⟨cs, h1, _⟩ := h; exact h1.one

theorem NodesC.drop {σ : St} : ∀ {t : List ND} {cs : List AVal}, NodesC σ t cs → ∀ {i : Nat} (hi : i < t.length), ∃ av kv ds, NodeC σ t[i] av kv ((cs.drop (i * 6)).take 6) ∧ cs.drop (i * 6) = (cs.drop (i * 6)).take 6 ++ ds ∧ NodesC σ (t.drop (i + 1)) ds
  | _, _, .nil, i, hi => by simp at hi
  | _, _, .cons (n := n) (t := t) (av := av) (kv := kv) (cs := cs) (ds := ds) h ht, 0, _ => by
    have hl : cs.length = 6 := by rw [h.1]; rfl
    refine ⟨av, kv, ds, ?_, ?_, ?_⟩
    · simp only [Nat.zero_mul, List.drop_zero]
      rw [← hl, List.take_left']
      · exact h
      · rfl
    · simp only [Nat.zero_mul, List.drop_zero]
      rw [← hl, List.take_left' rfl]
    · simpa using ht
  | _, _, .cons (n := n) (t := t) (av := av) (kv := kv) (cs := cs) (ds := ds) h ht, i + 1, hi => by
    have hl : cs.length = 6 := by rw [h.1]; rfl
    have e : (cs ++ ds).drop ((i + 1) * 6) = ds.drop (i * 6) := by
      rw [Nat.succ_mul, show i * 6 + 6 = cs.length + i * 6 by omega]
      exact List.drop_length_add_append _
    obtain ⟨a, b, c, h1, h2, h3⟩ := NodesC.drop ht (i := i) (by simpa using hi)
    refine ⟨a, b, c, ?_, ?_, ?_⟩
    · rw [e]; exact h1
    · rw [e]; exact h2
    · exact h3

structure NodeAt (σ : St) (p : AVal) (n : ND) (av kv : AVal) : Prop where
  ld : ldA σ (some 6) p = some (.agg [.int .u8 (n.kind : Int), .str n.name, av, .str n.data, .int .i64 n.up, kv])
  f0 : fldA 0 p = some (fp 0 p)
  f1 : fldA 1 p = some (fp 1 p)
  f2 : fldA 2 p = some (fp 2 p)
  f3 : fldA 3 p = some (fp 3 p)
  f4 : fldA 4 p = some (fp 4 p)
  f5 : fldA 5 p = some (fp 5 p)
  l0 : ldA σ none (fp 0 p) = some (.int .u8 (n.kind : Int))
  l1 : ldA σ none (fp 1 p) = some (.str n.name)
  l2 : ldA σ none (fp 2 p) = some av
  l3 : ldA σ none (fp 3 p) = some (.str n.data)
  l4 : ldA σ none (fp 4 p) = some (.int .i64 n.up)
  l5 : ldA σ none (fp 5 p) = some kv
  attrs : AttrsI σ av n.attrs
  kids : IntsI σ kv n.kids

theorem TreeI.get {σ : St} {v : AVal} {t : List ND} (h : TreeI σ v t) {i : Nat} (hi : i < t.length) : ∃ av kv, (∀ k, ixS 6 v (.int k (i : Int)) = some (ixp 6 v i)) ∧ NodeAt σ (ixp 6 v i) t[i] av kv := by
  obtain ⟨cs, h1, h2⟩ := h
  obtain ⟨av, kv, ds, h3, h4, -⟩ := h2.drop hi
  have h6 := (h1.ix hi (k := .i64)).2
  rw [h4, h3.1] at h6
  refine ⟨av, kv, fun k => (h1.ix hi).1, ?_⟩
  have g0 := h6.fld (off := 0) (by simp)
  have g1 := h6.fld (off := 1) (by simp)
  have g2 := h6.fld (off := 2) (by simp)
  have g3 := h6.fld (off := 3) (by simp)
  have g4 := h6.fld (off := 4) (by simp)
  have g5 := h6.fld (off := 5) (by simp)
  exact ⟨h6.lds (by simp), g0.1, g1.1, g2.1, g3.1, g4.1, g5.1, g0.2.ld, g1.2.ld, g2.2.ld, g3.2.ld, g4.2.ld, g5.2.ld, h3.2.1, h3.2.2⟩
end Go.Ab
end

namespace Go.Ab
open Go
noncomputable section
abbrev vI (n : Int) : AVal := .int .i64 n
abbrev vU (n : Int) : AVal := .int .u8 n
abbrev vQ (n : Int) : AVal := .int .i32 n
def oT (x : Nat) : Opd := .t (path x)
def oO (d : Nat) (op : AOp) : AOper := ⟨some (path d), op, none, .pure⟩
def oZ (op : AOp) : AOper := ⟨none, op, none, .pure⟩
def oM (d x : Nat) : AOper := ⟨some (path d), .mov (.t (path x)), none, .pure⟩
def oC (d : Nat) (v : AVal) : AOper := ⟨some (path d), .mov (.c v), none, .pure⟩
def oF (d f x : Nat) : AOper := ⟨some (path d), .fieldAddr f (.t (path x)), none, .pure⟩
def oL (d x : Nat) : AOper := ⟨some (path d), .load none (.t (path x)), none, .pure⟩
def oI (d s x i : Nat) : AOper := ⟨some (path d), .iaSl s (.t (path x)) (.t (path i)), none, .pure⟩
def oN (d x : Nat) : AOper := ⟨some (path d), .len false (.t (path x)), none, .pure⟩
def oK (d x : Nat) : AOper := ⟨some (path d), .len true (.t (path x)), none, .pure⟩
def oA (op : BinOp) (d x y : Nat) : AOper := ⟨some (path d), .arith op (.t (path x)) (.t (path y)), none, .pure⟩
def oB (op : BinOp) (d x : Nat) (v : AVal) : AOper := ⟨some (path d), .arith op (.t (path x)) (.c v), none, .pure⟩
def oPa (d c a : Nat) : AOper := ⟨some (path d), .pick (.t (path c)) (.t (path a)) (.c (.bool false)), none, .pure⟩
def oPo (d c b : Nat) : AOper := ⟨some (path d), .pick (.t (path c)) (.c (.bool true)) (.t (path b)), none, .pure⟩
def oX (d x i : Nat) : AOper := ⟨some (path d), .extract (.t (path x)) i, none, .pure⟩
def oH (d x : Nat) : AOper := ⟨some (path d), .nilCheck (.t (path x)), none, .pure⟩
def oY (d x i : Nat) : AOper := ⟨some (path d), .ixStr (.t (path x)) (.t (path i)), none, .pure⟩
def oTs : List Nat → List Opd
  | [] => []
  | x :: l => .t (path x) :: oTs l
def oU (d f : Nat) (l : List Nat) : AOper := ⟨some (path d), .call f (oTs l), none, .pure⟩
def oW (op : BinOp) (d x : Nat) (s : List Nat) : AOper := ⟨some (path d), .strop op (.t (path x)) (.c (.str s)), none, .pure⟩
def oJ (d : Nat) (a b c : Int) : AOper := ⟨some (path d), .build [.int .i32 0, .int .i32 0, .int .u8 0] [(0, 1, .c (.int .i32 a)), (1, 1, .c (.int .i32 b)), (2, 1, .c (.int .u8 c))], none, .pure⟩
def oS (n x v : Nat) : AOper := ⟨none, .store n (.t (path x)) (.t (path v)), none, .pure⟩
def gT (g : Nat) (o : AOper) : AOper := ⟨o.dst, o.op, some (path g, true), o.dk⟩
def gF (g : Nat) (o : AOper) : AOper := ⟨o.dst, o.op, some (path g, false), o.dk⟩
def eF (o : AOper) : AOper := ⟨o.dst, o.op, o.guard, .eff⟩
def rD (o : AOper) : AOper := ⟨o.dst, o.op, o.guard, .read 0 0⟩
def rE (lo hi : Nat) (o : AOper) : AOper := ⟨o.dst, o.op, o.guard, .read lo hi⟩
def rG (l : List AOper) : ACode := .region false l
def rS (l : List AOper) (c : ACode) : ACode := .seq (.region false l) c
def cN (c : Nat) (a b : ACode) : ACode := .cond (.t (path c)) a b
def rows {α : Type} : Nat → List α → List α
  | 0, _ => []
  | n + 1, z => z ++ rows n z
theorem oTs_nil : oTs [] = [] := rfl
theorem oTs_cons {x : Nat} {l : List Nat} : oTs (x :: l) = .t (path x) :: oTs l := rfl
theorem gT_eq {g : Nat} {d : Option (List Bool)} {op : AOp} {h : Option (List Bool × Bool)} {dk : DK} : gT g ⟨d, op, h, dk⟩ = ⟨d, op, some (path g, true), dk⟩ := rfl
theorem gF_eq {g : Nat} {d : Option (List Bool)} {op : AOp} {h : Option (List Bool × Bool)} {dk : DK} : gF g ⟨d, op, h, dk⟩ = ⟨d, op, some (path g, false), dk⟩ := rfl
theorem eF_eq {d : Option (List Bool)} {op : AOp} {h : Option (List Bool × Bool)} {dk : DK} : eF ⟨d, op, h, dk⟩ = ⟨d, op, h, .eff⟩ := rfl
theorem rD_eq {d : Option (List Bool)} {op : AOp} {h : Option (List Bool × Bool)} {dk : DK} : rD ⟨d, op, h, dk⟩ = ⟨d, op, h, .read 0 0⟩ := rfl
theorem rE_eq {lo hi : Nat} {d : Option (List Bool)} {op : AOp} {h : Option (List Bool × Bool)} {dk : DK} : rE lo hi ⟨d, op, h, dk⟩ = ⟨d, op, h, .read lo hi⟩ := rfl
theorem sK : type_of% (And.intro @oT.eq_1 (And.intro @oO.eq_1 (And.intro @oZ.eq_1 (And.intro @oM.eq_1 (And.intro @oC.eq_1 (And.intro @oF.eq_1 (And.intro @oL.eq_1 (And.intro @oI.eq_1 (And.intro @oN.eq_1 (And.intro @oK.eq_1 (And.intro @oA.eq_1 (And.intro @oB.eq_1 (And.intro @oPa.eq_1 (And.intro @oPo.eq_1 (And.intro @oX.eq_1 (And.intro @oH.eq_1 (And.intro @oY.eq_1 (And.intro @oTs_nil (And.intro @oTs_cons (And.intro @oU.eq_1 (And.intro @oW.eq_1 (And.intro @oJ.eq_1 (And.intro @oS.eq_1 (And.intro @gT_eq (And.intro @gF_eq (And.intro @eF_eq (And.intro @rD_eq (And.intro @rE_eq (And.intro @rG.eq_1 (And.intro @rS.eq_1 (@cN.eq_1))))))))))))))))))))))))))))))) := And.intro @oT.eq_1 (And.intro @oO.eq_1 (And.intro @oZ.eq_1 (And.intro @oM.eq_1 (And.intro @oC.eq_1 (And.intro @oF.eq_1 (And.intro @oL.eq_1 (And.intro @oI.eq_1 (And.intro @oN.eq_1 (And.intro @oK.eq_1 (And.intro @oA.eq_1 (And.intro @oB.eq_1 (And.intro @oPa.eq_1 (And.intro @oPo.eq_1 (And.intro @oX.eq_1 (And.intro @oH.eq_1 (And.intro @oY.eq_1 (And.intro @oTs_nil (And.intro @oTs_cons (And.intro @oU.eq_1 (And.intro @oW.eq_1 (And.intro @oJ.eq_1 (And.intro @oS.eq_1 (And.intro @gT_eq (And.intro @gF_eq (And.intro @eF_eq (And.intro @rD_eq (And.intro @rE_eq (And.intro @rG.eq_1 (And.intro @rS.eq_1 (@cN.eq_1))))))))))))))))))))))))))))))
end
end Go.Ab
