/- The abstract machine, part 36: runs and what they end in, walked by simp: one rule for each form of code, stuck places under names of their own. -/
import Derived.Test.YthbanbnmomcohaaGreatDoorM18
set_option linter.all false
set_option linter.unusedSimpArgs false
noncomputable section
namespace Go.Ab
open Go

abbrev Post := Out → Env → St → Prop
/-- A run of code ends so. -/
def W (T : Tab) (q : Bool) (c : ACode) (env : Env) (σ : St) (Q : Post) : Prop := match Ew T q c env σ with | some (o, e, s) => Q o e s | none => False
def SeqK (T : Tab) (q : Bool) (b : ACode) (Q : Post) : Post := fun o e s => match o with | .normal => W T q b e s Q | o => Q o e s
def BlockK (id : Nat) (Q : Post) : Post := fun o e s => match o with | .exit j => if j = id then Q .normal e s else Q (.exit j) e s | o => Q o e s
/-- An operation's result, handed on. -/
def Bd (r : Option (AVal × St)) (K : AVal → St → Prop) : Prop := match r with | some (v, s) => K v s | none => False
def setD (d : Option (List Bool)) (v : AVal) (env : Env) : Env := match d with | some p => env.set p (some v) | none => env
def R (T : Tab) (q : Bool) (ops : List AOper) (env : Env) (σ : St) (Q : Post) : Prop := match runOps T (Cw T) q ops env σ with | some (e, s) => Q .normal e s | none => False
def RK (T : Tab) (q : Bool) (d : Option (List Bool)) (ops : List AOper) (env : Env) (Q : Post) : AVal → St → Prop := fun v s => R T q ops (setD d v env) s Q
/-- A choice. -/
def Br (P : Prop) (A B : Unit → Prop) : Prop := (P → A ()) ∧ (¬ P → B ())
def BrB (b : Bool) (A B : Unit → Prop) : Prop := (b = true → A ()) ∧ (b = false → B ())
/-- A value that is there if a condition holds. -/
def gv (g : Bool) (v : AVal) : AVal := if g = true then v else undefA
def gB (v : AVal) (w : Bool) : Bool := match v with | .bool b => b == w | _ => false
def pk (x : Bool) (a b : AVal) : AVal := if x = true then a else b
def StepIs (r : Option (AVal × St)) (v : AVal) (s : St) : Prop := r = some (v, s)
def RG (g : Bool) (T : Tab) (q : Bool) (d : Option (List Bool)) (op : AOp) (dk : DK) (ops : List AOper) (env : Env) (σ : St) (Q : Post) : Prop := if g = true then R T q (⟨d, op, none, dk⟩ :: ops) env σ Q else R T q ops (setD d undefA env) σ Q
def Cd (v : AVal) (A B : Unit → Prop) : Prop := match v with | .bool b => BrB b A B | _ => False
def WT (T : Tab) (q : Bool) (c : ACode) (env : Env) (σ : St) (Q : Post) : Unit → Prop := fun _ => W T q c env σ Q
def D (T : Tab) (q : Bool) (ops : List AOper) (k : Nat) (old : List St) (fl : List Flt) (env : Env) (σ : St) (Q : Post) : Prop := match drawOps T (Cw T) q ops k old fl env σ with | some (e, s) => Q .normal e s | none => False
def DPK (T : Tab) (q : Bool) (d : Option (List Bool)) (ops : List AOper) (k : Nat) (old : List St) (fl : List Flt) (env : Env) (σ : St) (Q : Post) : AVal → St → Prop := fun v _ => D T q ops k old fl (setD d v env) σ Q
def DRK (T : Tab) (q : Bool) (d : Option (List Bool)) (op : AOp) (lo hi : Nat) (ops : List AOper) (k : Nat) (old : List St) (fl : List Flt) (env : Env) (σ : St) (Q : Post) : AVal → St → Prop := fun v _ =>
  staysAll T (Cw T) op env v (k - lo) old = true ∧ D T q ops k old (if k < hi then ⟨hi, op, env, v⟩ :: fl else fl) (setD d v env) σ Q
def DEK (T : Tab) (q : Bool) (d : Option (List Bool)) (ops : List AOper) (k : Nat) (old : List St) (fl : List Flt) (env : Env) (σ : St) (Q : Post) : AVal → St → Prop := fun v s =>
  fltsStay T (Cw T) (k + 1) s fl = true ∧ D T q ops (k + 1) (σ :: old) fl (setD d v env) s Q
def DF (T : Tab) (q : Bool) (d : Option (List Bool)) (dk : DK) (ops : List AOper) (k : Nat) (old : List St) (fl : List Flt) (env : Env) (σ : St) (Q : Post) : Prop :=
  match dk with
  | .eff => D T q ops (k + 1) (σ :: old) fl (setD d undefA env) σ Q
  | _ => D T q ops k old fl (setD d undefA env) σ Q
def DG (g : Bool) (T : Tab) (q : Bool) (d : Option (List Bool)) (op : AOp) (dk : DK) (ops : List AOper) (k : Nat) (old : List St) (fl : List Flt) (env : Env) (σ : St) (Q : Post) : Prop :=
  if g = true then D T q (⟨d, op, none, dk⟩ :: ops) k old fl env σ Q else DF T q d dk ops k old fl env σ Q
/-- A loop's turn: it ends outside, or the measure falls. -/
def LoopK (I : Nat → Env → St → Prop) (n : Nat) (Q : Post) : Post := fun o e s => match o with | .normal => ∃ m, m < n ∧ I m e s | o => Q o e s
/-- A call ends so. -/
def CW (T : Tab) (q : Bool) (f : Nat) (args : List AVal) (σ : St) (P : AVal → St → Prop) : Prop := match Cw T q f args σ with | some (v, s) => P v s | none => False
def Fb (r : Option AVal) (s : St) (P : AVal → St → Prop) : Prop := match r with | some v => P v s | none => False
def FinK (T : Tab) (rs : List Res) (P : AVal → St → Prop) : Post := fun o e s => match o with | .exit _ => False | _ => Fb (resV T e s rs) s P

section
variable {T : Tab} {q : Bool} {env : Env} {σ : St} {Q : Post}
theorem W_iff {c : ACode} : W T q c env σ Q ↔ ∃ o e s, Ew T q c env σ = some (o, e, s) ∧ Q o e s := by
  unfold W
  cases Ew T q c env σ with
  | none => constructor
            · exact False.elim
            · rintro ⟨_, _, _, h, _⟩; exact absurd h (by simp)
  | some r => obtain ⟨o, e, s⟩ := r
              constructor
              · intro h; exact ⟨o, e, s, rfl, h⟩
              · rintro ⟨_, _, _, h, h2⟩; cases h; exact h2
theorem CW_iff {f : Nat} {args : List AVal} {P : AVal → St → Prop} : CW T q f args σ P ↔ ∃ v s, Cw T q f args σ = some (v, s) ∧ P v s := by
  unfold CW
  cases Cw T q f args σ with
  | none => constructor
            · exact False.elim
            · rintro ⟨_, _, h, _⟩; exact absurd h (by simp)
  | some r => obtain ⟨v, s⟩ := r
              constructor
              · intro h; exact ⟨v, s, rfl, h⟩
              · rintro ⟨_, _, h, h2⟩; cases h; exact h2
theorem W_skip : W T q .skip env σ Q = Q .normal env σ := by unfold W; rw [Ew_skip]
theorem W_exit {id : Nat} : W T q (.exit id) env σ Q = Q (.exit id) env σ := by unfold W; rw [Ew_exit]
theorem W_ret : W T q .ret env σ Q = Q .ret env σ := by unfold W; rw [Ew_ret]
theorem W_scope {a : ACode} : W T q (.scope a) env σ Q = W T q a env σ Q := by unfold W; rw [Ew_scope]
theorem W_seq {a b : ACode} : W T q (.seq a b) env σ Q = W T q a env σ (SeqK T q b Q) := by
  unfold W; rw [Ew_seq]
  cases h : Ew T q a env σ with
  | none => rfl
  | some r => obtain ⟨o, e, s⟩ := r; cases o <;> rfl
theorem W_block {a : ACode} {id : Nat} : W T q (.block id a) env σ Q = W T q a env σ (BlockK id Q) := by
  unfold W; rw [Ew_block]
  cases h : Ew T q a env σ with
  | none => rfl
  | some r =>
    obtain ⟨o, e, s⟩ := r
    cases o with
    | normal => rfl
    | ret => rfl
    | exit j => by_cases hj : j = id <;> simp only [BlockK, hj, if_true, if_false]
theorem SeqK_n {b : ACode} : SeqK T q b Q .normal env σ = W T q b env σ Q := rfl
theorem SeqK_x {b : ACode} {j : Nat} : SeqK T q b Q (.exit j) env σ = Q (.exit j) env σ := rfl
theorem SeqK_r {b : ACode} : SeqK T q b Q .ret env σ = Q .ret env σ := rfl
theorem BlockK_n {id : Nat} : BlockK id Q .normal env σ = Q .normal env σ := rfl
theorem BlockK_x {id j : Nat} : BlockK id Q (.exit j) env σ = if j = id then Q .normal env σ else Q (.exit j) env σ := rfl
theorem BlockK_r {id : Nat} : BlockK id Q .ret env σ = Q .ret env σ := rfl
theorem LoopK_n {I : Nat → Env → St → Prop} {n : Nat} : LoopK I n Q .normal env σ = ∃ m, m < n ∧ I m env σ := rfl
theorem LoopK_x {I : Nat → Env → St → Prop} {n j : Nat} : LoopK I n Q (.exit j) env σ = Q (.exit j) env σ := rfl
theorem LoopK_r {I : Nat → Env → St → Prop} {n : Nat} : LoopK I n Q .ret env σ = Q .ret env σ := rfl
theorem Bd_some {v : AVal} {s : St} {K : AVal → St → Prop} : Bd (some (v, s)) K = K v s := rfl
theorem setD_some {k : Nat} {v : AVal} : setD (some (path k)) v env = U env k v := rfl
theorem setD_none {v : AVal} : setD none v env = env := rfl
theorem setDst_setD (d : Option (List Bool)) (op : AOp) (g : Option (List Bool × Bool)) (dk : DK) (v : AVal) : setDst ⟨d, op, g, dk⟩ v env = setD d v env := by cases d <;> rfl
theorem W_region {ops : List AOper} : W T q (.region false ops) env σ Q = R T q ops env σ Q := by
  unfold W R; rw [Ew_region]
  cases runOps T (Cw T) q ops env σ <;> rfl
theorem R_nil : R T q [] env σ Q = Q .normal env σ := by unfold R; rw [runOps_nil]
theorem R_cons {d : Option (List Bool)} {op : AOp} {dk : DK} {ops : List AOper} : R T q (⟨d, op, none, dk⟩ :: ops) env σ Q = Bd (stepOp T (Cw T) q op env σ) (RK T q d ops env Q) := by
  unfold R Bd; rw [runOps_cons, wanted_none]
  cases h : stepOp T (Cw T) q op env σ with
  | none => rfl
  | some r => obtain ⟨v, s⟩ := r; simp only [RK, R, setDst_setD]
theorem RK_app {d : Option (List Bool)} {ops : List AOper} {v : AVal} {s : St} : RK T q d ops env Q v s = R T q ops (setD d v env) s Q := rfl
theorem R_guard {d : Option (List Bool)} {op : AOp} {k : Nat} {w : Bool} {dk : DK} {ops : List AOper} : R T q (⟨d, op, some (path k, w), dk⟩ :: ops) env σ Q = RG (gB (V env k) w) T q d op dk ops env σ Q := by
  unfold RG R; rw [runOps_cons, wanted_some]
  unfold gB
  rw [runOps_cons, wanted_none]
  cases V env k with
  | bool b => cases b <;> cases w <;> simp [setDst_setD]
  | _ => simp [setDst_setD]
theorem RG_t {d : Option (List Bool)} {op : AOp} {dk : DK} {ops : List AOper} : RG true T q d op dk ops env σ Q = R T q (⟨d, op, none, dk⟩ :: ops) env σ Q := rfl
theorem RG_f {d : Option (List Bool)} {op : AOp} {dk : DK} {ops : List AOper} : RG false T q d op dk ops env σ Q = R T q ops (setD d undefA env) σ Q := rfl
theorem RG_split {g : Bool} {d : Option (List Bool)} {op : AOp} {dk : DK} {ops : List AOper} (h1 : g = true → R T q (⟨d, op, none, dk⟩ :: ops) env σ Q) (h2 : g = false → R T q ops (setD d undefA env) σ Q) : RG g T q d op dk ops env σ Q := by
  cases g
  · exact h2 rfl
  · exact h1 rfl
theorem RG_step {g : Bool} {d : Option (List Bool)} {op : AOp} {dk : DK} {ops : List AOper} {v : AVal} (h : g = true → StepIs (stepOp T (Cw T) q op env σ) v σ) (h2 : R T q ops (setD d (gv g v) env) σ Q) : RG g T q d op dk ops env σ Q := by
  cases g
  · exact h2
  · have h := h rfl
    rw [RG_t, R_cons, h]; exact h2
theorem StepIs_refl {v : AVal} {s : St} : StepIs (some (v, s)) v s := rfl
theorem gv_t {v : AVal} : gv true v = v := rfl
theorem gv_f {v : AVal} : gv false v = undefA := rfl
theorem gB_bt {b : Bool} : gB (.bool b) true = b := by cases b <;> rfl
theorem gB_bf {b : Bool} : gB (.bool b) false = !b := by cases b <;> rfl
theorem gB_tu {l : List AVal} {w : Bool} : gB (.tuple l) w = false := rfl
theorem gB_gv {g w : Bool} {v : AVal} : gB (gv g v) w = (g && gB v w) := by cases g <;> rfl
theorem pk_t {a b : AVal} : pk true a b = a := rfl
theorem pk_f {a b : AVal} : pk false a b = b := rfl
theorem pk_and {b x : Bool} : pk b (gv b (.bool x)) (.bool false) = .bool (b && x) := by cases b <;> rfl
theorem pk_and2 {b x : Bool} : pk b (.bool x) (.bool false) = .bool (b && x) := by cases b <;> rfl
theorem pk_or {b x : Bool} : pk b (.bool true) (gv (!b) (.bool x)) = .bool (b || x) := by cases b <;> rfl
theorem pk_or2 {b x : Bool} : pk (!b) (.bool true) (gv b (.bool x)) = .bool (!b || x) := by cases b <;> rfl
theorem pk_or3 {b x : Bool} : pk b (.bool true) (.bool x) = .bool (b || x) := by cases b <;> rfl
theorem WT_app {c : ACode} : WT T q c env σ Q () = W T q c env σ Q := rfl
theorem Cd_b {b : Bool} {A B : Unit → Prop} : Cd (.bool b) A B = BrB b A B := rfl
theorem BrB_t {A B : Unit → Prop} : BrB true A B = A () := by simp [BrB]
theorem BrB_f {A B : Unit → Prop} : BrB false A B = B () := by simp [BrB]
theorem BrB_not {b : Bool} {A B : Unit → Prop} : BrB (!b) A B = BrB b B A := by cases b <;> simp [BrB]
theorem BrB_dec {P : Prop} {h : Decidable P} {A B : Unit → Prop} : BrB (decide P) A B = Br P A B := by by_cases P <;> simp [BrB, Br, *]
theorem Br_t {A B : Unit → Prop} : Br True A B = A () := by simp [Br]
theorem Br_f {A B : Unit → Prop} : Br False A B = B () := by simp [Br]
theorem Br_not {P : Prop} {A B : Unit → Prop} : Br (¬ P) A B = Br P B A := by by_cases P <;> simp [Br, *]
theorem Br_intro {P : Prop} {A B : Unit → Prop} (h1 : P → P = True → A ()) (h2 : ¬ P → P = False → B ()) : Br P A B := ⟨fun h => h1 h (eq_true h), fun h => h2 h (eq_false h)⟩
theorem BrB_intro {b : Bool} {A B : Unit → Prop} (h1 : b = true → b = true → A ()) (h2 : b = false → b = false → B ()) : BrB b A B := ⟨fun h => h1 h h, fun h => h2 h h⟩
theorem W_cond {c : Opd} {a b : ACode} : W T q (.cond c a b) env σ Q = Cd (c.ev T env) (WT T q a env σ Q) (WT T q b env σ Q) := by
  unfold W; rw [Ew_cond]
  cases c.ev T env with
  | bool b => cases b <;> simp [Cd, BrB, WT, W]
  | _ => rfl
theorem W_draw {ops : List AOper} : W T q (.region true ops) env σ Q = D T q ops 0 [] [] env σ Q := by
  unfold W D; rw [Ew_draw]
  cases drawOps T (Cw T) q ops 0 [] [] env σ <;> rfl
theorem D_nil {k : Nat} {old : List St} {fl : List Flt} : D T q [] k old fl env σ Q = Q .normal env σ := by unfold D; rw [draw_nil]
theorem D_pure {d : Option (List Bool)} {op : AOp} {ops : List AOper} {k : Nat} {old : List St} {fl : List Flt} : D T q (⟨d, op, none, .pure⟩ :: ops) k old fl env σ Q = Bd (stepOp T (Cw T) true op env σ) (DPK T q d ops k old fl env σ Q) := by
  unfold D Bd; rw [draw_pure, wanted_none]
  cases h : stepOp T (Cw T) true op env σ with
  | none => rfl
  | some r => obtain ⟨v, s⟩ := r; simp only [DPK, D, setDst_setD]
theorem D_read {d : Option (List Bool)} {op : AOp} {lo hi : Nat} {ops : List AOper} {k : Nat} {old : List St} {fl : List Flt} : D T q (⟨d, op, none, .read lo hi⟩ :: ops) k old fl env σ Q = Bd (stepOp T (Cw T) true op env σ) (DRK T q d op lo hi ops k old fl env σ Q) := by
  unfold D Bd; rw [draw_read, wanted_none]
  cases h : stepOp T (Cw T) true op env σ with
  | none => rfl
  | some r =>
    obtain ⟨v, s⟩ := r
    simp only [DRK, D, setDst_setD]
    by_cases hs : staysAll T (Cw T) op env v (k - lo) old = true
    · simp only [hs, if_true, true_and]
    · simp only [hs, if_false, false_and, Bool.false_eq_true]
theorem D_eff {d : Option (List Bool)} {op : AOp} {ops : List AOper} {k : Nat} {old : List St} {fl : List Flt} : D T q (⟨d, op, none, .eff⟩ :: ops) k old fl env σ Q = Bd (stepOp T (Cw T) q op env σ) (DEK T q d ops k old fl env σ Q) := by
  unfold D Bd; rw [draw_eff, wanted_none]
  cases h : stepOp T (Cw T) q op env σ with
  | none => rfl
  | some r =>
    obtain ⟨v, s⟩ := r
    simp only [DEK, D, setDst_setD]
    by_cases hs : fltsStay T (Cw T) (k + 1) s fl = true
    · simp only [hs, if_true, true_and]
    · simp only [hs, if_false, false_and, Bool.false_eq_true]
theorem D_guard {d : Option (List Bool)} {op : AOp} {g : Nat} {w : Bool} {dk : DK} {ops : List AOper} {k : Nat} {old : List St} {fl : List Flt} : D T q (⟨d, op, some (path g, w), dk⟩ :: ops) k old fl env σ Q = DG (gB (V env g) w) T q d op dk ops k old fl env σ Q := by
  unfold DG DF D gB
  cases dk with
  | pure =>
    rw [draw_pure, draw_pure, wanted_some, wanted_none]
    cases V env g with
    | bool b => cases b <;> cases w <;> simp [setDst_setD]
    | _ => simp [setDst_setD]
  | read lo hi =>
    rw [draw_read, draw_read, wanted_some, wanted_none]
    cases V env g with
    | bool b => cases b <;> cases w <;> simp [setDst_setD]
    | _ => simp [setDst_setD]
  | eff =>
    rw [draw_eff, draw_eff, wanted_some, wanted_none]
    cases V env g with
    | bool b => cases b <;> cases w <;> simp [setDst_setD]
    | _ => simp [setDst_setD]
theorem DG_t {d : Option (List Bool)} {op : AOp} {dk : DK} {ops : List AOper} {k : Nat} {old : List St} {fl : List Flt} : DG true T q d op dk ops k old fl env σ Q = D T q (⟨d, op, none, dk⟩ :: ops) k old fl env σ Q := rfl
theorem DG_f {d : Option (List Bool)} {op : AOp} {dk : DK} {ops : List AOper} {k : Nat} {old : List St} {fl : List Flt} : DG false T q d op dk ops k old fl env σ Q = DF T q d dk ops k old fl env σ Q := rfl
theorem DG_split {g : Bool} {d : Option (List Bool)} {op : AOp} {dk : DK} {ops : List AOper} {k : Nat} {old : List St} {fl : List Flt} (h1 : g = true → D T q (⟨d, op, none, dk⟩ :: ops) k old fl env σ Q) (h2 : g = false → DF T q d dk ops k old fl env σ Q) : DG g T q d op dk ops k old fl env σ Q := by
  cases g
  · exact h2 rfl
  · exact h1 rfl
theorem DG_step {g : Bool} {d : Option (List Bool)} {op : AOp} {ops : List AOper} {k : Nat} {old : List St} {fl : List Flt} {v : AVal} (h : g = true → StepIs (stepOp T (Cw T) true op env σ) v σ) (h2 : D T q ops k old fl (setD d (gv g v) env) σ Q) : DG g T q d op .pure ops k old fl env σ Q := by
  cases g
  · exact h2
  · have h := h rfl
    rw [DG_t, D_pure, h]; exact h2
theorem DG_read {g : Bool} {d : Option (List Bool)} {op : AOp} {lo : Nat} {ops : List AOper} {fl : List Flt} {v : AVal} (h : g = true → StepIs (stepOp T (Cw T) true op env σ) v σ) (h2 : D T q ops 0 [] fl (setD d (gv g v) env) σ Q) : DG g T q d op (.read lo 0) ops 0 [] fl env σ Q := by
  cases g
  · exact h2
  · have h := h rfl
    rw [DG_t, D_read, h]
    show DRK T q d op lo 0 ops 0 [] fl env σ Q v σ
    simp only [DRK, Nat.lt_irrefl, if_false, Nat.zero_sub, stays_0, true_and]; exact h2
theorem DPK_app {d : Option (List Bool)} {ops : List AOper} {k : Nat} {old : List St} {fl : List Flt} {v : AVal} {s : St} : DPK T q d ops k old fl env σ Q v s = D T q ops k old fl (setD d v env) σ Q := rfl
theorem DRK_0 {d : Option (List Bool)} {op : AOp} {lo : Nat} {ops : List AOper} {fl : List Flt} {v : AVal} {s : St} : DRK T q d op lo 0 ops 0 [] fl env σ Q v s = D T q ops 0 [] fl (setD d v env) σ Q := by
  simp [DRK, stays_0]
theorem DRK_1 {d : Option (List Bool)} {op : AOp} {lo hi : Nat} {ops : List AOper} {fl : List Flt} {v : AVal} {s : St} : DRK T q d op lo (hi + 1) ops 0 [] fl env σ Q v s = D T q ops 0 [] (⟨hi + 1, op, env, v⟩ :: fl) (setD d v env) σ Q := by
  simp [DRK, stays_0]
theorem DEK_0 {d : Option (List Bool)} {ops : List AOper} {k : Nat} {old : List St} {v : AVal} {s : St} : DEK T q d ops k old [] env σ Q v s = D T q ops (k + 1) (σ :: old) [] (setD d v env) s Q := by
  simp [DEK, flts_nil]
theorem DF_p {d : Option (List Bool)} {ops : List AOper} {k : Nat} {old : List St} {fl : List Flt} : DF T q d .pure ops k old fl env σ Q = D T q ops k old fl (setD d undefA env) σ Q := rfl
theorem DF_r {d : Option (List Bool)} {lo hi : Nat} {ops : List AOper} {k : Nat} {old : List St} {fl : List Flt} : DF T q d (.read lo hi) ops k old fl env σ Q = D T q ops k old fl (setD d undefA env) σ Q := rfl
theorem DF_e {d : Option (List Bool)} {ops : List AOper} {k : Nat} {old : List St} {fl : List Flt} : DF T q d .eff ops k old fl env σ Q = D T q ops (k + 1) (σ :: old) fl (setD d undefA env) σ Q := rfl

/-- A loop, by what stays true while a measure falls. -/
theorem W_loop {a : ACode} (I : Nat → Env → St → Prop) (n : Nat) (h0 : I n env σ) (hs : ∀ n e s, I n e s → W T q a e s (LoopK I n Q)) : W T q (.loop a) env σ Q := by
  induction n using Nat.strongRecOn generalizing env σ with
  | ind n ih =>
    obtain ⟨o, e, s, h1, h2⟩ := W_iff.1 (hs n env σ h0)
    refine W_iff.2 ?_
    rw [Ew_loop, h1]
    cases o with
    | normal =>
      obtain ⟨m, hm, hI⟩ := h2
      exact W_iff.1 (ih m hm hI)
    | exit j => exact ⟨_, _, _, rfl, h2⟩
    | ret => exact ⟨_, _, _, rfl, h2⟩
theorem W_gen {c : ACode} (l : List Nat) (h : ∀ e, (∀ k ∈ l, V e k = V env k) → W T q c e σ Q) : W T q c env σ Q := h env fun _ _ => rfl
theorem BrB_gen {a c : ACode} {b : Bool} (l : List Nat) (h : ∀ e, (∀ k ∈ l, V e k = V env k) → BrB b (WT T q a e σ Q) (WT T q c e σ Q)) : BrB b (WT T q a env σ Q) (WT T q c env σ Q) := h env fun _ _ => rfl
theorem Br_gen {a c : ACode} {P : Prop} (l : List Nat) (h : ∀ e, (∀ k ∈ l, V e k = V env k) → Br P (WT T q a e σ Q) (WT T q c e σ Q)) : Br P (WT T q a env σ Q) (WT T q c env σ Q) := h env fun _ _ => rfl
theorem W_mono {c : ACode} {Q' : Post} (h : W T q c env σ Q) (hq : ∀ o e s, Q o e s → Q' o e s) : W T q c env σ Q' := by
  obtain ⟨o, e, s, h1, h2⟩ := W_iff.1 h; exact W_iff.2 ⟨o, e, s, h1, hq o e s h2⟩
theorem Bd_call {f : Nat} {args : List AVal} {P K : AVal → St → Prop} (h : CW T q f args σ P) (hk : ∀ v s, P v s → K v s) : Bd (Cw T q f args σ) K := by
  obtain ⟨v, s, h1, h2⟩ := CW_iff.1 h; rw [h1]; exact hk v s h2
theorem CW_mono {f : Nat} {args : List AVal} {P K : AVal → St → Prop} (h : CW T q f args σ P) (hk : ∀ v s, P v s → K v s) : CW T q f args σ K := by
  obtain ⟨v, s, h1, h2⟩ := CW_iff.1 h; exact CW_iff.2 ⟨v, s, h1, hk v s h2⟩
theorem CW_of {f : Nat} {fn : AFunc} (h : T.fn.get (path f) = some fn) {args : List AVal} (ha : lenL args = fn.arity) {P : AVal → St → Prop} (hw : W T q fn.body (envOf args 0 .emp) σ (FinK T fn.results P)) : CW T q f args σ P := by
  obtain ⟨o, e, s, h1, h2⟩ := W_iff.1 hw
  unfold CW
  rw [Cw_of h q args σ ha, h1]
  cases o with
  | exit j => exact h2.elim
  | normal =>
    rw [fin_normal]
    have h2 : Fb (resV T e s fn.results) s P := h2
    cases h3 : resV T e s fn.results with
    | none => rw [h3] at h2; exact h2.elim
    | some v => rw [h3] at h2; exact h2
  | ret =>
    rw [fin_ret]
    have h2 : Fb (resV T e s fn.results) s P := h2
    cases h3 : resV T e s fn.results with
    | none => rw [h3] at h2; exact h2.elim
    | some v => rw [h3] at h2; exact h2
theorem FinK_n {rs : List Res} {P : AVal → St → Prop} : FinK T rs P .normal env σ = Fb (resV T env σ rs) σ P := rfl
theorem FinK_r {rs : List Res} {P : AVal → St → Prop} : FinK T rs P .ret env σ = Fb (resV T env σ rs) σ P := rfl
theorem Fb_some {v : AVal} {P : AVal → St → Prop} : Fb (some v) σ P = P v σ := rfl
theorem CW_eq {f : Nat} {args : List AVal} {v : AVal} {s : St} (h : Cw T q f args σ = some (v, s)) : CW T q f args σ fun v' s' => v' = v ∧ s' = s := CW_iff.2 ⟨v, s, h, rfl, rfl⟩
/-- A fact of a run in the old form. -/
theorem CW_fr {f : Nat} {args : List AVal} {v : AVal} (h : ∃ σ', Fr σ σ' ∧ Cw T q f args σ = some (v, σ')) : CW T q f args σ fun v' s' => v' = v ∧ Fr σ s' := by
  obtain ⟨s, h1, h2⟩ := h; exact CW_iff.2 ⟨v, s, h2, rfl, h1⟩
theorem CW_out {f : Nat} {args : List AVal} {v : AVal} {P : AVal → St → Prop} (h : CW T q f args σ fun v' s' => v' = v ∧ P v' s') : ∃ σ', P v σ' ∧ Cw T q f args σ = some (v, σ') := by
  obtain ⟨v', s, h1, rfl, h2⟩ := CW_iff.1 h; exact ⟨s, h2, h1⟩
end

/-! Picks, numbers. -/
theorem pick_b {T : Tab} {c a b : Opd} {env : Env} {σ : St} : opPick T c a b env σ = (match c.ev T env with | .bool x => some (pk x (a.ev T env) (b.ev T env), σ) | _ => none) := by
  unfold opPick
  cases c.ev T env with
  | bool x => cases x <;> rfl
  | _ => rfl
theorem w_add {a b : Nat} (h : a + b < 9223372036854775808) : wrapI .i64 ((a : Int) + (b : Int)) = ((a + b : Nat) : Int) := by rw [wrap_i64 (by omega) (by omega)]; omega
theorem w_add1 {a : Nat} (h : a + 1 < 9223372036854775808) : wrapI .i64 ((a : Int) + 1) = ((a + 1 : Nat) : Int) := by rw [wrap_i64 (by omega) (by omega)]; omega
theorem w_add2 {a : Nat} (h : a + 2 < 9223372036854775808) : wrapI .i64 ((a : Int) + 2) = ((a + 2 : Nat) : Int) := by rw [wrap_i64 (by omega) (by omega)]; omega
theorem w_sub1 {a : Nat} (h : 1 ≤ a) (h2 : a < 9223372036854775808) : wrapI .i64 ((a : Int) - 1) = ((a - 1 : Nat) : Int) := by rw [wrap_i64 (by omega) (by omega)]; omega
end Go.Ab
end

noncomputable section
namespace Go.Ab
open Go

abbrev nd0 : ND := ⟨0, [], [], [], 0, []⟩
/-- The rows of a node. -/
def kvO (σ : St) (v : AVal) (i : Nat) : AVal := (ldA σ none (fp 5 (ixp 6 v i))).getD undefA
def avO (σ : St) (v : AVal) (i : Nat) : AVal := (ldA σ none (fp 2 (ixp 6 v i))).getD undefA

theorem getD_lt {α : Type} {l : List α} {i : Nat} (h : i < l.length) (d : α) : l.getD i d = l[i] := by
  rw [List.getD_eq_getElem?_getD, List.getElem?_eq_getElem h, Option.getD_some]

section
variable {σ0 σ : St} {v : AVal} {t : List ND}
theorem TreeI.at0 (h : TreeI σ0 v t) {i : Nat} (hi : i < t.length) : NodeAt σ0 (ixp 6 v i) (t.getD i nd0) (avO σ0 v i) (kvO σ0 v i) := by
  obtain ⟨av, kv, h1, h2⟩ := h.get hi
  have e1 : avO σ0 v i = av := by unfold avO; rw [h2.l2]; rfl
  have e2 : kvO σ0 v i = kv := by unfold kvO; rw [h2.l5]; rfl
  rw [e1, e2, getD_lt hi]; exact h2
theorem TreeI.at1 (h : TreeI σ0 v t) (hf : Fr σ0 σ) {i : Nat} (hi : i < t.length) : NodeAt σ (ixp 6 v i) (t.getD i nd0) (avO σ0 v i) (kvO σ0 v i) := by
  obtain ⟨av, kv, h1, h2⟩ := (h.fr hf).get hi
  have hA := h.at0 hi
  obtain ⟨cs, h3, h4⟩ := h
  obtain ⟨av2, kv2, ds, h5, h6, -⟩ := h4.drop hi
  have key : ∀ σ', Fr σ0 σ' → ldA σ' none (fp 2 (ixp 6 v i)) = some av2 ∧ ldA σ' none (fp 5 (ixp 6 v i)) = some kv2 := by
    intro σ' hf'
    have h7 := ((h3.fr hf').ix hi (k := .i64)).2
    rw [h6, h5.1] at h7
    exact ⟨(h7.fld (off := 2) (by simp)).2.ld, (h7.fld (off := 5) (by simp)).2.ld⟩
  have e1 : avO σ0 v i = av := by
    unfold avO; rw [(key σ0 (Fr.refl _)).1]; have := (key σ hf).1; rw [h2.l2] at this; simp at this; exact this.symm
  have e2 : kvO σ0 v i = kv := by
    unfold kvO; rw [(key σ0 (Fr.refl _)).2]; have := (key σ hf).2; rw [h2.l5] at this; simp at this; exact this.symm
  rw [e1, e2, getD_lt hi]; exact h2
theorem TreeI.ixz (h : TreeI σ0 v t) {k : IntKind} {z : Int} (h0 : 0 ≤ z) (hz : z < (t.length : Int)) : ixS 6 v (.int k z) = some (ixp 6 v z.toNat) := by
  obtain ⟨_, _, h1, _⟩ := h.get (i := z.toNat) (by omega)
  have := h1 k
  rwa [show ((z.toNat : Nat) : Int) = z by omega] at this
theorem TreeI.ixn (h : TreeI σ0 v t) {k : IntKind} {i : Nat} (hi : i < t.length) : ixS 6 v (.int k (i : Int)) = some (ixp 6 v i) := by
  obtain ⟨_, _, h1, _⟩ := h.get hi
  exact h1 k
theorem TreeI.a0 (h : TreeI σ0 v t) {i : Nat} (hi : i < t.length) : fldA 0 (ixp 6 v i) = some (fp 0 (ixp 6 v i)) := (h.at0 hi).f0
theorem TreeI.a1 (h : TreeI σ0 v t) {i : Nat} (hi : i < t.length) : fldA 1 (ixp 6 v i) = some (fp 1 (ixp 6 v i)) := (h.at0 hi).f1
theorem TreeI.a2 (h : TreeI σ0 v t) {i : Nat} (hi : i < t.length) : fldA 2 (ixp 6 v i) = some (fp 2 (ixp 6 v i)) := (h.at0 hi).f2
theorem TreeI.a3 (h : TreeI σ0 v t) {i : Nat} (hi : i < t.length) : fldA 3 (ixp 6 v i) = some (fp 3 (ixp 6 v i)) := (h.at0 hi).f3
theorem TreeI.a4 (h : TreeI σ0 v t) {i : Nat} (hi : i < t.length) : fldA 4 (ixp 6 v i) = some (fp 4 (ixp 6 v i)) := (h.at0 hi).f4
theorem TreeI.a5 (h : TreeI σ0 v t) {i : Nat} (hi : i < t.length) : fldA 5 (ixp 6 v i) = some (fp 5 (ixp 6 v i)) := (h.at0 hi).f5
theorem TreeI.n0 (h : TreeI σ0 v t) {i : Nat} (hf : Fr σ0 σ) (hi : i < t.length) : ldA σ none (fp 0 (ixp 6 v i)) = some (.int .u8 ((t.getD i nd0).kind : Int)) := (h.at1 hf hi).l0
theorem TreeI.n1 (h : TreeI σ0 v t) {i : Nat} (hf : Fr σ0 σ) (hi : i < t.length) : ldA σ none (fp 1 (ixp 6 v i)) = some (.str (t.getD i nd0).name) := (h.at1 hf hi).l1
theorem TreeI.n2 (h : TreeI σ0 v t) {i : Nat} (hf : Fr σ0 σ) (hi : i < t.length) : ldA σ none (fp 2 (ixp 6 v i)) = some (avO σ0 v i) := (h.at1 hf hi).l2
theorem TreeI.n3 (h : TreeI σ0 v t) {i : Nat} (hf : Fr σ0 σ) (hi : i < t.length) : ldA σ none (fp 3 (ixp 6 v i)) = some (.str (t.getD i nd0).data) := (h.at1 hf hi).l3
theorem TreeI.n4 (h : TreeI σ0 v t) {i : Nat} (hf : Fr σ0 σ) (hi : i < t.length) : ldA σ none (fp 4 (ixp 6 v i)) = some (.int .i64 (t.getD i nd0).up) := (h.at1 hf hi).l4
theorem TreeI.n5 (h : TreeI σ0 v t) {i : Nat} (hf : Fr σ0 σ) (hi : i < t.length) : ldA σ none (fp 5 (ixp 6 v i)) = some (kvO σ0 v i) := (h.at1 hf hi).l5
theorem TreeI.nn (h : TreeI σ0 v t) {i : Nat} (hf : Fr σ0 σ) (hi : i < t.length) : ldA σ (some 6) (ixp 6 v i) = some (.agg [.int .u8 ((t.getD i nd0).kind : Int), .str (t.getD i nd0).name, avO σ0 v i, .str (t.getD i nd0).data, .int .i64 (t.getD i nd0).up, kvO σ0 v i]) := (h.at1 hf hi).ld
theorem TreeI.kl (h : TreeI σ0 v t) {i : Nat} (hi : i < t.length) : lenS (kvO σ0 v i) = some (.int .i64 ((t.getD i nd0).kids.length : Int)) := SlI.len (h.at0 hi).kids
theorem TreeI.al (h : TreeI σ0 v t) {i : Nat} (hi : i < t.length) : lenS (avO σ0 v i) = some (.int .i64 ((t.getD i nd0).attrs.length : Int)) := SlI.len (h.at0 hi).attrs
theorem TreeI.ao (h : TreeI σ0 v t) {i : Nat} (hi : i < t.length) : (avO σ0 v i).one = true := SlI.one (h.at0 hi).attrs
theorem TreeI.ko (h : TreeI σ0 v t) {i : Nat} (hi : i < t.length) : (kvO σ0 v i).one = true := SlI.one (h.at0 hi).kids
theorem TreeI.ks (h : TreeI σ0 v t) {i : Nat} (hi : i < t.length) : IntsI σ0 (kvO σ0 v i) (t.getD i nd0).kids := (h.at0 hi).kids
theorem TreeI.as (h : TreeI σ0 v t) {i : Nat} (hi : i < t.length) : AttrsI σ0 (avO σ0 v i) (t.getD i nd0).attrs := (h.at0 hi).attrs
theorem IntsI.ixz {l : List Int} (h : IntsI σ0 v l) {k : IntKind} {z : Int} (h0 : 0 ≤ z) (hz : z < (l.length : Int)) : ixS 1 v (.int k z) = some (ixp 1 v z.toNat) := by
  have := (h.get (i := z.toNat) (by omega) (k := k)).1
  rwa [show ((z.toNat : Nat) : Int) = z by omega] at this
theorem IntsI.ixn {l : List Int} (h : IntsI σ0 v l) {k : IntKind} {i : Nat} (hi : i < l.length) : ixS 1 v (.int k (i : Int)) = some (ixp 1 v i) := (h.get hi).1
theorem IntsI.ld {l : List Int} (h : IntsI σ0 v l) {i : Nat} (hf : Fr σ0 σ) (hi : i < l.length) : ldA σ none (ixp 1 v i) = some (.int .i64 (l.getD i 0)) := by
  rw [getD_lt hi]; exact ((h.fr hf).get hi (k := .i64)).2
theorem TreeI.kx (h : TreeI σ0 v t) {i : Nat} {k : IntKind} {z : Int} (hi : i < t.length) (h0 : 0 ≤ z) (hz : z < ((t.getD i nd0).kids.length : Int)) : ixS 1 (kvO σ0 v i) (.int k z) = some (ixp 1 (kvO σ0 v i) z.toNat) := (h.ks hi).ixz h0 hz
theorem TreeI.kd (h : TreeI σ0 v t) {i j : Nat} (hf : Fr σ0 σ) (hi : i < t.length) (hj : j < (t.getD i nd0).kids.length) : ldA σ none (ixp 1 (kvO σ0 v i) j) = some (.int .i64 ((t.getD i nd0).kids.getD j 0)) := (h.ks hi).ld hf hj
abbrev at0 : AttrD := ([], [])
theorem AttrsI.ixz {l : List AttrD} (h : AttrsI σ0 v l) {k : IntKind} {z : Int} (h0 : 0 ≤ z) (hz : z < (l.length : Int)) : ixS 2 v (.int k z) = some (ixp 2 v z.toNat) := by
  have := (h.get (i := z.toNat) (by omega) (k := k)).1
  rwa [show ((z.toNat : Nat) : Int) = z by omega] at this
theorem AttrsI.f0 {l : List AttrD} (h : AttrsI σ0 v l) {i : Nat} (hi : i < l.length) : fldA 0 (ixp 2 v i) = some (fp 0 (ixp 2 v i)) := (h.get hi (k := .i64)).2.f0
theorem AttrsI.f1 {l : List AttrD} (h : AttrsI σ0 v l) {i : Nat} (hi : i < l.length) : fldA 1 (ixp 2 v i) = some (fp 1 (ixp 2 v i)) := (h.get hi (k := .i64)).2.f1
theorem AttrsI.l0 {l : List AttrD} (h : AttrsI σ0 v l) {i : Nat} (hf : Fr σ0 σ) (hi : i < l.length) : ldA σ none (fp 0 (ixp 2 v i)) = some (.str (l.getD i at0).1) := by rw [getD_lt hi]; exact ((h.fr hf).get hi (k := .i64)).2.l0
theorem AttrsI.l1 {l : List AttrD} (h : AttrsI σ0 v l) {i : Nat} (hf : Fr σ0 σ) (hi : i < l.length) : ldA σ none (fp 1 (ixp 2 v i)) = some (.str (l.getD i at0).2) := by rw [getD_lt hi]; exact ((h.fr hf).get hi (k := .i64)).2.l1
theorem AttrsI.ln {l : List AttrD} (h : AttrsI σ0 v l) : lenS v = some (.int .i64 (l.length : Int)) := SlI.len h
theorem IntsI.ln {l : List Int} (h : IntsI σ0 v l) : lenS v = some (.int .i64 (l.length : Int)) := SlI.len h
end

theorem Fr.puts {σ0 σ : St} (h : Fr σ0 σ) {b : Nat} (hb : σ0.next ≤ b) (o : AObj) : Fr σ0 (σ.put b o) := h.put hb o
theorem Fr.news {σ0 σ : St} (h : Fr σ0 σ) (o : AObj) : Fr σ0 (σ.new o) := h.trans (Fr.new _ _)
theorem ixC_z {s : List Nat} {k : IntKind} {z : Int} (h0 : 0 ≤ z) (hz : z < (s.length : Int)) : dropX z.toNat s = some (s.getD z.toNat 0 :: s.drop (z.toNat + 1)) := by
  rw [getD_lt (by omega)]; exact dropX_get (by omega)
end Go.Ab
end

noncomputable section
namespace Go.Ab
open Go
set_option maxRecDepth 10000
theorem sR : type_of% (And.intro @W_skip (And.intro @W_exit (And.intro @W_ret (And.intro @W_scope (And.intro @W_seq (And.intro @W_block (And.intro @SeqK_n (And.intro @SeqK_x (And.intro @SeqK_r (And.intro @BlockK_n (And.intro @BlockK_x (And.intro @BlockK_r (And.intro @LoopK_x (And.intro @LoopK_r (And.intro @Bd_some (And.intro @setD_some (And.intro @setD_none (And.intro @W_region (And.intro @R_nil (And.intro @R_cons (And.intro @RK_app (And.intro @R_guard (And.intro @RG_t (And.intro @RG_f (And.intro @WT_app (And.intro @gv_t (And.intro @gv_f (And.intro @gB_bt (And.intro @gB_bf (And.intro @gB_tu (And.intro @gB_gv (And.intro @pk_t (And.intro @pk_f (And.intro @pk_and (And.intro @pk_and2 (And.intro @pk_or (And.intro @pk_or2 (And.intro @pk_or3 (And.intro @Cd_b (And.intro @BrB_t (And.intro @BrB_f (And.intro @BrB_not (And.intro @BrB_dec (And.intro @Br_t (And.intro @Br_f (And.intro @Br_not (And.intro @W_cond (And.intro @W_draw (And.intro @D_nil (And.intro @D_pure (And.intro @D_read (And.intro @D_eff (And.intro @D_guard (And.intro @DPK_app (And.intro @DRK_0 (And.intro @DRK_1 (And.intro @DEK_0 (And.intro @DG_t (And.intro @DG_f (And.intro @DF_p (And.intro @DF_r (And.intro @DF_e (And.intro @FinK_n (And.intro @FinK_r (And.intro @Fb_some (And.intro @ev_t (And.intro @ev_c (And.intro @V_U (And.intro @pick_b (And.intro @so_mov (And.intro @so_pick (And.intro @so_alloc (And.intro @so_box (And.intro @so_build (And.intro @so_buildSlice (And.intro @so_load (And.intro @so_store (And.intro @so_nilCheck (And.intro @so_arith (And.intro @so_strop (And.intro @so_eq (And.intro @so_not (And.intro @so_neg (And.intro @so_cpl (And.intro @so_toInt (And.intro @so_intStr (And.intro @so_bytes (And.intro @so_runes (And.intro @so_strOf (And.intro @so_strRunes (And.intro @so_stamp (And.intro @so_toUnsafe (And.intro @so_cast (And.intro @so_slStr (And.intro @so_slSl (And.intro @so_slArr (And.intro @so_fieldAddr (And.intro @so_field (And.intro @so_iaSl (And.intro @so_iaArr (And.intro @so_ixArr (And.intro @so_ixStr (And.intro @so_range (And.intro @so_next (And.intro @so_extract (And.intro @so_call (And.intro @so_callV (And.intro @so_ext (And.intro @so_append (And.intro @so_len (And.intro @so_lenArr (And.intro @so_mn (And.intro @so_mx (And.intro @so_mkFunc (And.intro @so_mkSlice (And.intro @so_mkIface (And.intro @so_sliceData (And.intro @so_unsafeStr (And.intro @oT.eq_1 (And.intro @oO.eq_1 (And.intro @oZ.eq_1 (And.intro @oM.eq_1 (And.intro @oC.eq_1 (And.intro @oF.eq_1 (And.intro @oL.eq_1 (And.intro @oI.eq_1 (And.intro @oN.eq_1 (And.intro @oK.eq_1 (And.intro @oA.eq_1 (And.intro @oB.eq_1 (And.intro @oPa.eq_1 (And.intro @oPo.eq_1 (And.intro @oX.eq_1 (And.intro @oH.eq_1 (And.intro @oY.eq_1 (And.intro @oTs_nil (And.intro @oTs_cons (And.intro @oU.eq_1 (And.intro @oW.eq_1 (And.intro @oJ.eq_1 (And.intro @oS.eq_1 (And.intro @gT_eq (And.intro @gF_eq (And.intro @eF_eq (And.intro @rD_eq (And.intro @rE_eq (And.intro @rG.eq_1 (And.intro @rS.eq_1 (And.intro @cN.eq_1 (And.intro @vI.eq_1 (And.intro @vU.eq_1 (And.intro @vQ.eq_1 (And.intro @undefA_eq (And.intro @ar_add (And.intro @ar_sub (And.intro @ar_mul (And.intro @ar_quo (And.intro @ar_rem (And.intro @ar_and (And.intro @ar_or (And.intro @ar_xor (And.intro @ar_andNot (And.intro @ar_eql (And.intro @ar_neq (And.intro @ar_lss (And.intro @ar_leq (And.intro @ar_gtr (And.intro @ar_geq (And.intro @ar_shl (And.intro @ar_shr (And.intro @st_add (And.intro @st_eql (And.intro @st_neq (And.intro @st_lss (And.intro @st_leq (And.intro @st_gtr (And.intro @st_geq (And.intro @ev_0 (And.intro @ev_1 (And.intro @ev_2 (And.intro @ev_3 (And.intro @ev_4 (And.intro @ev_5 (And.intro @ev_6 (And.intro @ev_7 (And.intro @ev_8 (And.intro @ev_9 (And.intro @ev_10 (And.intro @ev_11 (And.intro @ev_c0 (And.intro @ev_c1 (And.intro @ev_c2 (And.intro @Int.natCast_nonneg (And.intro @opLen_s (And.intro @opLen_t (And.intro @lenL_eq (And.intro @eqBytes_dec (And.intro @Int.ofNat_eq_natCast (And.intro @Int.toNat_natCast (And.intro @decide_true (And.intro @decide_false (And.intro @ge_iff_le.{0} (And.intro @gt_iff_lt.{0} (And.intro @Bool.not_true (And.intro @Bool.not_false (And.intro @beq_self_eq_true.{0} (And.intro @int_beq (And.intro @int_bne (And.intro @Bool.false_beq (And.intro @Bool.true_beq (And.intro @opCall_eq (And.intro @argsOf_nil (And.intro @argsOf_cons (And.intro @Bool.and_true (And.intro @Bool.true_and (And.intro @Bool.and_false (And.intro @Bool.false_and (And.intro @Bool.or_false (And.intro @Bool.false_or (And.intro @Bool.true_or (And.intro @Bool.or_true (And.intro @Bool.not_not (And.intro @envOf_cons (And.intro @envOf_nil (And.intro @fin_normal (And.intro @fin_ret (And.intro @resV_0 (And.intro @resV_1 (And.intro @resV_2 (And.intro @resV_3 (And.intro @opAlloc_eq (And.intro @allOne_nil (And.intro @allOne_cons (And.intro @St.newK_eq (And.intro @opStore_s (And.intro @stS_ptr (And.intro @opLoad_s (And.intro @opFieldAddr_s (And.intro @opIaSl_s (And.intro @fldA_ptr (And.intro @ldA_ptr (And.intro @St.get_new_same (And.intro @St.get_put_same (And.intro @loadL_none (And.intro @loadL_2 (And.intro @loadL_3 (And.intro @loadL_6 (And.intro @putX_all6 (And.intro @putX_all3 (And.intro @putX_all2 (And.intro @putX_all1 (And.intro @cells_agg (And.intro @cells_int (And.intro @cells_bool (And.intro @cells_str (And.intro @cells_func (And.intro @cells_slice (And.intro @one_int (And.intro @one_bool (And.intro @one_str (And.intro @one_func (And.intro @one_slice (And.intro @List.length_cons.{0} (And.intro @List.length_nil.{0} (And.intro @Nat.zero_add (And.intro @dropX_zero (And.intro @dropX_1 (And.intro @dropX_2 (And.intro @dropX_3 (And.intro @dropX_4 (And.intro @dropX_5 (And.intro @and_true (And.intro @true_and (And.intro @Bool.false_eq_true (And.intro @St.new_next (@St.put_next)))))))))))))))))))))))))))))))))))))))))))))))))))))))))))))))))))))))))))))))))))))))))))))))))))))))))))))))))))))))))))))))))))))))))))))))))))))))))))))))))))))))))))))))))))))))))))))))))))))))))))))))))))))))))))))))))))))))))))))))))))))))))))))))))))))))))))))))))))) := And.intro @W_skip (And.intro @W_exit (And.intro @W_ret (And.intro @W_scope (And.intro @W_seq (And.intro @W_block (And.intro @SeqK_n (And.intro @SeqK_x (And.intro @SeqK_r (And.intro @BlockK_n (And.intro @BlockK_x (And.intro @BlockK_r (And.intro @LoopK_x (And.intro @LoopK_r (And.intro @Bd_some (And.intro @setD_some (And.intro @setD_none (And.intro @W_region (And.intro @R_nil (And.intro @R_cons (And.intro @RK_app (And.intro @R_guard (And.intro @RG_t (And.intro @RG_f (And.intro @WT_app (And.intro @gv_t (And.intro @gv_f (And.intro @gB_bt (And.intro @gB_bf (And.intro @gB_tu (And.intro @gB_gv (And.intro @pk_t (And.intro @pk_f (And.intro @pk_and (And.intro @pk_and2 (And.intro @pk_or (And.intro @pk_or2 (And.intro @pk_or3 (And.intro @Cd_b (And.intro @BrB_t (And.intro @BrB_f (And.intro @BrB_not (And.intro @BrB_dec (And.intro @Br_t (And.intro @Br_f (And.intro @Br_not (And.intro @W_cond (And.intro @W_draw (And.intro @D_nil (And.intro @D_pure (And.intro @D_read (And.intro @D_eff (And.intro @D_guard (And.intro @DPK_app (And.intro @DRK_0 (And.intro @DRK_1 (And.intro @DEK_0 (And.intro @DG_t (And.intro @DG_f (And.intro @DF_p (And.intro @DF_r (And.intro @DF_e (And.intro @FinK_n (And.intro @FinK_r (And.intro @Fb_some (And.intro @ev_t (And.intro @ev_c (And.intro @V_U (And.intro @pick_b (And.intro @so_mov (And.intro @so_pick (And.intro @so_alloc (And.intro @so_box (And.intro @so_build (And.intro @so_buildSlice (And.intro @so_load (And.intro @so_store (And.intro @so_nilCheck (And.intro @so_arith (And.intro @so_strop (And.intro @so_eq (And.intro @so_not (And.intro @so_neg (And.intro @so_cpl (And.intro @so_toInt (And.intro @so_intStr (And.intro @so_bytes (And.intro @so_runes (And.intro @so_strOf (And.intro @so_strRunes (And.intro @so_stamp (And.intro @so_toUnsafe (And.intro @so_cast (And.intro @so_slStr (And.intro @so_slSl (And.intro @so_slArr (And.intro @so_fieldAddr (And.intro @so_field (And.intro @so_iaSl (And.intro @so_iaArr (And.intro @so_ixArr (And.intro @so_ixStr (And.intro @so_range (And.intro @so_next (And.intro @so_extract (And.intro @so_call (And.intro @so_callV (And.intro @so_ext (And.intro @so_append (And.intro @so_len (And.intro @so_lenArr (And.intro @so_mn (And.intro @so_mx (And.intro @so_mkFunc (And.intro @so_mkSlice (And.intro @so_mkIface (And.intro @so_sliceData (And.intro @so_unsafeStr (And.intro @oT.eq_1 (And.intro @oO.eq_1 (And.intro @oZ.eq_1 (And.intro @oM.eq_1 (And.intro @oC.eq_1 (And.intro @oF.eq_1 (And.intro @oL.eq_1 (And.intro @oI.eq_1 (And.intro @oN.eq_1 (And.intro @oK.eq_1 (And.intro @oA.eq_1 (And.intro @oB.eq_1 (And.intro @oPa.eq_1 (And.intro @oPo.eq_1 (And.intro @oX.eq_1 (And.intro @oH.eq_1 (And.intro @oY.eq_1 (And.intro @oTs_nil (And.intro @oTs_cons (And.intro @oU.eq_1 (And.intro @oW.eq_1 (And.intro @oJ.eq_1 (And.intro @oS.eq_1 (And.intro @gT_eq (And.intro @gF_eq (And.intro @eF_eq (And.intro @rD_eq (And.intro @rE_eq (And.intro @rG.eq_1 (And.intro @rS.eq_1 (And.intro @cN.eq_1 (And.intro @vI.eq_1 (And.intro @vU.eq_1 (And.intro @vQ.eq_1 (And.intro @undefA_eq (And.intro @ar_add (And.intro @ar_sub (And.intro @ar_mul (And.intro @ar_quo (And.intro @ar_rem (And.intro @ar_and (And.intro @ar_or (And.intro @ar_xor (And.intro @ar_andNot (And.intro @ar_eql (And.intro @ar_neq (And.intro @ar_lss (And.intro @ar_leq (And.intro @ar_gtr (And.intro @ar_geq (And.intro @ar_shl (And.intro @ar_shr (And.intro @st_add (And.intro @st_eql (And.intro @st_neq (And.intro @st_lss (And.intro @st_leq (And.intro @st_gtr (And.intro @st_geq (And.intro @ev_0 (And.intro @ev_1 (And.intro @ev_2 (And.intro @ev_3 (And.intro @ev_4 (And.intro @ev_5 (And.intro @ev_6 (And.intro @ev_7 (And.intro @ev_8 (And.intro @ev_9 (And.intro @ev_10 (And.intro @ev_11 (And.intro @ev_c0 (And.intro @ev_c1 (And.intro @ev_c2 (And.intro @Int.natCast_nonneg (And.intro @opLen_s (And.intro @opLen_t (And.intro @lenL_eq (And.intro @eqBytes_dec (And.intro @Int.ofNat_eq_natCast (And.intro @Int.toNat_natCast (And.intro @decide_true (And.intro @decide_false (And.intro @ge_iff_le.{0} (And.intro @gt_iff_lt.{0} (And.intro @Bool.not_true (And.intro @Bool.not_false (And.intro @beq_self_eq_true.{0} (And.intro @int_beq (And.intro @int_bne (And.intro @Bool.false_beq (And.intro @Bool.true_beq (And.intro @opCall_eq (And.intro @argsOf_nil (And.intro @argsOf_cons (And.intro @Bool.and_true (And.intro @Bool.true_and (And.intro @Bool.and_false (And.intro @Bool.false_and (And.intro @Bool.or_false (And.intro @Bool.false_or (And.intro @Bool.true_or (And.intro @Bool.or_true (And.intro @Bool.not_not (And.intro @envOf_cons (And.intro @envOf_nil (And.intro @fin_normal (And.intro @fin_ret (And.intro @resV_0 (And.intro @resV_1 (And.intro @resV_2 (And.intro @resV_3 (And.intro @opAlloc_eq (And.intro @allOne_nil (And.intro @allOne_cons (And.intro @St.newK_eq (And.intro @opStore_s (And.intro @stS_ptr (And.intro @opLoad_s (And.intro @opFieldAddr_s (And.intro @opIaSl_s (And.intro @fldA_ptr (And.intro @ldA_ptr (And.intro @St.get_new_same (And.intro @St.get_put_same (And.intro @loadL_none (And.intro @loadL_2 (And.intro @loadL_3 (And.intro @loadL_6 (And.intro @putX_all6 (And.intro @putX_all3 (And.intro @putX_all2 (And.intro @putX_all1 (And.intro @cells_agg (And.intro @cells_int (And.intro @cells_bool (And.intro @cells_str (And.intro @cells_func (And.intro @cells_slice (And.intro @one_int (And.intro @one_bool (And.intro @one_str (And.intro @one_func (And.intro @one_slice (And.intro @List.length_cons.{0} (And.intro @List.length_nil.{0} (And.intro @Nat.zero_add (And.intro @dropX_zero (And.intro @dropX_1 (And.intro @dropX_2 (And.intro @dropX_3 (And.intro @dropX_4 (And.intro @dropX_5 (And.intro @and_true (And.intro @true_and (And.intro @Bool.false_eq_true (And.intro @St.new_next (@St.put_next)))))))))))))))))))))))))))))))))))))))))))))))))))))))))))))))))))))))))))))))))))))))))))))))))))))))))))))))))))))))))))))))))))))))))))))))))))))))))))))))))))))))))))))))))))))))))))))))))))))))))))))))))))))))))))))))))))))))))))))))))))))))))))))))))))))))))))))))))))
theorem sB : type_of% (And.intro @Bool.and_eq_true (And.intro @Bool.not_eq_true' (And.intro @Bool.not_eq_false' (@Bool.or_eq_false_iff)))) := And.intro @Bool.and_eq_true (And.intro @Bool.not_eq_true' (And.intro @Bool.not_eq_false' (@Bool.or_eq_false_iff)))
theorem sP : type_of% (And.intro @Bool.and_eq_true (And.intro @Bool.not_eq_true' (And.intro @Bool.not_eq_false' (And.intro @Bool.or_eq_false_iff (And.intro @decide_eq_true_eq (@decide_eq_false_iff_not)))))) := And.intro @Bool.and_eq_true (And.intro @Bool.not_eq_true' (And.intro @Bool.not_eq_false' (And.intro @Bool.or_eq_false_iff (And.intro @decide_eq_true_eq (@decide_eq_false_iff_not)))))
end Go.Ab
end
