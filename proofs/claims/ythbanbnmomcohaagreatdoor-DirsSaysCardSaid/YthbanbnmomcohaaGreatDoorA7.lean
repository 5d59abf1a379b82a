/- The abstract machine, part 28: code, calls, whole runs. -/
import Derived.Test.YthbanbnmomcohaaGreatDoorA6
import Derived.Scope
import Derived.LoopN
import Derived.Eval
import Derived.Lib.LaidTab
namespace Go.Ab
open Go Go.RowKit

/-- Does compiled code stand for the program's? n: how many temporaries. -/
noncomputable def okCode (S : Stat) (n : Nat) : ACode → Code → Bool
  | .skip, c => (match c with | .skip => true | .label _ => true | _ => false)
  | .region d as, c => (match c with | .region _ ops d' => d == d' && (okOpers S n ops.toList ops.toList as && (!d || okDraw ops.toList as)) | _ => false)
  | .seq a b, c => (match c with | .seq x y => okCode S n a x && okCode S n b y | _ => false)
  | .cond o a b, c => (match c with | .cond o' x y => okOpd S o' o && (okCode S n a x && okCode S n b y) | _ => false)
  | .block id a, c => (match c with | .block id' x => id == id' && okCode S n a x | _ => false)
  | .loop a, c => (match c with | .loop x => okCode S n a x | _ => false)
  | .scope a, c => (match c with | .scope x => okCode S n a x | _ => false)
  | .exit id, c => (match c with | .exit id' => id == id' | _ => false)
  | .ret, c => (match c with | .ret => true | _ => false)
  | .fail, _ => true

theorem okOper_le {S : Stat} {n m : Nat} (h : n ≤ m) {ops : List Oper} {o : Oper} {a : AOper} (ho : okOper S n ops o a = true) : okOper S m ops o a = true := by
  simp only [okOper, Bool.and_eq_true] at ho ⊢
  obtain ⟨⟨h1, h2⟩, h3⟩ := ho
  refine ⟨⟨h1, ?_⟩, ?_⟩
  · cases had : a.dst with
    | none => rw [had] at h2; exact h2
    | some p =>
      rw [had] at h2; simp only at h2 ⊢
      cases hod : o.dst with
      | none => rw [hod] at h2; exact h2
      | some d =>
        rw [hod] at h2; simp only [Bool.and_eq_true, decide_eq_true_eq] at h2 ⊢
        exact ⟨h2.1, Nat.lt_of_lt_of_le h2.2 h⟩
  · cases hag : a.guard with
    | none => rw [hag] at h3; exact h3
    | some g =>
      obtain ⟨p, want⟩ := g
      rw [hag] at h3; simp only at h3 ⊢
      cases hog : o.guard with
      | none => rw [hog] at h3; exact h3
      | some g =>
        obtain ⟨j, want'⟩ := g
        rw [hog] at h3; simp only [Bool.and_eq_true] at h3 ⊢
        refine ⟨h3.1, ?_⟩
        cases hj : ops[j]? with
        | none => rw [hj] at h3; exact h3.2
        | some g =>
          rw [hj] at h3; simp only at h3 ⊢
          cases hgd : g.dst with
          | none => rw [hgd] at h3; exact h3.2
          | some d =>
            rw [hgd] at h3; simp only [Bool.and_eq_true, decide_eq_true_eq] at h3 ⊢
            exact ⟨h3.2.1, Nat.lt_of_lt_of_le h3.2.2 h⟩

theorem okOpers_le {S : Stat} {n m : Nat} (h : n ≤ m) {ops : List Oper} : ∀ {os : List Oper} {as : List AOper}, okOpers S n ops os as = true → okOpers S m ops os as = true
  | [], [], _ => rfl
  | [], _ :: _, h => by simp [okOpers] at h
  | _ :: _, [], h => by simp [okOpers] at h
  | o :: os, a :: as, ho => by
    simp only [okOpers, Bool.and_eq_true] at ho ⊢
    exact ⟨okOper_le h ho.1, okOpers_le h ho.2⟩

theorem okCode_le {S : Stat} {n m : Nat} (h : n ≤ m) : ∀ {a : ACode} {c : Code}, okCode S n a c = true → okCode S m a c = true := by
  intro a
  induction a with
  | skip => intro c hc; exact hc
  | region d as =>
    intro c hc; unfold okCode at hc ⊢; cases c <;> simp only [Bool.and_eq_true] at hc ⊢ <;> first | exact hc | skip
    exact ⟨hc.1, okOpers_le h hc.2.1, hc.2.2⟩
  | seq a b iha ihb =>
    intro c hc; unfold okCode at hc ⊢; cases c <;> simp only [Bool.and_eq_true] at hc ⊢ <;> first | exact ⟨iha hc.1, ihb hc.2⟩ | exact hc
  | cond o a b iha ihb =>
    intro c hc; unfold okCode at hc ⊢; cases c <;> simp only [Bool.and_eq_true] at hc ⊢ <;> first | exact ⟨hc.1, iha hc.2.1, ihb hc.2.2⟩ | exact hc
  | block id a iha =>
    intro c hc; unfold okCode at hc ⊢; cases c <;> simp only [Bool.and_eq_true] at hc ⊢ <;> first | exact ⟨hc.1, iha hc.2⟩ | exact hc
  | loop a iha =>
    intro c hc; unfold okCode at hc ⊢; cases c <;> simp only at hc ⊢ <;> first | exact iha hc | exact hc
  | scope a iha =>
    intro c hc; unfold okCode at hc ⊢; cases c <;> simp only at hc ⊢ <;> first | exact iha hc | exact hc
  | exit id => intro c hc; exact hc
  | ret => intro c hc; exact hc
  | fail => intro c hc; rfl

/-! ## Results -/
noncomputable def okRes (S : Stat) (n : Nat) : List ResultVar → List Res → Bool
  | [], [] => true
  | r :: rs, a :: as => (match a with
    | .tmp p => (match r with | .tmp t => eqBools p (path t) && decide (t < n) | _ => false)
    | .cell p agg => (match r with | .cell t ty => eqBools p (path t) && decide (t < n) && withTI S ty fun ti => decide (ti.aggN = agg) | _ => false)) && okRes S n rs as
  | _, _ => false

/-- A function of the program and what stands for it. -/
structure FnOK (P : Program) (S : Stat) (f : Nat) (fn : AFunc) : Prop where
  ex : ∃ F c, P.funcs[f]? = some F ∧ (F.name == "runtime.NumGoroutine") = false ∧ F.body = some c ∧ okCode S F.ntmps fn.body c = true ∧ okRes S F.ntmps F.results.toList fn.results = true

noncomputable def okFunc (S : Stat) (F : Func) (fn : AFunc) : Bool :=
  !(F.name == "runtime.NumGoroutine") && (match F.body with | some c => okCode S F.ntmps fn.body c | none => false) && okRes S F.ntmps F.results.toList fn.results

theorem FnOK.of {P : Program} {S : Stat} {f : Nat} {F : Func} {fn : AFunc} (hf : P.funcs[f]? = some F) (h : okFunc S F fn = true) : FnOK P S f fn := by
  simp only [okFunc, Bool.and_eq_true, Bool.not_eq_true'] at h
  obtain ⟨⟨h1, h2⟩, h3⟩ := h
  cases hb : F.body with
  | none => rw [hb] at h2; simp at h2
  | some c => rw [hb] at h2; exact ⟨F, c, hf, h1, hb, h2, h3⟩

section
variable {P : Program} {S : Stat} {w0 : World}

def outExit : Out → Exit
  | .normal => .normal
  | .exit id => .exit id
  | .ret => .ret

/-- What a run of compiled code says of the program's. -/
def Good (_P : Program) (S : Stat) (w0 : World) (r : Out × Env × St) (n : Nat) (wpx : (Exit → Act → World → Prop) → Act → World → Prop) (env : Env) (σ : St) : Prop :=
  ∀ (ν : List Place) (act : Act) (w : World) (Q : Exit → Act → World → Prop), EnvR w0 ν S.tab env act.tmps → act.tmps.size = n → Rel w0 ν σ w →
    (∀ ν' act' w', ν <+: ν' → EnvR w0 ν' S.tab r.2.1 act'.tmps → act'.tmps.size = n → act'.defers = act.defers → Rel w0 ν' r.2.2 w' → Q (outExit r.1) act' w') → wpx Q act w

def WpN (P : Program) (k : Nat) : Code → (Exit → Act → World → Prop) → Act → World → Prop
  | .loop y => fun Q act w => Code.rounds P y Q k act w
  | x => fun Q act w => x.wp P Q act w

theorem WpN.wp {k : Nat} {x : Code} {Q : Exit → Act → World → Prop} {act : Act} {w : World} (h : WpN P k x Q act w) : x.wp P Q act w := by
  cases x with
  | loop y => exact wp_loop_rounds k h
  | _ => exact h

def ExOK (P : Program) (S : Stat) (w0 : World) (k : Nat) (ih : EX) : Prop :=
  ∀ q c env σ r, ih q c env σ = some r → ∀ n x, okCode S n c x = true → Good P S w0 r n (WpN P k x) env σ

def ExQuiet (ih : EX) : Prop := ∀ c env σ o env' σ', ih true c env σ = some (o, env', σ') → σ' = σ

/-! ### Quiet -/
theorem quiet_runOps {T : Tab} {cf : CF} (hcf : Quiet cf) : ∀ (ops : List AOper) (env : Env) (σ : St) (r : Env × St), runOps T cf true ops env σ = some r → r.2 = σ
  | [], env, σ, r, h => by
    have h' : runOps T cf true [] env σ = some (env, σ) := rfl
    rw [h'] at h; rw [← Option.some.inj h]
  | a :: as, env, σ, r, h => by
    have hrun : runOps T cf true (a :: as) env σ = (match wantedA a env with
      | true => (match stepOp T cf true a.op env σ with | some r => setDstK a r.1 env fun env => runOps T cf true as env r.2 | none => none)
      | false => setDstK a undefA env fun env => runOps T cf true as env σ) := rfl
    rw [hrun] at h
    split at h
    · split at h
      · rename_i r1 hs
        rw [setDstK_eq] at h
        rw [quiet_runOps hcf as _ _ r h]
        exact quiet_step hcf (v := r1.1) (σ1 := r1.2) hs
      · simp at h
    · rw [setDstK_eq] at h
      exact quiet_runOps hcf as _ _ r h

theorem quiet_drawOps {T : Tab} {cf : CF} (hcf : Quiet cf) : ∀ (ops : List AOper) (k : Nat) (old : List St) (fl : List Flt) (env : Env) (σ : St) (r : Env × St), drawOps T cf true ops k old fl env σ = some r → r.2 = σ
  | [], _, _, _, env, σ, r, h => by simp only [drawOps, Option.some.injEq] at h; rw [← h]
  | a :: as, k, old, fl, env, σ, r, h => by
    simp only [drawOps] at h
    split at h
    · split at h
      · split at h
        · rename_i r1 hs
          rw [setDstK_eq] at h
          exact quiet_drawOps hcf as _ _ _ _ _ r h
        · simp at h
      · rw [setDstK_eq] at h
        exact quiet_drawOps hcf as _ _ _ _ _ r h
    · split at h
      · split at h
        · split at h
          · rw [setDstK_eq] at h
            exact quiet_drawOps hcf as _ _ _ _ _ r h
          · simp at h
        · simp at h
      · rw [setDstK_eq] at h
        exact quiet_drawOps hcf as _ _ _ _ _ r h
    · split at h
      · split at h
        · rename_i r1 hs
          split at h
          · rw [setDstK_eq] at h
            rw [quiet_drawOps hcf as _ _ _ _ _ r h]
            exact quiet_step hcf (v := r1.1) (σ1 := r1.2) hs
          · simp at h
        · simp at h
      · rw [setDstK_eq] at h
        exact quiet_drawOps hcf as _ _ _ _ _ r h

theorem quiet_callF {T : Tab} {ih : EX} (h : ExQuiet ih) : Quiet (callF T ih) := by
  intro f args σ v σ' hc
  simp only [callF] at hc
  split at hc
  · split at hc
    case isFalse => simp at hc
    split at hc
    · rename_i env1 σ1 hex
      split at hc
      · simp only [Option.some.injEq, Prod.mk.injEq] at hc
        rw [← hc.2]; exact h _ _ _ _ _ _ hex
      · simp at hc
    · rename_i env1 σ1 hex
      split at hc
      · simp only [Option.some.injEq, Prod.mk.injEq] at hc
        rw [← hc.2]; exact h _ _ _ _ _ _ hex
      · simp at hc
    · simp at hc
  · simp at hc

theorem quiet_stepC {T : Tab} {ih : EX} (h : ExQuiet ih) : ExQuiet (stepC T ih) := by
  intro c env σ o env' σ' hc
  cases c with
  | skip => simp [stepC] at hc; exact hc.2.2.symm
  | region d as =>
    cases d with
    | false =>
      simp only [stepC] at hc
      split at hc
      · rename_i r hr
        simp only [Option.some.injEq, Prod.mk.injEq] at hc
        rw [← hc.2.2]; exact quiet_runOps (quiet_callF h) _ _ _ r hr
      · simp at hc
    | true =>
      simp only [stepC] at hc
      split at hc
      · rename_i r hr
        simp only [Option.some.injEq, Prod.mk.injEq] at hc
        rw [← hc.2.2]; exact quiet_drawOps (quiet_callF h) _ _ _ _ _ _ r hr
      · simp at hc
  | seq a b =>
    simp only [stepC] at hc
    split at hc
    · rename_i env1 σ1 h1
      rw [h _ _ _ _ _ _ hc]; exact h _ _ _ _ _ _ h1
    · exact h _ _ _ _ _ _ hc
  | cond c a b =>
    simp only [stepC] at hc
    split at hc
    · exact h _ _ _ _ _ _ hc
    · exact h _ _ _ _ _ _ hc
    · simp at hc
  | block id a =>
    simp only [stepC] at hc
    split at hc
    · rename_i j env1 σ1 h1
      have := h _ _ _ _ _ _ h1
      split at hc <;> (simp only [Option.some.injEq, Prod.mk.injEq] at hc; rw [← hc.2.2]; exact this)
    · exact h _ _ _ _ _ _ hc
  | loop a =>
    simp only [stepC] at hc
    split at hc
    · rename_i env1 σ1 h1
      rw [h _ _ _ _ _ _ hc]; exact h _ _ _ _ _ _ h1
    · exact h _ _ _ _ _ _ hc
  | scope a => exact h _ _ _ _ _ _ hc
  | exit id => simp [stepC] at hc; exact hc.2.2.symm
  | ret => simp [stepC] at hc; exact hc.2.2.symm
  | fail => simp [stepC] at hc

theorem quiet_exec (T : Tab) : ∀ k, ExQuiet (exec T k)
  | 0 => fun _ _ _ _ _ _ h => by
    have : exec T 0 = fun _ _ _ _ => none := rfl
    rw [this] at h; simp at h
  | k + 1 => by
    have : exec T (k + 1) = stepC T (exec T k) := rfl
    rw [this]; exact quiet_stepC (quiet_exec T k)

/-! ### Calls -/
def resVar (tmps : Array Value) : ResultVar → Sem Value
  | .tmp t => pure (tmps.getD t undef)
  | .cell a t => do loadVar t (← asAddr (tmps.getD a undef))

theorem resOne_sim {w : World} {ν : List Place} {σ : St} {env : Env} {tmps : Array Value} (hB : Base P S w0) (henv : EnvR w0 ν S.tab env tmps) (hrel : Rel w0 ν σ w) {n : Nat} {r : ResultVar} {a : Res} {rs : List ResultVar} {as : List Res}
    (hok : okRes S n (r :: rs) (a :: as) = true) {v : AVal} (h : resOne S.tab env σ a = some v) :
    ∃ x, VR w0 ν v x ∧ (resVar tmps r).run P w = .ok x w := by
  simp only [okRes, Bool.and_eq_true] at hok
  obtain ⟨hok, -⟩ := hok
  cases a with
  | tmp p =>
    cases r with
    | cell t ty => simp at hok
    | tmp t =>
      simp only [Bool.and_eq_true] at hok
      have := eqBools_eq hok.1; subst this
      simp only [resOne, Option.some.injEq] at h
      subst h
      exact ⟨_, henv t, rfl⟩
  | cell p agg =>
    cases r with
    | tmp t => simp at hok
    | cell t ty =>
      simp only [Bool.and_eq_true] at hok
      obtain ⟨⟨h1, h2⟩, h3⟩ := hok
      have := eqBools_eq h1; subst this
      unfold withTI at h3
      split at h3
      · rename_i ti hti
        simp only [decide_eq_true_eq] at h3
        have ht := hB.tt ty ti hti
        have hv := henv t
        simp only [resOne] at h
        split at h
        · rename_i b i hp
          rw [hp] at hv
          split at h
          · rename_i f e cs hb
            split at h
            · rename_i l hd
              subst h3
              simp only [VR] at hv
              obtain ⟨p, hp', hv⟩ := hv
              obtain ⟨_, rfl⟩ := dropX_eq.1 hd
              obtain ⟨y, hy, hvy⟩ := load_sim (P := P) ht ((hrel.cellsAt hb hp').drop i) h
              refine ⟨y, hvy, ?_⟩
              show (do loadVar ty (← asAddr (tmps.getD t undef)) : Sem Value).run P w = _
              rw [hv]
              simp [asAddr, hy]
            · simp at h
          · simp at h
        · rename_i cs hp
          rw [hp] at hv
          subst h3
          simp only [VR] at hv
          obtain ⟨r, o, hv, hro⟩ := hv
          obtain ⟨y, hy, hvy⟩ := load_sim (P := P) ht (hro.at hrel.below) h
          refine ⟨y, hvy, ?_⟩
          show (do loadVar ty (← asAddr (tmps.getD t undef)) : Sem Value).run P w = _
          rw [hv]
          simp [asAddr, hy]
        · simp at h
      · simp at h3

theorem resAll_sim {w : World} {ν : List Place} {σ : St} {env : Env} {tmps : Array Value} (hB : Base P S w0) (henv : EnvR w0 ν S.tab env tmps) (hrel : Rel w0 ν σ w) {n : Nat} : ∀ {rs : List ResultVar} {as : List Res},
    okRes S n rs as = true → ∀ {vs : List AVal}, resAll S.tab env σ as = some vs →
    ∃ xs, VRs w0 ν vs xs ∧ (rs.mapM (resVar tmps)).run P w = .ok xs w
  | [], [], _, vs, h => by
    simp only [resAll, Option.some.injEq] at h
    subst h
    exact ⟨[], by simp [VRs], by simp⟩
  | [], _ :: _, h, _, _ => by simp [okRes] at h
  | _ :: _, [], h, _, _ => by simp [okRes] at h
  | r :: rs, a :: as, hok, vs, h => by
    have hok2 : okRes S n rs as = true := by simp only [okRes, Bool.and_eq_true] at hok; exact hok.2
    simp only [resAll] at h
    split at h
    · rename_i v vs' h1 h2
      simp only [Option.some.injEq] at h
      subst h
      obtain ⟨x, hx, hrun⟩ := resOne_sim hB henv hrel hok h1
      obtain ⟨xs, hxs, hruns⟩ := resAll_sim hB henv hrel hok2 h2
      refine ⟨x :: xs, ?_, ?_⟩
      · simp only [VRs]; exact ⟨x, xs, rfl, hx, hxs⟩
      · simp [List.mapM_cons, hrun, hruns]
    · simp at h

theorem results_eq (F : Func) (tmps : Array Value) : results F tmps = (do
    let vs ← F.results.mapM (resVar tmps)
    pure (if h : vs.size = 1 then vs[0] else .tuple vs)) := by
  unfold results
  congr 2

theorem results_sim {w : World} {ν : List Place} {σ : St} {env : Env} {tmps : Array Value} (hB : Base P S w0) (henv : EnvR w0 ν S.tab env tmps) (hrel : Rel w0 ν σ w) {n : Nat} {F : Func} {as : List Res}
    (hok : okRes S n F.results.toList as = true) {v : AVal} (h : resV S.tab env σ as = some v) : ∃ x, VR w0 ν v x ∧ (results F tmps).run P w = .ok x w := by
  unfold resV at h
  cases hr : resAll S.tab env σ as with
  | none => rw [hr] at h; simp at h
  | some vs =>
    rw [hr] at h
    obtain ⟨xs, hxs, hrun⟩ := resAll_sim hB henv hrel hok hr
    have hM : (F.results.mapM (resVar tmps)).run P w = .ok xs.toArray w := by
      have e : F.results = F.results.toList.toArray := by simp
      rw [e, List.mapM_toArray]
      simp [hrun]
    rw [results_eq]
    simp only [Sem.run_bind, hM, Result.andThen_ok, Sem.run_pure]
    cases vs with
    | nil =>
      simp only [VRs] at hxs
      subst hxs
      simp only [Option.some.injEq] at h
      subst h
      exact ⟨_, by simp only [VR]; exact ⟨[], rfl, by simp [VRs]⟩, by simp⟩
    | cons a vs =>
      simp only [VRs] at hxs
      obtain ⟨x, xs', rfl, hx, hxs'⟩ := hxs
      cases vs with
      | nil =>
        simp only [VRs] at hxs'
        subst hxs'
        simp only [Option.some.injEq] at h
        subst h
        exact ⟨x, hx, by simp⟩
      | cons b vs =>
        simp only [VRs] at hxs'
        obtain ⟨y, ys, rfl, hy, hys⟩ := hxs'
        simp only [Option.some.injEq] at h
        subst h
        refine ⟨.tuple (x :: y :: ys).toArray, ?_, by simp⟩
        simp only [VR]
        refine ⟨x :: y :: ys, rfl, ?_⟩
        simp only [VRs]
        exact ⟨x, y :: ys, rfl, hx, y, ys, rfl, hy, hys⟩

theorem envOf_get {w0 : World} {ν : List Place} : ∀ (vs : List AVal) (xs : List Value) (i : Nat) (env : Env) (t : Nat), VRs w0 ν vs xs →
    (t < i → (envOf vs i env).get (path t) = env.get (path t)) ∧
    (i ≤ t → (∃ v x, (envOf vs i env).get (path t) = some v ∧ xs[t - i]? = some x ∧ VR w0 ν v x) ∨ ((envOf vs i env).get (path t) = env.get (path t) ∧ xs[t - i]? = none))
  | [], xs, i, env, t, h => by
    simp only [VRs] at h
    subst h
    exact ⟨fun _ => rfl, fun _ => .inr ⟨rfl, rfl⟩⟩
  | v :: vs, xs, i, env, t, h => by
    simp only [VRs] at h
    obtain ⟨x, xs', rfl, hx, hxs⟩ := h
    obtain ⟨h1, h2⟩ := envOf_get vs xs' (i + 1) (env.set (path i) (some v)) t hxs
    simp only [envOf]
    refine ⟨fun hlt => ?_, fun hle => ?_⟩
    · rw [h1 (by omega), Tr.get_set_other _ _ _ _ (fun e => by have := path_inj e; omega)]
    · by_cases e : t = i
      · subst e
        left
        refine ⟨v, x, ?_, by simp, hx⟩
        rw [h1 (by omega), Tr.get_set_same]
      · have : t - i = (t - (i + 1)) + 1 := by omega
        rw [this, List.getElem?_cons_succ]
        rcases h2 (by omega) with ⟨v', x', g1, g2, g3⟩ | ⟨g1, g2⟩
        · exact .inl ⟨v', x', g1, g2, g3⟩
        · refine .inr ⟨?_, g2⟩
          rw [g1, Tr.get_set_other _ _ _ _ (fun e' => e (path_inj e'))]

theorem envOf_R {ν : List Place} {vs : List AVal} {xs : List Value} (k : Nat) (h : VRs w0 ν vs xs) : EnvR w0 ν S.tab (envOf vs 0 .emp) (xs.toArray ++ Array.replicate k undef) := by
  intro t
  obtain ⟨-, h2⟩ := envOf_get vs xs 0 .emp t h
  have hget : (xs.toArray ++ Array.replicate k undef).getD t undef = (xs[t]?).getD undef := by
    rw [Array.getD_eq_getD_getElem?]
    by_cases hl : t < xs.length
    · rw [Array.getElem?_append_left (by simpa using hl)]; simp
    · rw [Array.getElem?_append_right (by simpa using hl), Array.getElem?_replicate]
      have : xs[t]? = none := by simp; omega
      rw [this]
      split <;> rfl
  rw [hget]
  rcases h2 (Nat.zero_le _) with ⟨v, x, g1, g2, g3⟩ | ⟨g1, g2⟩
  · simp only [Nat.sub_zero] at g2
    simp only [Opd.ev, g1, g2, Option.getD_some]
    exact g3
  · simp only [Nat.sub_zero] at g2
    have : Tr.get (path t) (.emp : Env) = none := Tr.get_e _
    rw [this] at g1
    simp only [Opd.ev, g1, g2, Option.getD_none]
    exact VR_undef

/-- What is said of one function. -/
def CFokF (P : Program) (w0 : World) (cf : CF) (f : Nat) : Prop := ∀ q args σ v σ', cf q f args σ = some (v, σ') → Enters P f ∧ ∀ ν w xs, VRs w0 ν args xs → Rel w0 ν σ w → Calls P f xs.toArray w (Back w0 ν σ' v)

theorem callF_ok (hB : Base P S w0) {k : Nat} {ih : EX} (hT : ∀ f fn, S.tab.fn.get (path f) = some fn → FnOK P S f fn ∨ CFokF P w0 (callF S.tab ih) f) (h : ExOK P S w0 k ih) : CFok P w0 (callF S.tab ih) := by
  intro q f args σ v σ' hc
  have hc0 := hc
  simp only [callF] at hc
  split at hc
  · rename_i fn hfn
    rcases hT f fn hfn with hT | hT
    case inr => exact hT q args σ v σ' hc0
    split at hc
    case isFalse => simp at hc
    obtain ⟨F, c, hF, hname, hbody, hcode, hres⟩ := hT.ex
    refine ⟨⟨F, hF, hname, by simp [hbody]⟩, fun ν w xs hxs hrel => ?_⟩
    refine calls_of_wp hF hbody ?_
    have hR := envOf_R (S := S) (F.ntmps - xs.toArray.size) hxs
    have hsize : F.ntmps ≤ (xs.toArray ++ Array.replicate (F.ntmps - xs.toArray.size) undef).size := by simp; omega
    have main : ∀ out env1 σ1, ih q fn.body (envOf args 0 .emp) σ = some (out, env1, σ1) → (out = .normal ∨ out = .ret) → resV S.tab env1 σ1 fn.results = some v → σ1 = σ' →
        c.wp P (bodyPost P F (Back w0 ν σ' v)) { tmps := xs.toArray ++ Array.replicate (F.ntmps - xs.toArray.size) undef, defers := [] } w := by
      intro out env1 σ1 hex hout hrv hσ
      subst hσ
      refine (h q fn.body _ σ _ hex _ c (okCode_le hsize hcode) ν { tmps := _, defers := [] } w _ hR rfl hrel ?_).wp
      intro ν' act' w' g1 g2 g3 g4 g5
      obtain ⟨x, hx, hrun⟩ := results_sim hB g2 g5 hres hrv
      rcases hout with rfl | rfl
      · exact ⟨g4, x, hrun, ν', x, g1, rfl, hx, g5⟩
      · exact ⟨g4, x, hrun, ν', x, g1, rfl, hx, g5⟩
    split at hc
    · rename_i env1 σ1 hex
      split at hc
      · rename_i v' hrv
        simp only [Option.some.injEq, Prod.mk.injEq] at hc
        obtain ⟨rfl, e⟩ := hc
        exact main _ _ _ hex (.inl rfl) hrv e
      · simp at hc
    · rename_i env1 σ1 hex
      split at hc
      · rename_i v' hrv
        simp only [Option.some.injEq, Prod.mk.injEq] at hc
        obtain ⟨rfl, e⟩ := hc
        exact main _ _ _ hex (.inr rfl) hrv e
      · simp at hc
    · simp at hc
  · simp at hc

theorem Good.up {r : Out × Env × St} {n k : Nat} {x : Code} {env : Env} {σ : St} (hx : ∀ y, x ≠ .loop y)
    (h : Good P S w0 r n (fun Q act w => x.wp P Q act w) env σ) : Good P S w0 r n (WpN P k x) env σ := by
  intro ν act w Q h1 h2 h3 h4
  have := h ν act w Q h1 h2 h3 h4
  cases x with
  | loop y => exact absurd rfl (hx y)
  | _ => exact this

theorem stepC_ok (hm : P.follows .mixedOrders = true) (hB : Base P S w0) {k : Nat} {ih : EX} (hT : ∀ f fn, S.tab.fn.get (path f) = some fn → FnOK P S f fn ∨ CFokF P w0 (callF S.tab ih) f) (hq : ExQuiet ih) (h : ExOK P S w0 k ih) : ExOK P S w0 (k + 1) (stepC S.tab ih) := by
  intro q c env σ r hc n x hok
  cases c with
  | skip =>
    simp only [stepC, Option.some.injEq] at hc
    subst hc
    unfold okCode at hok
    cases x <;> simp only [Bool.false_eq_true] at hok
    · exact Good.up (by simp) fun ν act w Q h1 h2 h3 h4 => wp_skip (h4 ν act w (List.prefix_refl _) h1 h2 rfl h3)
    · exact Good.up (by simp) fun ν act w Q h1 h2 h3 h4 => wp_label (h4 ν act w (List.prefix_refl _) h1 h2 rfl h3)
  | region d as =>
    unfold okCode at hok
    cases x <;> simp only [Bool.false_eq_true] at hok
    rename_i id ops d'
    simp only [Bool.and_eq_true, beq_iff_eq] at hok
    obtain ⟨rfl, hops, hdraw⟩ := hok
    cases d with
    | false =>
      simp only [stepC] at hc
      split at hc
      · rename_i r1 hr
        simp only [Option.some.injEq] at hc
        subst hc
        refine Good.up (by simp) fun ν act w Q h1 h2 h3 h4 => wp_region ?_
        refine wp_runOps hB (callF_ok hB hT h) (List.range ops.size) ops.toList as env σ ν act w r1 ?_ (by simp) hops hr h1 h2 h3 h4
        intro j o hj
        have hlt : j < ops.size := by have := (List.getElem?_eq_some_iff.1 hj).1; simpa using this
        exact ⟨j, by simp [hlt], by simpa using hj⟩
      · simp at hc
    | true =>
      simp only [stepC] at hc
      split at hc
      · rename_i r1 hr
        simp only [Option.some.injEq] at hc
        subst hc
        refine Good.up (by simp) fun ν act w Q h1 h2 h3 h4 => ?_
        exact wp_drawOps hm hB (callF_ok hB hT h) (quiet_callF hq) hops (by simpa using hdraw) hr h1 h2 h3 h4
      · simp at hc
  | seq a b =>
    unfold okCode at hok
    cases x <;> simp only [Bool.false_eq_true] at hok
    rename_i x y
    simp only [Bool.and_eq_true] at hok
    refine Good.up (by simp) fun ν act w Q h1 h2 h3 h4 => wp_seq ?_
    simp only [stepC] at hc
    split at hc
    · rename_i env1 σ1 ha
      refine (h q a env σ _ ha n x hok.1 ν act w _ h1 h2 h3 ?_).wp
      intro ν' act' w' g1 g2 g3 g4 g5
      refine (h q b env1 σ1 _ hc n y hok.2 ν' act' w' _ g2 g3 g5 ?_).wp
      intro ν2 act2 w2 k1 k2 k3 k4 k5
      exact h4 ν2 act2 w2 (g1.trans k1) k2 k3 (k4.trans g4) k5
    · rename_i hne
      refine (h q a env σ _ hc n x hok.1 ν act w _ h1 h2 h3 ?_).wp
      intro ν' act' w' g1 g2 g3 g4 g5
      have := h4 ν' act' w' g1 g2 g3 g4 g5
      obtain ⟨out, env1, σ1⟩ := r
      cases out with
      | normal => exact absurd hc (hne env1 σ1)
      | exit id => exact this
      | ret => exact this
  | cond c a b =>
    unfold okCode at hok
    cases x <;> simp only [Bool.false_eq_true] at hok
    rename_i o x y
    simp only [Bool.and_eq_true] at hok
    obtain ⟨ho, ha, hb⟩ := hok
    refine Good.up (by simp) fun ν act w Q h1 h2 h3 h4 => ?_
    have hv := opd_sim hB h1 ho
    simp only [stepC] at hc
    split at hc
    · rename_i he
      rw [he] at hv
      simp only [VR] at hv
      exact wp_cond_true hv (h q a env σ _ hc n x ha ν act w _ h1 h2 h3 h4).wp
    · rename_i he
      rw [he] at hv
      simp only [VR] at hv
      exact wp_cond_false hv (h q b env σ _ hc n y hb ν act w _ h1 h2 h3 h4).wp
    · simp at hc
  | block id a =>
    unfold okCode at hok
    cases x <;> simp only [Bool.false_eq_true] at hok
    rename_i id' x
    simp only [Bool.and_eq_true, beq_iff_eq] at hok
    obtain ⟨rfl, hx⟩ := hok
    refine Good.up (by simp) fun ν act w Q h1 h2 h3 h4 => wp_block ?_
    simp only [stepC] at hc
    split at hc
    · rename_i j env1 σ1 ha
      refine (h q a env σ _ ha n x hx ν act w _ h1 h2 h3 ?_).wp
      intro ν' act' w' g1 g2 g3 g4 g5
      show (if j = id then Q .normal act' w' else Q (.exit j) act' w')
      split at hc
      · rename_i e
        simp only [Option.some.injEq] at hc
        subst hc
        rw [if_pos e]; exact h4 ν' act' w' g1 g2 g3 g4 g5
      · rename_i e
        simp only [Option.some.injEq] at hc
        subst hc
        rw [if_neg e]; exact h4 ν' act' w' g1 g2 g3 g4 g5
    · rename_i hne
      refine (h q a env σ _ hc n x hx ν act w _ h1 h2 h3 ?_).wp
      intro ν' act' w' g1 g2 g3 g4 g5
      have := h4 ν' act' w' g1 g2 g3 g4 g5
      obtain ⟨out, env1, σ1⟩ := r
      cases out with
      | exit id => exact absurd hc (hne id env1 σ1)
      | normal => exact this
      | ret => exact this
  | loop a =>
    unfold okCode at hok
    cases x <;> simp only [Bool.false_eq_true] at hok
    rename_i x
    intro ν act w Q h1 h2 h3 h4
    show Code.rounds P x Q (k + 1) act w
    rw [rounds_succ]
    simp only [stepC] at hc
    split at hc
    · rename_i env1 σ1 ha
      refine (h q a env σ _ ha n x hok ν act w _ h1 h2 h3 ?_).wp
      intro ν' act' w' g1 g2 g3 g4 g5
      refine h q (.loop a) env1 σ1 _ hc n (.loop x) hok ν' act' w' _ g2 g3 g5 ?_
      intro ν2 act2 w2 k1 k2 k3 k4 k5
      exact h4 ν2 act2 w2 (g1.trans k1) k2 k3 (k4.trans g4) k5
    · rename_i hne
      refine (h q a env σ _ hc n x hok ν act w _ h1 h2 h3 ?_).wp
      intro ν' act' w' g1 g2 g3 g4 g5
      have := h4 ν' act' w' g1 g2 g3 g4 g5
      obtain ⟨out, env1, σ1⟩ := r
      cases out with
      | normal => exact absurd hc (hne env1 σ1)
      | exit id => exact this
      | ret => exact this
  | scope a =>
    unfold okCode at hok
    cases x <;> simp only [Bool.false_eq_true] at hok
    rename_i x
    refine Good.up (by simp) fun ν act w Q h1 h2 h3 h4 => wp_scope_straight ?_
    refine (h q a env σ _ hc n x hok ν act w _ h1 h2 h3 ?_).wp
    intro ν' act' w' g1 g2 g3 g4 g5
    have := h4 ν' act' w' g1 g2 g3 g4 g5
    obtain ⟨out, env1, σ1⟩ := r
    cases out <;> exact this
  | exit id =>
    simp only [stepC, Option.some.injEq] at hc
    subst hc
    unfold okCode at hok
    cases x <;> simp only [Bool.false_eq_true] at hok
    rename_i id'
    simp only [beq_iff_eq] at hok
    subst hok
    exact Good.up (by simp) fun ν act w Q h1 h2 h3 h4 => wp_exit (h4 ν act w (List.prefix_refl _) h1 h2 rfl h3)
  | ret =>
    simp only [stepC, Option.some.injEq] at hc
    subst hc
    unfold okCode at hok
    cases x <;> simp only [Bool.false_eq_true] at hok
    exact Good.up (by simp) fun ν act w Q h1 h2 h3 h4 => wp_ret (h4 ν act w (List.prefix_refl _) h1 h2 rfl h3)
  | fail => simp [stepC] at hc

/-- What is said of the table's functions: each stands for the program's, or is known otherwise. -/
def TabOK (P : Program) (S : Stat) (w0 : World) : Prop := ∀ f fn, S.tab.fn.get (path f) = some fn → FnOK P S f fn ∨ ∀ k, CFokF P w0 (call S.tab k) f

theorem exec_ok (hm : P.follows .mixedOrders = true) (hB : Base P S w0) (hT : TabOK P S w0) : ∀ k, ExOK P S w0 k (exec S.tab k)
  | 0 => fun q c env σ r h => by
    have : exec S.tab 0 = fun _ _ _ _ => none := rfl
    rw [this] at h; simp at h
  | k + 1 => by
    have : exec S.tab (k + 1) = stepC S.tab (exec S.tab k) := rfl
    rw [this]; exact stepC_ok hm hB (fun f fn h => (hT f fn h).imp id fun h => h k) (quiet_exec S.tab k) (exec_ok hm hB hT k)

/-- A whole run of the abstract machine is a run of the program. -/
theorem call_ok (hm : P.follows .mixedOrders = true) (hB : Base P S w0) (hT : TabOK P S w0) (k : Nat) : CFok P w0 (call S.tab k) :=
  callF_ok hB (fun f fn h => (hT f fn h).imp id fun h => h k) (exec_ok hm hB hT k)
end
end Go.Ab

/- The abstract machine, part 29: runs without a bound on their depth, as equations. -/
namespace Go.Ab
open Go Go.RowKit

def LeX (f g : EX) : Prop := ∀ q c env σ r, f q c env σ = some r → g q c env σ = some r
def LeC (f g : CF) : Prop := ∀ q fn args σ r, f q fn args σ = some r → g q fn args σ = some r

section
variable {T : Tab} {cf cf' : CF} {q : Bool}

theorem stepOp_mono (h : LeC cf cf') {op : AOp} {env : Env} {σ : St} {r : AVal × St} (hs : stepOp T cf q op env σ = some r) : stepOp T cf' q op env σ = some r := by
  cases op
  case call f as => exact h _ _ _ _ _ hs
  case callV f as =>
    simp only [stepOp, opCallV] at hs ⊢
    split at hs
    · rename_i heq; exact h _ _ _ _ _ hs
    · simp at hs
  all_goals exact hs

theorem stays_mono (h : LeC cf cf') {op : AOp} {env : Env} {v : AVal} {σ : St} (hs : stays T cf op env v σ = true) : stays T cf' op env v σ = true := by
  unfold stays at hs ⊢
  split at hs
  · rename_i r hr; rw [stepOp_mono h hr]; exact hs
  · simp at hs

theorem staysAll_mono (h : LeC cf cf') {op : AOp} {env : Env} {v : AVal} : ∀ {n : Nat} {l : List St}, staysAll T cf op env v n l = true → staysAll T cf' op env v n l = true
  | 0, _, _ => by simp [staysAll]
  | _ + 1, [], hs => by simp [staysAll] at hs
  | n + 1, s :: l, hs => by
    simp only [staysAll, Bool.and_eq_true] at hs ⊢
    exact ⟨stays_mono h hs.1, staysAll_mono h hs.2⟩

theorem fltsStay_mono (h : LeC cf cf') {k : Nat} {σ : St} : ∀ {l : List Flt}, fltsStay T cf k σ l = true → fltsStay T cf' k σ l = true
  | [], _ => rfl
  | f :: l, hs => by
    simp only [fltsStay, Bool.and_eq_true, Bool.or_eq_true] at hs ⊢
    exact ⟨hs.1.imp id (stays_mono h), fltsStay_mono h hs.2⟩

theorem runOps_cons (a : AOper) (as : List AOper) (env : Env) (σ : St) : runOps T cf q (a :: as) env σ = (match wantedA a env with
      | true => (match stepOp T cf q a.op env σ with | some r => runOps T cf q as (setDst a r.1 env) r.2 | none => none)
      | false => runOps T cf q as (setDst a undefA env) σ) := by
  have hrun : runOps T cf q (a :: as) env σ = (match wantedA a env with
      | true => (match stepOp T cf q a.op env σ with | some r => setDstK a r.1 env fun env => runOps T cf q as env r.2 | none => none)
      | false => setDstK a undefA env fun env => runOps T cf q as env σ) := rfl
  rw [hrun]
  simp only [setDstK_eq]
theorem runOps_nil (env : Env) (σ : St) : runOps T cf q [] env σ = some (env, σ) := rfl

theorem runOps_mono (h : LeC cf cf') : ∀ {ops : List AOper} {env : Env} {σ : St} {r : Env × St}, runOps T cf q ops env σ = some r → runOps T cf' q ops env σ = some r
  | [], _, _, _, hs => hs
  | a :: as, env, σ, r, hs => by
    rw [runOps_cons] at hs ⊢
    split at hs
    · split at hs
      · rename_i r1 h1; rw [stepOp_mono h h1]; exact runOps_mono h hs
      · simp at hs
    · exact runOps_mono h hs

theorem drawOps_mono (h : LeC cf cf') : ∀ {ops : List AOper} {k : Nat} {old : List St} {fl : List Flt} {env : Env} {σ : St} {r : Env × St}, drawOps T cf q ops k old fl env σ = some r → drawOps T cf' q ops k old fl env σ = some r
  | [], _, _, _, _, _, _, hs => hs
  | a :: as, k, old, fl, env, σ, r, hs => by
    simp only [drawOps, setDstK_eq] at hs ⊢
    split at hs
    · split at hs
      · split at hs
        · rename_i r1 h1; rw [stepOp_mono h h1]; exact drawOps_mono h hs
        · simp at hs
      · exact drawOps_mono h hs
    · split at hs
      · split at hs
        · rename_i r1 h1
          rw [stepOp_mono h h1]
          split at hs
          · rename_i h2; simp only [staysAll_mono h h2, if_true]; exact drawOps_mono h hs
          · simp at hs
        · simp at hs
      · exact drawOps_mono h hs
    · split at hs
      · split at hs
        · rename_i r1 h1
          rw [stepOp_mono h h1]
          split at hs
          · rename_i h2; simp only [fltsStay_mono h h2, if_true]; exact drawOps_mono h hs
          · simp at hs
        · simp at hs
      · exact drawOps_mono h hs
end

section
variable {T : Tab} {ih ih' : EX}

theorem callF_mono (h : LeX ih ih') : LeC (callF T ih) (callF T ih') := by
  intro q f args σ r hs
  simp only [callF] at hs ⊢
  split at hs
  · rename_i fn hfn
    split at hs
    case isFalse => simp at hs
    rename_i har
    rw [if_pos har]
    split at hs
    · rename_i env1 σ1 h1; simp only [h _ _ _ _ _ h1]; exact hs
    · rename_i env1 σ1 h1; simp only [h _ _ _ _ _ h1]; exact hs
    · simp at hs
  · simp at hs

theorem stepC_mono (h : LeX ih ih') : LeX (stepC T ih) (stepC T ih') := by
  intro q c env σ r hs
  cases c with
  | skip => exact hs
  | region d as =>
    cases d with
    | false =>
      simp only [stepC] at hs ⊢
      split at hs
      · rename_i r1 h1; simp only [runOps_mono (callF_mono h) h1]; exact hs
      · simp at hs
    | true =>
      simp only [stepC] at hs ⊢
      split at hs
      · rename_i r1 h1; simp only [drawOps_mono (callF_mono h) h1]; exact hs
      · simp at hs
  | seq a b =>
    simp only [stepC] at hs ⊢
    split at hs
    · rename_i env1 σ1 h1; simp only [h _ _ _ _ _ h1]; exact h _ _ _ _ _ hs
    · rename_i hne
      rw [h _ _ _ _ _ hs]
      obtain ⟨o, env1, σ1⟩ := r
      cases o with
      | normal => exact absurd hs (hne env1 σ1)
      | _ => rfl
  | cond c a b =>
    simp only [stepC] at hs ⊢
    split at hs
    · exact h _ _ _ _ _ hs
    · exact h _ _ _ _ _ hs
    · simp at hs
  | block id a =>
    simp only [stepC] at hs ⊢
    split at hs
    · rename_i j env1 σ1 h1; simp only [h _ _ _ _ _ h1]; exact hs
    · rename_i hne
      rw [h _ _ _ _ _ hs]
      obtain ⟨o, env1, σ1⟩ := r
      cases o with
      | exit j => exact absurd hs (hne j env1 σ1)
      | _ => rfl
  | loop a =>
    simp only [stepC] at hs ⊢
    split at hs
    · rename_i env1 σ1 h1; simp only [h _ _ _ _ _ h1]; exact h _ _ _ _ _ hs
    · rename_i hne
      rw [h _ _ _ _ _ hs]
      obtain ⟨o, env1, σ1⟩ := r
      cases o with
      | normal => exact absurd hs (hne env1 σ1)
      | _ => rfl
  | scope a => exact h _ _ _ _ _ hs
  | exit id => exact hs
  | ret => exact hs
  | fail => exact hs
end

theorem exec_succ (T : Tab) (n : Nat) : exec T (n + 1) = stepC T (exec T n) := rfl

theorem exec_le (T : Tab) : ∀ n, LeX (exec T n) (exec T (n + 1))
  | 0 => fun q c env σ r h => by
    have : exec T 0 = fun _ _ _ _ => none := rfl
    rw [this] at h; simp at h
  | n + 1 => by rw [exec_succ, exec_succ T (n + 1)]; exact stepC_mono (exec_le T n)

theorem exec_mono (T : Tab) {n m : Nat} (h : n ≤ m) : LeX (exec T n) (exec T m) := by
  induction h with
  | refl => exact fun _ _ _ _ _ h => h
  | step _ ih => exact fun q c env σ r h => exec_le T _ q c env σ r (ih q c env σ r h)

open Classical in
/-- A run, however deep. -/
noncomputable def Ew (T : Tab) : EX := fun q c env σ => if h : ∃ r n, exec T n q c env σ = some r then some h.choose else none

theorem Ew_iff {T : Tab} {q : Bool} {c : ACode} {env : Env} {σ : St} {r : Out × Env × St} : Ew T q c env σ = some r ↔ ∃ n, exec T n q c env σ = some r := by
  unfold Ew
  split
  · rename_i h
    obtain ⟨m, hm⟩ := h.choose_spec
    constructor
    · intro e; rw [← Option.some.inj e]; exact ⟨m, hm⟩
    · rintro ⟨n, hn⟩
      have h1 := exec_mono T (Nat.le_max_left n m) _ _ _ _ _ hn
      have h2 := exec_mono T (Nat.le_max_right n m) _ _ _ _ _ hm
      rw [h1] at h2; rw [Option.some.inj h2]
  · rename_i h
    constructor
    · intro e; simp at e
    · rintro ⟨n, hn⟩; exact absurd ⟨r, n, hn⟩ h

noncomputable def Cw (T : Tab) : CF := callF T (Ew T)

theorem Ew_le (T : Tab) (n : Nat) : LeX (exec T n) (Ew T) := fun _ _ _ _ _ h => Ew_iff.2 ⟨n, h⟩

theorem Cw_iff {T : Tab} {q : Bool} {f : Nat} {args : List AVal} {σ : St} {r : AVal × St} : Cw T q f args σ = some r ↔ ∃ n, call T n q f args σ = some r := by
  constructor
  · intro h
    simp only [Cw, callF] at h
    split at h
    · rename_i fn hfn
      split at h
      case isFalse => simp at h
      rename_i har
      split at h
      · rename_i env1 σ1 h1
        obtain ⟨n, hn⟩ := Ew_iff.1 h1
        refine ⟨n, ?_⟩
        simp only [call, callF, hfn, hn, if_pos har]; exact h
      · rename_i env1 σ1 h1
        obtain ⟨n, hn⟩ := Ew_iff.1 h1
        refine ⟨n, ?_⟩
        simp only [call, callF, hfn, hn, if_pos har]; exact h
      · simp at h
    · simp at h
  · rintro ⟨n, h⟩
    exact callF_mono (Ew_le T n) _ _ _ _ _ h

theorem call_mono (T : Tab) {n m : Nat} (h : n ≤ m) : LeC (call T n) (call T m) := callF_mono (exec_mono T h)
theorem call_le (T : Tab) (n : Nat) : LeC (call T n) (Cw T) := fun _ _ _ _ _ h => Cw_iff.2 ⟨n, h⟩

section
variable {T : Tab} {q : Bool}

theorem stepOp_cont {op : AOp} {env : Env} {σ : St} {r : AVal × St} (h : stepOp T (Cw T) q op env σ = some r) : ∃ n, stepOp T (call T n) q op env σ = some r := by
  cases op
  case call f as => exact Cw_iff.1 h
  case callV f as =>
    simp only [stepOp, opCallV] at h ⊢
    split at h
    · exact Cw_iff.1 h
    · simp at h
  all_goals exact ⟨0, h⟩

theorem stays_cont {op : AOp} {env : Env} {v : AVal} {σ : St} (h : stays T (Cw T) op env v σ = true) : ∃ n, stays T (call T n) op env v σ = true := by
  unfold stays at h
  split at h
  · rename_i r hr
    obtain ⟨n, hn⟩ := stepOp_cont hr
    exact ⟨n, by unfold stays; rw [hn]; exact h⟩
  · simp at h

theorem staysAll_cont {op : AOp} {env : Env} {v : AVal} : ∀ {n : Nat} {l : List St}, staysAll T (Cw T) op env v n l = true → ∃ k, staysAll T (call T k) op env v n l = true
  | 0, _, _ => ⟨0, by simp [staysAll]⟩
  | _ + 1, [], h => by simp [staysAll] at h
  | n + 1, s :: l, h => by
    simp only [staysAll, Bool.and_eq_true] at h
    obtain ⟨a, ha⟩ := stays_cont h.1
    obtain ⟨b, hb⟩ := staysAll_cont h.2
    refine ⟨max a b, ?_⟩
    simp only [staysAll, Bool.and_eq_true]
    exact ⟨stays_mono (call_mono T (Nat.le_max_left a b)) ha, staysAll_mono (call_mono T (Nat.le_max_right a b)) hb⟩

theorem fltsStay_cont {k : Nat} {σ : St} : ∀ {l : List Flt}, fltsStay T (Cw T) k σ l = true → ∃ n, fltsStay T (call T n) k σ l = true
  | [], _ => ⟨0, rfl⟩
  | f :: l, h => by
    simp only [fltsStay, Bool.and_eq_true, Bool.or_eq_true] at h
    obtain ⟨b, hb⟩ := fltsStay_cont h.2
    rcases h.1 with h1 | h1
    · refine ⟨b, ?_⟩
      simp only [fltsStay, Bool.and_eq_true, Bool.or_eq_true]
      exact ⟨.inl h1, hb⟩
    · obtain ⟨a, ha⟩ := stays_cont h1
      refine ⟨max a b, ?_⟩
      simp only [fltsStay, Bool.and_eq_true, Bool.or_eq_true]
      exact ⟨.inr (stays_mono (call_mono T (Nat.le_max_left a b)) ha), fltsStay_mono (call_mono T (Nat.le_max_right a b)) hb⟩

theorem runOps_cont : ∀ {ops : List AOper} {env : Env} {σ : St} {r : Env × St}, runOps T (Cw T) q ops env σ = some r → ∃ n, runOps T (call T n) q ops env σ = some r
  | [], _, _, _, h => ⟨0, h⟩
  | a :: as, env, σ, r, h => by
    rw [runOps_cons] at h
    split at h
    · rename_i hw
      split at h
      · rename_i r1 h1
        obtain ⟨x, hx⟩ := stepOp_cont h1
        obtain ⟨y, hy⟩ := runOps_cont h
        refine ⟨max x y, ?_⟩
        rw [runOps_cons, hw]
        simp only [stepOp_mono (call_mono T (Nat.le_max_left x y)) hx]
        exact runOps_mono (call_mono T (Nat.le_max_right x y)) hy
      · simp at h
    · rename_i hw
      obtain ⟨y, hy⟩ := runOps_cont h
      exact ⟨y, by rw [runOps_cons, hw]; exact hy⟩

theorem drawOps_cont : ∀ {ops : List AOper} {k : Nat} {old : List St} {fl : List Flt} {env : Env} {σ : St} {r : Env × St}, drawOps T (Cw T) q ops k old fl env σ = some r → ∃ n, drawOps T (call T n) q ops k old fl env σ = some r
  | [], _, _, _, _, _, _, h => ⟨0, h⟩
  | a :: as, k, old, fl, env, σ, r, h => by
    simp only [drawOps, setDstK_eq] at h
    split at h
    · rename_i hd
      split at h
      · rename_i hw
        split at h
        · rename_i r1 h1
          obtain ⟨x, hx⟩ := stepOp_cont h1
          obtain ⟨y, hy⟩ := drawOps_cont h
          refine ⟨max x y, ?_⟩
          simp only [drawOps, setDstK_eq, hd, hw, stepOp_mono (call_mono T (Nat.le_max_left x y)) hx]
          exact drawOps_mono (call_mono T (Nat.le_max_right x y)) hy
        · simp at h
      · rename_i hw
        obtain ⟨y, hy⟩ := drawOps_cont h
        exact ⟨y, by simp only [drawOps, setDstK_eq, hd, hw]; exact hy⟩
    · rename_i lo hi hd
      split at h
      · rename_i hw
        split at h
        · rename_i r1 h1
          split at h
          · rename_i h2
            obtain ⟨x, hx⟩ := stepOp_cont h1
            obtain ⟨y, hy⟩ := staysAll_cont h2
            obtain ⟨z, hz⟩ := drawOps_cont h
            refine ⟨max x (max y z), ?_⟩
            simp only [drawOps, setDstK_eq, hd, hw, stepOp_mono (call_mono T (Nat.le_max_left x (max y z))) hx,
              staysAll_mono (call_mono T (Nat.le_trans (Nat.le_max_left y z) (Nat.le_max_right x _))) hy, if_true]
            exact drawOps_mono (call_mono T (Nat.le_trans (Nat.le_max_right y z) (Nat.le_max_right x _))) hz
          · simp at h
        · simp at h
      · rename_i hw
        obtain ⟨y, hy⟩ := drawOps_cont h
        exact ⟨y, by simp only [drawOps, setDstK_eq, hd, hw]; exact hy⟩
    · rename_i hd
      split at h
      · rename_i hw
        split at h
        · rename_i r1 h1
          split at h
          · rename_i h2
            obtain ⟨x, hx⟩ := stepOp_cont h1
            obtain ⟨y, hy⟩ := fltsStay_cont h2
            obtain ⟨z, hz⟩ := drawOps_cont h
            refine ⟨max x (max y z), ?_⟩
            simp only [drawOps, setDstK_eq, hd, hw, stepOp_mono (call_mono T (Nat.le_max_left x (max y z))) hx,
              fltsStay_mono (call_mono T (Nat.le_trans (Nat.le_max_left y z) (Nat.le_max_right x _))) hy, if_true]
            exact drawOps_mono (call_mono T (Nat.le_trans (Nat.le_max_right y z) (Nat.le_max_right x _))) hz
          · simp at h
        · simp at h
      · rename_i hw
        obtain ⟨y, hy⟩ := drawOps_cont h
        exact ⟨y, by simp only [drawOps, setDstK_eq, hd, hw]; exact hy⟩

/-- A step with runs of any depth below it is a run. -/
theorem Ew_of {c : ACode} {env : Env} {σ : St} {r : Out × Env × St} (h : stepC T (Ew T) q c env σ = some r) : Ew T q c env σ = some r := by
  have fin : ∀ n, stepC T (exec T n) q c env σ = some r → Ew T q c env σ = some r := fun n h => Ew_iff.2 ⟨n + 1, h⟩
  cases c with
  | skip => exact fin 0 h
  | region d as =>
    cases d with
    | false =>
      simp only [stepC] at h
      split at h
      · rename_i r1 h1
        obtain ⟨n, hn⟩ := runOps_cont h1
        exact fin n (by simp only [stepC]; rw [show callF T (exec T n) = call T n from rfl, hn]; exact h)
      · simp at h
    | true =>
      simp only [stepC] at h
      split at h
      · rename_i r1 h1
        obtain ⟨n, hn⟩ := drawOps_cont h1
        exact fin n (by simp only [stepC]; rw [show callF T (exec T n) = call T n from rfl, hn]; exact h)
      · simp at h
  | seq a b =>
    simp only [stepC] at h
    split at h
    · rename_i env1 σ1 h1
      obtain ⟨x, hx⟩ := Ew_iff.1 h1
      obtain ⟨y, hy⟩ := Ew_iff.1 h
      exact fin (max x y) (by simp only [stepC, exec_mono T (Nat.le_max_left x y) _ _ _ _ _ hx]; exact exec_mono T (Nat.le_max_right x y) _ _ _ _ _ hy)
    · rename_i hne
      obtain ⟨x, hx⟩ := Ew_iff.1 h
      refine fin x ?_
      simp only [stepC, hx]
      obtain ⟨o, env1, σ1⟩ := r
      cases o with
      | normal => exact absurd h (hne env1 σ1)
      | _ => rfl
  | cond c a b =>
    simp only [stepC] at h
    split at h
    · rename_i hc
      obtain ⟨x, hx⟩ := Ew_iff.1 h
      exact fin x (by simp only [stepC, hc]; exact hx)
    · rename_i hc
      obtain ⟨x, hx⟩ := Ew_iff.1 h
      exact fin x (by simp only [stepC, hc]; exact hx)
    · simp at h
  | block id a =>
    simp only [stepC] at h
    split at h
    · rename_i j env1 σ1 h1
      obtain ⟨x, hx⟩ := Ew_iff.1 h1
      exact fin x (by simp only [stepC, hx]; exact h)
    · rename_i hne
      obtain ⟨x, hx⟩ := Ew_iff.1 h
      refine fin x ?_
      simp only [stepC, hx]
      obtain ⟨o, env1, σ1⟩ := r
      cases o with
      | exit j => exact absurd h (hne j env1 σ1)
      | _ => rfl
  | loop a =>
    simp only [stepC] at h
    split at h
    · rename_i env1 σ1 h1
      obtain ⟨x, hx⟩ := Ew_iff.1 h1
      obtain ⟨y, hy⟩ := Ew_iff.1 h
      exact fin (max x y) (by simp only [stepC, exec_mono T (Nat.le_max_left x y) _ _ _ _ _ hx]; exact exec_mono T (Nat.le_max_right x y) _ _ _ _ _ hy)
    · rename_i hne
      obtain ⟨x, hx⟩ := Ew_iff.1 h
      refine fin x ?_
      simp only [stepC, hx]
      obtain ⟨o, env1, σ1⟩ := r
      cases o with
      | normal => exact absurd h (hne env1 σ1)
      | _ => rfl
  | scope a =>
    obtain ⟨x, hx⟩ := Ew_iff.1 (show Ew T q a env σ = some r from h)
    exact fin x hx
  | exit id => exact fin 0 h
  | ret => exact fin 0 h
  | fail => simp [stepC] at h

theorem Ew_eq (T : Tab) (q : Bool) (c : ACode) (env : Env) (σ : St) : Ew T q c env σ = stepC T (Ew T) q c env σ := by
  cases h : stepC T (Ew T) q c env σ with
  | some r => exact Ew_of h
  | none =>
    cases h2 : Ew T q c env σ with
    | none => rfl
    | some r =>
      exfalso
      obtain ⟨n, hn⟩ := Ew_iff.1 h2
      have h3 := exec_le T n _ _ _ _ _ hn
      rw [exec_succ] at h3
      have h4 := stepC_mono (T := T) (Ew_le T n) _ _ _ _ _ h3
      rw [h] at h4; simp at h4
end

/-- A run of any depth is a run of the program. -/
theorem Cw_ok {P : Program} {S : Stat} {w0 : World} (hm : P.follows .mixedOrders = true) (hB : Base P S w0) (hT : TabOK P S w0) : CFok P w0 (Cw S.tab) := by
  intro q f args σ v σ' h
  obtain ⟨n, hn⟩ := Cw_iff.1 h
  exact call_ok hm hB hT n q f args σ v σ' hn
end Go.Ab

/- The abstract machine, part 30: checks of whole tables. -/
namespace Go.Ab
open Go Go.RowKit

noncomputable def Tr.all {α : Type} (f : Nat → α → Bool) : List Bool → Tr α → Bool
  | _, .emp => true
  | acc, .n l v r => Tr.all f (false :: acc) l && ((match v with | some x => f (unpath acc.reverse) x | none => true) && Tr.all f (true :: acc) r)

theorem Tr.all_spec {α : Type} {f : Nat → α → Bool} : ∀ (t : Tr α) (acc p : List Bool) (x : α), Tr.all f acc t = true → t.get p = some x → f (unpath (acc.reverse ++ p)) x = true
  | .emp, _, p, x, _, h => by simp at h
  | .n l v r, acc, p, x, hall, h => by
    simp only [Tr.all, Bool.and_eq_true] at hall
    obtain ⟨h1, h2, h3⟩ := hall
    cases p with
    | nil =>
      have : v = some x := h
      subst this
      simpa using h2
    | cons b p =>
      cases b with
      | false =>
        have := Tr.all_spec l (false :: acc) p x h1 h
        simpa using this
      | true =>
        have := Tr.all_spec r (true :: acc) p x h3 h
        simpa using this

theorem unpath_path (k : Nat) : unpath (path k) = k := unpath_go k k (Nat.le_refl _)

theorem Tr.all_path {α : Type} {f : Nat → α → Bool} {t : Tr α} (h : Tr.all f [] t = true) {k : Nat} {x : α} (hx : t.get (path k) = some x) : f k x = true := by
  have := Tr.all_spec t [] (path k) x h hx
  simpa [unpath_path] using this

noncomputable def okTI (P : Program) (t : TypeId) (ti : TI) : Bool :=
  match P.info? t, P.underlying t with
  | some i, some d => i.size == ti.size && (i.bytes == ti.bytes && ((match i.zero with | some z => (match avals z.cells.toList with | some l => eqAs l ti.zero | none => false) | none => false) && decide (tdOf d = ti.d)))
  | _, _ => false

theorem okTI_spec {P : Program} {t : TypeId} {ti : TI} (h : okTI P t ti = true) : OkTI P t ti := by
  unfold okTI at h
  split at h
  · rename_i i d hi hd
    simp only [Bool.and_eq_true, beq_iff_eq, decide_eq_true_eq] at h
    obtain ⟨h1, h2, h3, h4⟩ := h
    cases hz : i.zero with
    | none => rw [hz] at h3; simp at h3
    | some z =>
      rw [hz] at h3; simp only at h3
      cases ha : avals z.cells.toList with
      | none => rw [ha] at h3; simp at h3
      | some l =>
        rw [ha] at h3; simp only at h3
        exact ⟨⟨i, z, hi, h1, h2, hz, by rw [ha, eqAs_eq _ _ h3]⟩, d, hd, h4⟩
  · simp at h

theorem OKS.of {P : Program} {S : Stat} (h : Tr.all (okTI P) [] S.tt = true) : OKS P S := fun _ _ ht => okTI_spec (Tr.all_path h ht)

noncomputable def okFnAt (P : Program) (S : Stat) (ex : List Nat) (f : Nat) (fn : AFunc) : Bool :=
  ex.contains f || (match P.funcs[f]? with | some F => okFunc S F fn | none => false)

theorem TabOK.of {P : Program} {S : Stat} {w0 : World} (ex : List Nat) (h : Tr.all (okFnAt P S ex) [] S.tab.fn = true) (hex : ∀ f ∈ ex, ∀ k, CFokF P w0 (call S.tab k) f) : TabOK P S w0 := by
  intro f fn hf
  have := Tr.all_path h hf
  unfold okFnAt at this
  rw [Bool.or_eq_true] at this
  rcases this with h1 | h1
  · exact .inr (hex f (by simpa using h1))
  · left
    cases hF : P.funcs[f]? with
    | none => rw [hF] at h1; simp at h1
    | some F => rw [hF] at h1; exact FnOK.of hF h1
end Go.Ab

/- The abstract machine, part 31: casts; what a run from nothing gives. -/
namespace Go.Ab
open Go Go.RowKit

noncomputable def okCasts (P : Program) : List (Nat × Nat × Nat × Nat) → Bool
  | [] => true
  | (e, n, i, u) :: l => (liesAt P P.depth e (n / P.cellsOf e) i u 1 && P.cellsOf e != 0) && okCasts P l

theorem okCasts_spec {P : Program} : ∀ {l : List (Nat × Nat × Nat × Nat)}, okCasts P l = true → ∀ e n i u, inCasts e n i u l = true → liesAt P P.depth e (n / P.cellsOf e) i u 1 = true ∧ P.cellsOf e ≠ 0
  | [], _, e, n, i, u, h => by simp [inCasts] at h
  | (a, b, c, d) :: l, hok, e, n, i, u, h => by
    simp only [okCasts, Bool.and_eq_true, bne_iff_ne, ne_eq] at hok
    simp only [inCasts, Bool.or_eq_true, Bool.and_eq_true, beq_iff_eq] at h
    rcases h with ⟨⟨⟨rfl, rfl⟩, rfl⟩, rfl⟩ | h
    · exact hok.1
    · exact okCasts_spec hok.2 e n i u h

theorem CastsOK.of {P : Program} {T : Tab} (h : okCasts P T.casts = true) : CastsOK P T := okCasts_spec h

theorem Rel.nothing (W : World) : Rel W [] st0 W :=
  ⟨Below.refl _ _, rfl, fun b o h => by
    have : st0.get b = none := Tr.get_e _
    rw [this] at h; simp at h, fun b b' o o' p p' h => by
    have : st0.get b = none := Tr.get_e _
    rw [this] at h; simp at h⟩

/-- A run from nothing, in whatever world. -/
theorem calls_of_run {P : Program} {W : World} {cf : CF} (hcf : CFok P W cf) {q : Bool} {f : Nat} {args : List AVal} {σ' : St} {v : AVal} (h : cf q f args st0 = some (v, σ')) {xs : List Value} (hxs : VRs W [] args xs) :
    Calls P f xs.toArray W fun e w' => ∃ ν x, e = .returned x ∧ VR W ν v x ∧ Rel W ν σ' w' := by
  refine ((hcf q f args st0 v σ' h).2 [] W xs hxs (Rel.nothing W)).mono ?_
  rintro e w' ⟨ν', x, -, h1, h2, h3⟩
  exact ⟨ν', x, h1, h2, h3⟩
end Go.Ab

/- The abstract machine, part 32: what a datum of the rows is as abstract cells. -/
namespace Go.Ab
open Go Go.RowKit

noncomputable def davAll {H : Type} (f : DataW H → Option (List AVal)) : List (DataW H) → Option (List AVal)
  | [] => some []
  | d :: ds => match f d, davAll f ds with | some x, some y => some (x ++ y) | _, _ => none

/-- The parts of a struct: one behind the other. -/
noncomputable def davFields {H : Type} (f : TypeId → DataW H → Option (List AVal)) : List (Nat × TypeId) → Nat → List (DataW H) → Option (List AVal)
  | [], _, [] => some []
  | (off, t) :: fs, pos, d :: ds => if off = pos then (match f t d with | some x => (match davFields f fs (pos + x.length) ds with | some y => some (x ++ y) | none => none) | none => none) else none
  | _, _, _ => none

/-- An element, if there is one, has cells. -/
noncomputable def davHead {H : Type} (f : DataW H → Option (List AVal)) : List (DataW H) → Bool
  | [] => true
  | d :: _ => match f d with | some (_ :: _) => true | _ => false

noncomputable def dav1 {H : Type} (f : TypeId → DataW H → Option (List AVal)) (td : TD) (d : DataW H) : Option (List AVal) :=
  match td, d with
  | .bool, .lit (.bool b) => some [.bool b]
  | .int k, .lit (.int k' m) => if k' = k then some [.int k m] else none
  | .str, .lit (.string bs) => some [.str (bs.map (·.toNat))]
  | .ptr _, .nil => some [.nilp]
  | .slice _, .nil => some [.nils]
  | .slice e, .slice es _ => if davHead (f e) es = true then (match davAll (f e) es with | some l => some [.rslice es.length l] | none => none) else none
  | .struct fs, .agg ds => davFields f fs 0 ds
  | .arr m e, .agg ds => if ds.length = m then davAll (f e) ds else none
  | _, _ => none

noncomputable def dav (tt : Tr TI) {H : Type} : Nat → TypeId → DataW H → Option (List AVal)
  | 0, _, _ => none
  | n + 1, t, d =>
    match tt.get (path t) with
    | none => none
    | some ti =>
      match dav1 (dav tt n) ti.d d with
      | some l => if l.length = ti.size then some l else none
      | none => none

section
variable {w : World} {ν : List Place}

theorem ROs_append {r o : Nat} {as bs : List AVal} (h1 : ROs w ν r o as) (h2 : ROs w ν r (o + as.length) bs) : ROs w ν r o (as ++ bs) := by
  rw [ROs_iff] at h1 h2 ⊢
  intro j a ha
  by_cases hj : j < as.length
  · rw [List.getElem?_append_left hj] at ha; exact h1 j a ha
  · rw [List.getElem?_append_right (by omega)] at ha
    obtain ⟨x, hx, hax⟩ := h2 (j - as.length) a ha
    exact ⟨x, by rw [show o + j = o + as.length + (j - as.length) by omega]; exact hx, hax⟩

theorem ROs_of {r o : Nat} {as : List AVal} {cs : List Value} (h : VRs w ν as cs) (hc : ∀ (j : Nat) v, cs[j]? = some v → w.cell? ⟨r, o + j, none⟩ = some v) : ROs w ν r o as := by
  rw [ROs_iff]
  intro j a ha
  obtain ⟨x, hx, hax⟩ := VRs_get h ha
  exact ⟨x, hc j x hx, hax⟩

theorem cells_at {base : Nat} {a : Addr} {n : Nat} {cs : List Value} (h : w.cells? base a n = some cs) : cs.length = n ∧ ∀ (j : Nat) v, cs[j]? = some v → w.cell? (a.add j) = some v := by
  unfold World.cells? at h
  split at h
  · have hl := Lib.mapM_length h
    refine ⟨by simpa using hl, fun j v hv => ?_⟩
    have hj : j < n := by have := (List.getElem?_eq_some_iff.1 hv).1; simpa [hl] using this
    obtain ⟨b, hb, hb'⟩ := Lib.mapM_at h j j (by simp [hj])
    rw [hv] at hb; cases hb; exact hb'
  · simp at h

variable {P : Program} {S : Stat} {H : Type} {enc : TypeId × Value → H} {sp : Nat → Bool} {held : Bool}

theorem OkTI.cells {t : TypeId} {ti : TI} (h : OkTI P t ti) : P.cellsOf t = ti.size := by
  obtain ⟨i, z, hi, hs, _⟩ := h.info
  simp [Program.cellsOf, hi, hs]

/-- What 'trod' reads of so many cells. -/
def ReadsAs (P : Program) (w : World) (tt : Tr TI) (enc : TypeId × Value → H) (sp : Nat → Bool) (held : Bool) (fuel : Nat) : Prop :=
  ∀ (n : Nat) (t : TypeId) (cs : List Value) (d : DataW H) (p : List MemPlace) (as : List AVal), DataW.trod enc P w 0 sp held fuel t cs = some (d, p) → dav tt n t d = some as → VRs w [] as cs ∧ cs.length = P.cellsOf t

theorem rows_read {tt : Tr TI} {fuel : Nat} (ih : ReadsAs P w tt enc sp held fuel) (n : Nat) (e : TypeId) (r : Nat) : ∀ (ds : List (DataW H)) (o : Nat) (l : List AVal), davAll (dav tt n e) ds = some l →
    (∀ (i : Nat) (d : DataW H), ds[i]? = some d → ∃ cs p, w.cells? 0 ⟨r, o + i * P.cellsOf e, none⟩ (P.cellsOf e) = some cs ∧ DataW.trod enc P w 0 sp held fuel e cs = some (d, p)) → ROs w [] r o l
  | [], _, l, h, _ => by simp only [davAll, Option.some.injEq] at h; subst h; simp [ROs]
  | d :: ds, o, l, h, hd => by
    simp only [davAll] at h
    split at h
    · rename_i x y hx hy
      simp only [Option.some.injEq] at h; subst h
      obtain ⟨cs, p, hc, ht⟩ := hd 0 d rfl
      obtain ⟨hv, hl⟩ := ih n e cs d p x ht hx
      simp only [Nat.zero_mul, Nat.add_zero] at hc
      obtain ⟨_, hcell⟩ := cells_at hc
      have hxl : x.length = P.cellsOf e := by rw [← VRs_length hv, hl]
      refine ROs_append (ROs_of hv fun j v hj => by have := hcell j v hj; rwa [add_plain] at this) ?_
      refine rows_read ih n e r ds (o + x.length) y hy fun i d' hi => ?_
      obtain ⟨cs', p', hc', ht'⟩ := hd (i + 1) d' (by simpa using hi)
      refine ⟨cs', p', ?_, ht'⟩
      rw [hxl, show o + P.cellsOf e + i * P.cellsOf e = o + (i + 1) * P.cellsOf e by rw [Nat.succ_mul]; omega]; exact hc'
    · simp at h

theorem arr_read {tt : Tr TI} {fuel : Nat} (ih : ReadsAs P w tt enc sp held fuel) (n : Nat) (e : TypeId) (cs : List Value) : ∀ (ds : List (DataW H)) (k : Nat) (l : List AVal), davAll (dav tt n e) ds = some l →
    (∀ (i : Nat) (d : DataW H), ds[i]? = some d → ∃ p, DataW.trod enc P w 0 sp held fuel e ((cs.drop ((k + i) * P.cellsOf e)).take (P.cellsOf e)) = some (d, p)) → VRs w [] l ((cs.drop (k * P.cellsOf e)).take (ds.length * P.cellsOf e)) ∧ l.length = ds.length * P.cellsOf e
  | [], _, l, h, _ => by simp only [davAll, Option.some.injEq] at h; subst h; simp [VRs]
  | d :: ds, k, l, h, hd => by
    simp only [davAll] at h
    split at h
    · rename_i x y hx hy
      simp only [Option.some.injEq] at h; subst h
      obtain ⟨p, ht⟩ := hd 0 d rfl
      obtain ⟨hv, hl⟩ := ih n e _ d p x ht hx
      obtain ⟨hv2, hl2⟩ := arr_read ih n e cs ds (k + 1) y hy fun i d' hi => by
        obtain ⟨p', ht'⟩ := hd (i + 1) d' (by simpa using hi)
        exact ⟨p', by rw [show k + 1 + i = k + (i + 1) by omega]; exact ht'⟩
      simp only [Nat.add_zero] at hv hl
      have hxl : x.length = P.cellsOf e := by rw [← VRs_length hv, hl]
      refine ⟨?_, by rw [List.length_append, hxl, hl2, List.length_cons, Nat.succ_mul]; omega⟩
      have hsplit : (cs.drop (k * P.cellsOf e)).take ((d :: ds).length * P.cellsOf e) = (cs.drop (k * P.cellsOf e)).take (P.cellsOf e) ++ (cs.drop ((k + 1) * P.cellsOf e)).take (ds.length * P.cellsOf e) := by
        rw [List.length_cons, Nat.succ_mul ds.length, Nat.add_comm (ds.length * P.cellsOf e), List.take_add, List.drop_drop, Nat.succ_mul k]
      rw [hsplit]
      exact VRs_append hv hv2
    · simp at h

theorem fields_read {tt : Tr TI} {fuel : Nat} (ih : ReadsAs P w tt enc sp held fuel) (n : Nat) (cs : List Value) : ∀ (fs : List (Nat × TypeId)) (pos : Nat) (ds : List (DataW H)) (l : List AVal), davFields (dav tt n) fs pos ds = some l →
    (∀ (i : Nat) (f : Nat × TypeId) (d : DataW H), fs[i]? = some f → ds[i]? = some d → ∃ p, DataW.trod enc P w 0 sp held fuel f.2 ((cs.drop f.1).take (P.cellsOf f.2)) = some (d, p)) → VRs w [] l ((cs.drop pos).take l.length)
  | [], pos, ds, l, h, _ => by
    cases ds with
    | nil => simp only [davFields, Option.some.injEq] at h; subst h; simp [VRs]
    | cons _ _ => simp [davFields] at h
  | (off, t) :: fs, pos, ds, l, h, hd => by
    cases ds with
    | nil => simp [davFields] at h
    | cons d ds =>
      simp only [davFields] at h
      split at h
      · rename_i he; subst he
        split at h
        · rename_i x hx
          split at h
          · rename_i y hy
            simp only [Option.some.injEq] at h; subst h
            obtain ⟨p, ht⟩ := hd 0 (off, t) d rfl rfl
            obtain ⟨hv, hl⟩ := ih n t _ d p x ht hx
            simp only at hv hl
            have hxl : x.length = P.cellsOf t := by rw [← VRs_length hv, hl]
            have hv2 := fields_read ih n cs fs (off + x.length) ds y hy fun i f d' hf hi => hd (i + 1) f d' (by simpa using hf) (by simpa using hi)
            have hsplit : (cs.drop off).take (x ++ y).length = (cs.drop off).take (P.cellsOf t) ++ (cs.drop (off + x.length)).take y.length := by
              rw [List.length_append, List.take_add, List.drop_drop, hxl]
            rw [hsplit]
            exact VRs_append hv hv2
          · simp at h
        · simp at h
      · simp at h

/-- WHAT A DATUM IS AS CELLS. -/
theorem trod_VRs (hS : OKS P S) : ∀ fuel, ReadsAs P w S.tt enc sp held fuel
  | 0 => fun n t cs d p as h => by simp [DataW.trod] at h
  | fuel + 1 => by
    have ih := trod_VRs hS fuel
    intro n t cs d p as h hd
    cases n with
    | zero => simp [dav] at hd
    | succ n =>
      simp only [dav] at hd
      split at hd
      · simp at hd
      · rename_i ti hti
        have ht := hS t ti hti
        obtain ⟨de, hu, hde⟩ := ht.und
        have hcells := ht.cells
        split at hd
        · rename_i l hl
          split at hd
          · rename_i hlen
            simp only [Option.some.injEq] at hd; subst hd
            have key : VRs w [] l cs → VRs w [] l cs ∧ cs.length = P.cellsOf t := fun h => ⟨h, by rw [VRs_length h, hlen, hcells]⟩
            refine key ?_
            unfold dav1 at hl
            split at hl
            · -- bool
              rename_i b htd
              rw [htd] at hde
              have := td_bool hde; subst this
              simp only [Option.some.injEq] at hl; subst hl
              rcases cs with _ | ⟨c, _ | ⟨c2, cs⟩⟩
              · simp [DataW.trod, hu] at h
              · cases c <;> simp [DataW.trod, hu] at h
                rename_i b'
                simp only [VRs, VR]
                exact ⟨_, [], rfl, by rw [h.1], rfl⟩
              · cases c <;> simp [DataW.trod, hu] at h
            · -- int
              rename_i k k' m htd
              rw [htd] at hde
              have := td_int hde; subst this
              split at hl
              · rename_i hk; subst hk
                simp only [Option.some.injEq] at hl; subst hl
                rcases cs with _ | ⟨c, _ | ⟨c2, cs⟩⟩
                · simp [DataW.trod, hu] at h
                · cases c <;> simp [DataW.trod, hu] at h
                  obtain ⟨⟨rfl, _⟩, rfl, _⟩ := h
                  simp only [VRs, VR]
                  exact ⟨_, [], rfl, rfl, rfl⟩
                · cases c <;> simp [DataW.trod, hu] at h
              · simp at hl
            · -- string
              rename_i bs htd
              rw [htd] at hde
              have := td_str hde; subst this
              simp only [Option.some.injEq] at hl; subst hl
              rcases cs with _ | ⟨c, _ | ⟨c2, cs⟩⟩
              · simp [DataW.trod, hu] at h
              · cases c <;> simp [DataW.trod, hu] at h
                obtain ⟨_, rfl, _⟩ := h
                simp only [VRs, VR]
                exact ⟨_, [], rfl, ⟨_, rfl, rfl⟩, rfl⟩
              · cases c <;> simp [DataW.trod, hu] at h
            · -- a nil pointer
              rename_i e htd
              rw [htd] at hde
              have := td_ptr hde; subst this
              simp only [Option.some.injEq] at hl; subst hl
              rcases cs with _ | ⟨c, _ | ⟨c2, cs⟩⟩
              · simp [DataW.trod, hu] at h
              · cases c with
                | pointer o =>
                  cases o with
                  | none => simp only [VRs, VR]; exact ⟨_, [], rfl, rfl, rfl⟩
                  | some a =>
                    exfalso
                    simp only [DataW.trod, hu] at h
                    obtain ⟨x, _, h⟩ := Option.map_eq_some_iff.1 h
                    simp at h
                | _ => simp [DataW.trod, hu] at h
              · cases c <;> simp [DataW.trod, hu] at h
            · -- a nil slice
              rename_i e htd
              rw [htd] at hde
              have := td_slice hde; subst this
              simp only [Option.some.injEq] at hl; subst hl
              rcases cs with _ | ⟨c, _ | ⟨c2, cs⟩⟩
              · simp [DataW.trod, hu] at h
              · cases c with
                | slice o len cap =>
                  cases o with
                  | none =>
                    cases len with
                    | zero =>
                      cases cap with
                      | zero => simp only [VRs, VR]; exact ⟨_, [], rfl, rfl, rfl⟩
                      | succ cap => simp [DataW.trod, hu] at h
                    | succ len => simp [DataW.trod, hu] at h
                  | some a =>
                    exfalso
                    simp only [DataW.trod, hu] at h
                    split at h
                    · obtain ⟨es, _, h⟩ := Option.bind_eq_some_iff.1 h
                      obtain ⟨rest, _, h⟩ := Option.map_eq_some_iff.1 h
                      simp at h
                    · simp at h
                | _ => simp [DataW.trod, hu] at h
              · cases c <;> simp [DataW.trod, hu] at h
            · -- a slice
              rename_i e es sp' htd
              rw [htd] at hde
              have := td_slice hde; subst this
              split at hl
              case isFalse => simp at hl
              rename_i hhead
              split at hl
              · rename_i l' hl'
                simp only [Option.some.injEq] at hl; subst hl
                rcases cs with _ | ⟨c, _ | ⟨c2, cs⟩⟩
                · simp [DataW.trod, hu] at h
                · cases c with
                  | slice o len cap =>
                    cases o with
                    | none => cases len <;> cases cap <;> simp [DataW.trod, hu] at h
                    | some a =>
                      simp only [DataW.trod, hu] at h
                      split at h
                      · rename_i hb
                        obtain ⟨els, hels, h⟩ := Option.bind_eq_some_iff.1 h
                        obtain ⟨rest, _, h⟩ := Option.map_eq_some_iff.1 h
                        simp only [Prod.mk.injEq, DataW.slice.injEq] at h
                        obtain ⟨⟨rfl, -⟩, -⟩ := h
                        have hlen' := Lib.mapM_length hels
                        simp only [List.length_range] at hlen'
                        have hat : ∀ (i : Nat) (d : DataW H), (els.map (·.1))[i]? = some d → ∃ cs p, w.cells? 0 (a.add (i * P.cellsOf e)) (P.cellsOf e) = some cs ∧ DataW.trod enc P w 0 sp held fuel e cs = some (d, p) := by
                          intro i d hi
                          rw [List.getElem?_map, Option.map_eq_some_iff] at hi
                          obtain ⟨x, hx, rfl⟩ := hi
                          have hil : i < len := by have := (List.getElem?_eq_some_iff.1 hx).1; omega
                          obtain ⟨b, hb1, hb2⟩ := Lib.mapM_at hels i i (by simp [hil])
                          rw [hx] at hb1; cases hb1
                          obtain ⟨cs, hcs, ht'⟩ := Option.bind_eq_some_iff.1 hb2
                          exact ⟨cs, x.2, hcs, ht'⟩
                        simp only [VRs, VR]
                        refine ⟨_, [], rfl, ⟨a, cap, by simp [hlen'], by simp [hlen']; exact hb.2.1, ?_⟩, rfl⟩
                        cases els with
                        | nil =>
                          simp only [List.map_nil, davAll, Option.some.injEq] at hl'
                          exact .inl ⟨rfl, hl'.symm⟩
                        | cons x els =>
                          right
                          obtain ⟨cs0, p0, hc0, ht0⟩ := hat 0 x.1 rfl
                          simp only [List.map_cons, davHead] at hhead
                          split at hhead
                          · rename_i y ys hy
                            obtain ⟨hv0, hl0⟩ := ih n e cs0 x.1 p0 _ ht0 hy
                            obtain ⟨hcl, hcell⟩ := cells_at hc0
                            simp only [VRs] at hv0
                            obtain ⟨z, zs, rfl, -, -⟩ := hv0
                            have hz := hcell 0 z rfl
                            obtain ⟨b, off, spot⟩ := a
                            have hspot : spot = none := by simpa [Addr.add] using World.cell?_spot hz
                            subst hspot
                            refine ⟨b, off, rfl, rows_read ih n e b _ off l' hl' fun i d hi => ?_⟩
                            obtain ⟨cs, p, g1, g2⟩ := hat i d hi
                            rw [add_plain] at g1
                            exact ⟨cs, p, g1, g2⟩
                          · simp at hhead
                      · simp at h
                  | _ => simp [DataW.trod, hu] at h
                · cases c <;> simp [DataW.trod, hu] at h
              · simp at hl
            · -- a struct
              rename_i fs ds htd
              rw [htd] at hde
              obtain ⟨fa, rfl, hfs⟩ := td_struct hde
              have h' : (if cs.length = P.cellsOf t then (fa.toList.mapM fun f => DataW.trod enc P w 0 sp held fuel f.type ((cs.drop f.offset).take (P.cellsOf f.type))).map fun xs => (DataW.agg (xs.map (·.1)), xs.flatMap (·.2)) else none) = some (.agg ds, p) := by
                rw [← h]; simp only [DataW.trod, hu]
              split at h'
              · rename_i hcl
                obtain ⟨xs, hxs, hx⟩ := Option.map_eq_some_iff.1 h'
                simp only [Prod.mk.injEq, DataW.agg.injEq] at hx
                obtain ⟨rfl, -⟩ := hx
                have := fields_read ih n cs fs 0 _ l hl (by
                  intro i f d hf hd'
                  subst hfs
                  rw [List.getElem?_map, Option.map_eq_some_iff] at hf
                  obtain ⟨g, hg, rfl⟩ := hf
                  rw [List.getElem?_map, Option.map_eq_some_iff] at hd'
                  obtain ⟨x, hx, rfl⟩ := hd'
                  obtain ⟨b, hb1, hb2⟩ := Lib.mapM_at hxs i g (by simpa using hg)
                  rw [hx] at hb1; cases hb1
                  exact ⟨x.2, hb2⟩)
                rw [List.drop_zero, List.take_of_length_le (by omega)] at this
                exact this
              · simp at h'
            · -- an array
              rename_i m e ds htd
              rw [htd] at hde
              have := td_arr hde; subst this
              split at hl
              · rename_i hm
                have h' : (if cs.length = P.cellsOf t then ((List.range m).mapM fun i => DataW.trod enc P w 0 sp held fuel e ((cs.drop (i * P.cellsOf e)).take (P.cellsOf e))).map fun xs => (DataW.agg (xs.map (·.1)), xs.flatMap (·.2)) else none) = some (.agg ds, p) := by
                  rw [← h]; simp only [DataW.trod, hu]
                split at h'
                · rename_i hcl
                  obtain ⟨xs, hxs, hx⟩ := Option.map_eq_some_iff.1 h'
                  simp only [Prod.mk.injEq, DataW.agg.injEq] at hx
                  obtain ⟨rfl, -⟩ := hx
                  have hxl := Lib.mapM_length hxs
                  simp only [List.length_range] at hxl
                  obtain ⟨h1, h2⟩ := arr_read ih n e cs _ 0 l hl (by
                    intro i d hd'
                    rw [List.getElem?_map, Option.map_eq_some_iff] at hd'
                    obtain ⟨x, hx, rfl⟩ := hd'
                    have hil : i < m := by have := (List.getElem?_eq_some_iff.1 hx).1; omega
                    obtain ⟨b, hb1, hb2⟩ := Lib.mapM_at hxs i i (by simp [hil])
                    rw [hx] at hb1; cases hb1
                    rw [Nat.zero_add]
                    exact ⟨x.2, hb2⟩)
                  rw [Nat.zero_mul, List.drop_zero, List.take_of_length_le (by omega)] at h1
                  exact h1
                · simp at h'
              · simp at hl
            · simp at hl
          · simp at hd
        · simp at hd
end
end Go.Ab

/- The abstract machine, part 33: the laid variables of a row. -/
namespace Go.Ab
open Go Go.RowKit

theorem laidMet_of_H {P : Program} {laid : List (String × DataW Unit)} {w : World} (h : laidMetH P laid w) (hn : laid.filter (fun x => x.2.handleName?.isSome) = []) : laidMet P laid w := by
  unfold laidMetH at h
  rw [hn] at h
  exact h

theorem laid_var {P : Program} {w : World} : ∀ {laid : List (String × DataW Unit)} {ps : List MemPlace}, DataW.LaidVars P w laid ps → ∀ x ∈ laid,
    ∃ g t cs fuel p, P.globalNamed x.1 = some g ∧ (P.globals[g]?).map (·.type) = some t ∧ w.var? P x.1 = some cs ∧ DataW.trod (fun _ => ()) P w 0 (fun _ => true) false fuel t cs.toList = some (x.2, p)
  | [], _, _, x, hx => by simp at hx
  | (n, d) :: r, ps, h, x, hx => by
    obtain ⟨g, t, cs, fuel, p, q, h1, h2, h3, h4, h5, _⟩ := h
    rcases List.mem_cons.1 hx with rfl | hx
    · exact ⟨g, t, cs, fuel, p, h1, h2, h3, h4⟩
    · exact laid_var h5 x hx

/-- One laid variable: its cells. -/
theorem laid_ROs {P : Program} {S : Stat} {w : World} {laid : List (String × DataW Unit)} (hS : OKS P S) (h : laidMet P laid w) {n : String} {d : DataW Unit} (hx : (n, d) ∈ laid) {g : Nat} {t : TypeId} {k : Nat} {as : List AVal}
    (hg : P.globalNamed n = some g) (ht : (P.globals[g]?).map (·.type) = some t) (hd : dav S.tt k t d = some as) : ROs w [] g 0 as := by
  obtain ⟨ps, hl, -⟩ := h
  obtain ⟨g', t', cs, fuel, p, h1, h2, h3, h4⟩ := laid_var hl _ hx
  rw [hg] at h1; cases h1
  rw [ht] at h2; cases h2
  obtain ⟨hv, -⟩ := trod_VRs hS fuel k t cs.toList d p as h4 hd
  refine ROs_of hv fun j v hj => ?_
  unfold World.var? at h3
  simp only [hg, Option.bind_some] at h3
  split at h3
  · rename_i c ty fr hh
    cases h3
    simp only [World.cell?, hh]
    simpa using hj
  · simp at h3

noncomputable def davIs (tt : Tr TI) (k : Nat) (t : TypeId) (d : DataW Unit) (as : List AVal) : Bool := match dav tt k t d with | some l => eqAs l as | none => false
theorem davIs_eq {tt : Tr TI} {k : Nat} {t : TypeId} {d : DataW Unit} {as : List AVal} (h : davIs tt k t d as = true) : dav tt k t d = some as := by
  unfold davIs at h
  split at h
  · rename_i l hl; rw [hl, eqAs_eq _ _ h]
  · simp at h
end Go.Ab
