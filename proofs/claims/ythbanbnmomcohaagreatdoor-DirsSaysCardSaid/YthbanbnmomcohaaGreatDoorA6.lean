/- The abstract machine, part 23: straight code. -/
import Derived.Test.YthbanbnmomcohaaGreatDoorA5
import Derived.Orders
namespace Go.Ab
open Go Go.RowKit
section
variable {P : Program} {S : Stat} {w0 w : World} {ν : List Place} {σ σ' : St} {env : Env} {act : Act} {v : AVal} {cf : CF} {q : Bool} {o : Oper}

theorem forceI_eq {β : Type} (n : Int) (k : Int → β) : forceI n k = k n := by
  cases n with
  | ofNat n => cases n <;> rfl
  | negSucc n => cases n <;> rfl

theorem forceV_eq {β : Type} (v : AVal) (k : AVal → β) : forceV v k = k v := by
  cases v <;> first | rfl | skip
  · rename_i b; cases b <;> rfl
  · exact forceI_eq _ (fun n => k (.int _ n))

noncomputable def setDst (o : AOper) (v : AVal) (env : Env) : Env := match o.dst with | none => env | some p => env.set p (some v)

theorem setDstK_eq {β : Type} (o : AOper) (v : AVal) (env : Env) (k : Env → β) : setDstK o v env k = k (setDst o v env) := by
  unfold setDstK setDst
  cases o.dst with
  | none => rfl
  | some p => simp only [forceV_eq, Tr.setK_eq]

theorem EnvR.mono {ν' : List Place} {T : Tab} {tmps : Array Value} (h : EnvR w0 ν T env tmps) (hν : ν <+: ν') : EnvR w0 ν' T env tmps := fun t => VR_mono hν _ _ (h t)

/-- What the check says of a destination. -/
def DstOK (n : Nat) (od : Option Tmp) (ad : Option (List Bool)) : Prop :=
  match ad with
  | none => od = none
  | some p => ∃ d, od = some d ∧ p = path d ∧ d < n

theorem EnvR.put {T : Tab} {n : Nat} {a : AOper} {x : Value} (h : EnvR w0 ν T env act.tmps) (hn : act.tmps.size = n) (hd : DstOK n o.dst a.dst) (hx : VR w0 ν v x) :
    EnvR w0 ν T (setDst a v env) (act.put o.dst x).tmps ∧ (act.put o.dst x).tmps.size = n := by
  unfold DstOK at hd
  unfold setDst Act.put
  cases had : a.dst with
  | none =>
    rw [had] at hd; simp only at hd
    rw [hd]; exact ⟨h, hn⟩
  | some p =>
    rw [had] at hd; simp only at hd
    obtain ⟨d, hd1, rfl, hlt⟩ := hd
    rw [hd1]
    refine ⟨fun t => ?_, by simpa using hn⟩
    by_cases e : t = d
    · subst e
      have h1 : (Opd.t (path t)).ev T (Tr.set (path t) (some v) env) = v := by simp [Opd.ev, Tr.get_set_same]
      have hlt' : t < act.tmps.size := by rw [hn]; exact hlt
      have h2 : (act.tmps.setIfInBounds t x).getD t undef = x := by
        simp [Array.getD_eq_getD_getElem?, hlt']
      simp only [h1, h2]; exact hx
    · have h1 : (Opd.t (path t)).ev T (Tr.set (path d) (some v) env) = (Opd.t (path t)).ev T env := by
        simp only [Opd.ev]
        rw [Tr.get_set_other _ _ _ _ (fun e' => e (path_inj e'))]
      have h2 : (act.tmps.setIfInBounds d x).getD t undef = act.tmps.getD t undef := by
        simp [Array.getD_eq_getD_getElem?, Ne.symm e]
      simp only [h1, h2]; exact h t

theorem okOper_parts {n : Nat} {ops : List Oper} {a : AOper} (h : okOper S n ops o a = true) : okOp S o.op a.op = true ∧ DstOK n o.dst a.dst ∧
    (match a.guard with
    | none => o.guard = none
    | some (p, want) => ∃ j d, o.guard = some (j, want) ∧ (ops[j]?).bind (·.dst) = some d ∧ p = path d ∧ d < n) := by
  simp only [okOper, Bool.and_eq_true] at h
  obtain ⟨⟨h1, h2⟩, h3⟩ := h
  refine ⟨h1, ?_, ?_⟩
  · unfold DstOK
    cases had : a.dst with
    | none =>
      rw [had] at h2; simp only at h2
      cases hod : o.dst with
      | none => rfl
      | some d => rw [hod] at h2; simp at h2
    | some p =>
      rw [had] at h2; simp only at h2
      cases hod : o.dst with
      | none => rw [hod] at h2; simp at h2
      | some d =>
        rw [hod] at h2
        simp only [Bool.and_eq_true, decide_eq_true_eq] at h2
        exact ⟨d, rfl, eqBools_eq h2.1, h2.2⟩
  · cases hag : a.guard with
    | none =>
      rw [hag] at h3; simp only at h3
      cases hog : o.guard with
      | none => rfl
      | some g => rw [hog] at h3; simp at h3
    | some pw =>
      obtain ⟨p, want⟩ := pw
      rw [hag] at h3; simp only at h3
      cases hog : o.guard with
      | none => rw [hog] at h3; simp at h3
      | some g =>
        obtain ⟨j, want'⟩ := g
        rw [hog] at h3
        simp only [Bool.and_eq_true, beq_iff_eq] at h3
        obtain ⟨rfl, h3⟩ := h3
        cases hg : ops[j]? with
        | none => rw [hg] at h3; simp at h3
        | some g =>
          rw [hg] at h3; simp only at h3
          cases hgd : g.dst with
          | none => rw [hgd] at h3; simp at h3
          | some d =>
            rw [hgd] at h3
            simp only [Bool.and_eq_true, decide_eq_true_eq] at h3
            exact ⟨j, d, rfl, by simp [hg, hgd], eqBools_eq h3.1, h3.2⟩

theorem VR_bool_of {a : AVal} {b : Bool} (h : VR w0 ν a (.bool b)) : a = .bool b := by
  cases a <;> simp only [VR] at h
  all_goals first
    | (simp at h; subst h; rfl)
    | (simp at h; done)

theorem wanted_eq {n : Nat} {ops : Array Oper} {a : AOper} (henv : EnvR w0 ν S.tab env act.tmps) (hn : act.tmps.size = n)
    (h : match a.guard with | none => o.guard = none | some (p, want) => ∃ j d, o.guard = some (j, want) ∧ (ops.toList[j]?).bind (·.dst) = some d ∧ p = path d ∧ d < n) :
    Region.wanted o (yielded ops act.tmps) = wantedA a env := by
  unfold Region.wanted wantedA
  cases hag : a.guard with
  | none => rw [hag] at h; simp only at h; rw [h]
  | some pw =>
    obtain ⟨p, want⟩ := pw
    rw [hag] at h; simp only at h
    obtain ⟨j, d, hog, hd, rfl, hlt⟩ := h
    rw [hog]
    simp only
    have hv := henv d
    have hget : act.tmps[d]? = some (act.tmps.getD d undef) := by
      have : d < act.tmps.size := by rw [hn]; exact hlt
      simp [Array.getD, this]
    have hy : yielded ops act.tmps j = (match act.tmps.getD d undef with | .bool b => some b | _ => none) := by
      unfold yielded
      have : (ops[j]?).bind (·.dst) = some d := by simpa using hd
      rw [this]
      simp only [Option.bind_some, hget]
      cases act.tmps.getD d undef <;> rfl
    rw [hy]
    simp only [Opd.ev] at hv
    cases hg : env.get (path d) with
    | none =>
      rw [hg] at hv
      have : act.tmps.getD d undef = undef := by
        simp only [undefA, VR] at hv
        obtain ⟨xs, e, hxs⟩ := hv
        simp only [VRs] at hxs; subst hxs; exact e
      rw [this]; rfl
    | some u =>
      rw [hg] at hv
      simp only at hv ⊢
      cases u with
      | bool b =>
        simp only [VR] at hv
        rw [hv]
        cases b <;> cases want <;> rfl
      | _ =>
        cases hx : act.tmps.getD d undef with
        | bool b => rw [hx] at hv; have := VR_bool_of hv; simp at this
        | _ => rfl

/-- One operation's rule. -/
theorem wp_opG {next : Act → World → Prop} {Q : Exit → Act → World → Prop} (h : OpG P w0 ν σ' v (execOp act.eval o) w)
    (hk : ∀ ν' x w', ν <+: ν' → VR w0 ν' v x → Rel w0 ν' σ' w' → next (act.put o.dst x) w') : o.wp P act w next Q := by
  unfold Oper.wp
  rcases h with ⟨ν', x, w', h1, h2, h3, h4 | ⟨h4, h5⟩⟩ | ⟨f, xs, h1, h2⟩
  · rw [h4]; exact hk ν' x w' h1 h2 h3
  · rw [h4]; subst h5; exact hk ν' undef w' h1 h2 h3
  · rw [h1]
    show Calls P f xs w _
    refine h2.mono ?_
    rintro e w' ⟨ν', x, g1, rfl, g3, g4⟩
    exact hk ν' x w' g1 g3 g4

/-- Straight code, in the text's order. -/
theorem wp_runOps (hB : Base P S w0) (hcf : CFok P w0 cf) {n : Nat} {ops : Array Oper} {Q : Exit → Act → World → Prop} : ∀ (rest : List Nat) (os : List Oper) (as : List AOper) (env : Env) (σ : St) (ν : List Place) (act : Act) (w : World) (r : Env × St),
    (∀ (k : Nat) (o : Oper), os[k]? = some o → ∃ i : Nat, rest[k]? = some i ∧ ops[i]? = some o) → rest.length = os.length → okOpers S n ops.toList os as = true → runOps S.tab cf q as env σ = some r →
    EnvR w0 ν S.tab env act.tmps → act.tmps.size = n → Rel w0 ν σ w →
    (∀ ν' act' w', ν <+: ν' → EnvR w0 ν' S.tab r.1 act'.tmps → act'.tmps.size = n → act'.defers = act.defers → Rel w0 ν' r.2 w' → Q .normal act' w') → wpOps P ops Q rest act w
  | [], [], as, env, σ, ν, act, w, r, _, _, hok, h, henv, hn, hrel, hk => by
    cases as with
    | nil =>
      have : r = (env, σ) := by
        have h' : runOps S.tab cf q [] env σ = some (env, σ) := rfl
        rw [h'] at h; exact (Option.some.inj h).symm
      subst this
      exact hk ν act w (List.prefix_refl _) henv hn rfl hrel
    | cons _ _ => simp [okOpers] at hok
  | [], _ :: _, _, _, _, _, _, _, _, _, hl, _, _, _, _, _, _ => by simp at hl
  | _ :: _, [], _, _, _, _, _, _, _, _, hl, _, _, _, _, _, _ => by simp at hl
  | i :: rest, o :: os, as, env, σ, ν, act, w, r, hmap, hl, hok, h, henv, hn, hrel, hk => by
    cases as with
    | nil => simp [okOpers] at hok
    | cons a as =>
      simp only [okOpers, Bool.and_eq_true] at hok
      obtain ⟨hokO, hokR⟩ := hok
      obtain ⟨hop, hdst, hguard⟩ := okOper_parts hokO
      have hi : ops[i]? = some o := by
        obtain ⟨i', e1, e2⟩ := hmap 0 o rfl
        simp at e1; subst e1; exact e2
      have hmap' : ∀ (k : Nat) (o' : Oper), os[k]? = some o' → ∃ i : Nat, rest[k]? = some i ∧ ops[i]? = some o' := fun k o' hk' => by
        have := hmap (k + 1) o' (by simpa using hk')
        simpa using this
      have hw := wanted_eq (S := S) henv hn hguard (o := o) (ops := ops)
      have hrun : runOps S.tab cf q (a :: as) env σ = (match wantedA a env with
        | true => (match stepOp S.tab cf q a.op env σ with | some r => setDstK a r.1 env fun env => runOps S.tab cf q as env r.2 | none => none)
        | false => setDstK a undefA env fun env => runOps S.tab cf q as env σ) := rfl
      rw [hrun] at h
      simp only [wpOps, hi]
      rw [hw]
      cases hwa : wantedA a env with
      | true =>
        rw [hwa] at h
        simp only at h
        simp only [if_true]
        split at h
        · rename_i r1 hstep
          rw [setDstK_eq] at h
          left
          refine wp_opG (sim_op hB henv hrel hcf hop (v := r1.1) (σ' := r1.2) hstep) ?_
          intro ν' x w' h1 h2 h3
          obtain ⟨he, hs⟩ := (henv.mono h1).put hn hdst h2
          refine wp_runOps hB hcf rest os as _ _ ν' _ w' r hmap' (by simpa using hl) hokR h he hs h3 ?_
          intro ν2 act2 w2 g1 g2 g3 g4 g5
          exact hk ν2 act2 w2 (h1.trans g1) g2 g3 (by rw [g4]; unfold Act.put; cases o.dst <;> rfl) g5
        · simp at h
      | false =>
        rw [hwa] at h
        simp only at h
        simp only [Bool.false_eq_true, if_false]
        rw [setDstK_eq] at h
        obtain ⟨he, hs⟩ := henv.put hn hdst VR_undef
        refine wp_runOps hB hcf rest os as _ _ ν _ w r hmap' (by simpa using hl) hokR h he hs hrel ?_
        intro ν2 act2 w2 g1 g2 g3 g4 g5
        exact hk ν2 act2 w2 g1 g2 g3 (by rw [g4]; unfold Act.put; cases o.dst <;> rfl) g5
end
end Go.Ab

/- The abstract machine, part 24: what writes nothing; what looks at no state; at which temporaries an operation looks. -/
namespace Go.Ab
open Go Go.RowKit

def Quiet (cf : CF) : Prop := ∀ f args σ v σ', cf true f args σ = some (v, σ') → σ' = σ

noncomputable def Opd.tmps : Opd → List (List Bool)
  | .t p => [p]
  | _ => []
noncomputable def tmpsO : Option Opd → List (List Bool)
  | some x => x.tmps
  | none => []
noncomputable def tmpsL : List Opd → List (List Bool)
  | [] => []
  | x :: l => x.tmps ++ tmpsL l
noncomputable def tmpsP : List (Nat × Nat × Opd) → List (List Bool)
  | [] => []
  | p :: l => p.2.2.tmps ++ tmpsP l

noncomputable def AOp.tmps : AOp → List (List Bool)
  | .mov x => x.tmps
  | .pick c a b => c.tmps ++ (a.tmps ++ b.tmps)
  | .alloc _ _ => []
  | .box _ x => x.tmps
  | .build _ ps => tmpsP ps
  | .buildSlice _ _ _ _ ps => tmpsP ps
  | .load _ x => x.tmps
  | .store _ x v => x.tmps ++ v.tmps
  | .nilCheck x => x.tmps
  | .arith _ x y => x.tmps ++ y.tmps
  | .strop _ x y => x.tmps ++ y.tmps
  | .eq _ _ x y => x.tmps ++ y.tmps
  | .not x => x.tmps
  | .neg x => x.tmps
  | .cpl x => x.tmps
  | .toInt _ x => x.tmps
  | .intStr x => x.tmps
  | .bytes _ x => x.tmps
  | .runes _ x => x.tmps
  | .strOf x => x.tmps
  | .strRunes x => x.tmps
  | .stamp x => x.tmps
  | .toUnsafe x => x.tmps
  | .cast _ x => x.tmps
  | .slStr x lo hi => x.tmps ++ (tmpsO lo ++ tmpsO hi)
  | .slSl _ x lo hi m => x.tmps ++ (tmpsO lo ++ (tmpsO hi ++ tmpsO m))
  | .slArr _ _ x lo hi m => x.tmps ++ (tmpsO lo ++ (tmpsO hi ++ tmpsO m))
  | .fieldAddr _ x => x.tmps
  | .field _ _ x => x.tmps
  | .iaSl _ x i => x.tmps ++ i.tmps
  | .iaArr _ _ x i => x.tmps ++ i.tmps
  | .ixArr _ _ _ x i => x.tmps ++ i.tmps
  | .ixStr x i => x.tmps ++ i.tmps
  | .range x => x.tmps
  | .next x => x.tmps
  | .extract x _ => x.tmps
  | .call _ as => tmpsL as
  | .callV f as => f.tmps ++ tmpsL as
  | .ext _ as => tmpsL as
  | .append _ _ _ x y => x.tmps ++ y.tmps
  | .len _ x => x.tmps
  | .lenArr _ => []
  | .mn x y => x.tmps ++ y.tmps
  | .mx x y => x.tmps ++ y.tmps
  | .mkFunc _ a b => tmpsL a ++ tmpsL b
  | .mkSlice _ _ _ _ l c => l.tmps ++ c.tmps
  | .mkIface _ x => x.tmps
  | .sliceData x => x.tmps
  | .unsafeStr _ x n => x.tmps ++ n.tmps

/-- What looks at no state. -/
noncomputable def pureOp : AOp → Bool
  | .mov _ | .pick .. | .build .. | .nilCheck _ | .arith .. | .strop .. | .eq .. | .not _ | .neg _ | .cpl _ | .toInt .. | .intStr _
  | .slStr .. | .slSl .. | .fieldAddr .. | .field .. | .iaSl .. | .iaArr .. | .ixArr .. | .ixStr .. | .extract .. | .ext .. | .len .. | .lenArr _
  | .mn .. | .mx .. | .mkFunc .. | .mkIface .. | .sliceData _ => true
  | _ => false

section
variable {T : Tab} {cf : CF} {env env' : Env} {σ σ' : St} {q q' : Bool}

theorem ev_congr {x : Opd} (h : ∀ p ∈ x.tmps, env.get p = env'.get p) : x.ev T env = x.ev T env' := by
  cases x with
  | t p => simp only [Opd.ev, h p (by simp [Opd.tmps])]
  | _ => rfl

theorem evO_congr {x : Option Opd} (h : ∀ p ∈ tmpsO x, env.get p = env'.get p) : x.map (·.ev T env) = x.map (·.ev T env') := by
  cases x with
  | none => rfl
  | some x => simp only [Option.map_some, ev_congr (T := T) (x := x) h]

theorem args_congr : ∀ {l : List Opd}, (∀ p ∈ tmpsL l, env.get p = env'.get p) → argsOf (Opd.ev T env) l = argsOf (Opd.ev T env') l
  | [], _ => rfl
  | x :: l, h => by
    simp only [argsOf]
    rw [ev_congr (x := x) fun p hp => h p (by simp [tmpsL, hp]), args_congr fun p hp => h p (by simp [tmpsL, hp])]

theorem parts_congr : ∀ {l : List (Nat × Nat × Opd)}, (∀ p ∈ tmpsP l, env.get p = env'.get p) → (l.map fun p => (p.1, p.2.1, p.2.2.ev T env)) = l.map fun p => (p.1, p.2.1, p.2.2.ev T env')
  | [], _ => rfl
  | x :: l, h => by
    simp only [List.map_cons]
    rw [ev_congr (x := x.2.2) fun p hp => h p (by simp [tmpsP, hp]), parts_congr fun p hp => h p (by simp [tmpsP, hp])]

theorem step_congr {op : AOp} (h : ∀ p ∈ op.tmps, env.get p = env'.get p) : stepOp T cf q op env σ = stepOp T cf q op env' σ := by
  cases op <;> simp only [AOp.tmps, List.mem_append] at h
  case mov x => simp only [stepOp, opMov, ev_congr (x := x) h]
  case pick c a b => simp only [stepOp, opPick, ev_congr (x := c) fun p hp => h p (.inl hp), ev_congr (x := a) fun p hp => h p (.inr (.inl hp)), ev_congr (x := b) fun p hp => h p (.inr (.inr hp))]
  case alloc => rfl
  case box e x => simp only [stepOp, opBox, ev_congr (x := x) h]
  case build z ps => simp only [stepOp, opBuild, parts_congr (T := T) (l := ps) h]
  case buildSlice e s l z ps => simp only [stepOp, opBuildSlice, parts_congr (T := T) (l := ps) h]
  case load a x => simp only [stepOp, opLoad, ev_congr (x := x) h]
  case store n x v => simp only [stepOp, opStore, ev_congr (x := x) fun p hp => h p (.inl hp), ev_congr (x := v) fun p hp => h p (.inr hp)]
  case nilCheck x => simp only [stepOp, opNilCheck, ev_congr (x := x) h]
  case arith o x y => simp only [stepOp, opArith, ev_congr (x := x) fun p hp => h p (.inl hp), ev_congr (x := y) fun p hp => h p (.inr hp)]
  case strop o x y => simp only [stepOp, opStrop, ev_congr (x := x) fun p hp => h p (.inl hp), ev_congr (x := y) fun p hp => h p (.inr hp)]
  case eq n k x y => simp only [stepOp, opEq, ev_congr (x := x) fun p hp => h p (.inl hp), ev_congr (x := y) fun p hp => h p (.inr hp)]
  case not x => simp only [stepOp, opNot, ev_congr (x := x) h]
  case neg x => simp only [stepOp, opNeg, ev_congr (x := x) h]
  case cpl x => simp only [stepOp, opCpl, ev_congr (x := x) h]
  case toInt k x => simp only [stepOp, opToInt, ev_congr (x := x) h]
  case intStr x => simp only [stepOp, opIntStr, ev_congr (x := x) h]
  case bytes e x => simp only [stepOp, opBytes, ev_congr (x := x) h]
  case runes e x => simp only [stepOp, opRunes, ev_congr (x := x) h]
  case strOf x => simp only [stepOp, opStrOf, ev_congr (x := x) h]
  case strRunes x => simp only [stepOp, opStrRunes, ev_congr (x := x) h]
  case stamp x => simp only [stepOp, opStamp, ev_congr (x := x) h]
  case toUnsafe x => simp only [stepOp, opToUnsafe, ev_congr (x := x) h]
  case cast u x => simp only [stepOp, opCast, ev_congr (x := x) h]
  case slStr x lo hi => simp only [stepOp, opSlStr, ev_congr (x := x) fun p hp => h p (.inl hp), evO_congr (T := T) (x := lo) fun p hp => h p (.inr (.inl hp)), evO_congr (T := T) (x := hi) fun p hp => h p (.inr (.inr hp))]
  case slSl s x lo hi mx => simp only [stepOp, opSlSl, ev_congr (x := x) fun p hp => h p (.inl hp), evO_congr (T := T) (x := lo) fun p hp => h p (.inr (.inl hp)), evO_congr (T := T) (x := hi) fun p hp => h p (.inr (.inr (.inl hp))), evO_congr (T := T) (x := mx) fun p hp => h p (.inr (.inr (.inr hp)))]
  case slArr n s x lo hi mx => simp only [stepOp, opSlArr, ev_congr (x := x) fun p hp => h p (.inl hp), evO_congr (T := T) (x := lo) fun p hp => h p (.inr (.inl hp)), evO_congr (T := T) (x := hi) fun p hp => h p (.inr (.inr (.inl hp))), evO_congr (T := T) (x := mx) fun p hp => h p (.inr (.inr (.inr hp)))]
  case fieldAddr o x => simp only [stepOp, opFieldAddr, ev_congr (x := x) h]
  case field o a x => simp only [stepOp, opField, ev_congr (x := x) h]
  case iaSl s x i => simp only [stepOp, opIaSl, ev_congr (x := x) fun p hp => h p (.inl hp), ev_congr (x := i) fun p hp => h p (.inr hp)]
  case iaArr l s x i => simp only [stepOp, opIaArr, ev_congr (x := x) fun p hp => h p (.inl hp), ev_congr (x := i) fun p hp => h p (.inr hp)]
  case ixArr l s a x i => simp only [stepOp, opIxArr, ev_congr (x := x) fun p hp => h p (.inl hp), ev_congr (x := i) fun p hp => h p (.inr hp)]
  case ixStr x i => simp only [stepOp, opIxStr, ev_congr (x := x) fun p hp => h p (.inl hp), ev_congr (x := i) fun p hp => h p (.inr hp)]
  case range x => simp only [stepOp, opRange, ev_congr (x := x) h]
  case next x => simp only [stepOp, opNext, ev_congr (x := x) h]
  case extract x i => simp only [stepOp, opExtract, ev_congr (x := x) h]
  case call f as => simp only [stepOp, opCall, args_congr (T := T) (l := as) h]
  case callV f as => simp only [stepOp, opCallV, ev_congr (x := f) fun p hp => h p (.inl hp), args_congr (T := T) (l := as) fun p hp => h p (.inr hp)]
  case ext e as => simp only [stepOp, opExt, args_congr (T := T) (l := as) h]
  case append e s b x y => simp only [stepOp, opAppend, ev_congr (x := x) fun p hp => h p (.inl hp), ev_congr (x := y) fun p hp => h p (.inr hp)]
  case len s x => simp only [stepOp, opLen, ev_congr (x := x) h]
  case lenArr n => rfl
  case mn x y => simp only [stepOp, opMn, ev_congr (x := x) fun p hp => h p (.inl hp), ev_congr (x := y) fun p hp => h p (.inr hp)]
  case mx x y => simp only [stepOp, opMx, ev_congr (x := x) fun p hp => h p (.inl hp), ev_congr (x := y) fun p hp => h p (.inr hp)]
  case mkFunc f a b => simp only [stepOp, opMkFunc, args_congr (T := T) (l := a) fun p hp => h p (.inl hp), args_congr (T := T) (l := b) fun p hp => h p (.inr hp)]
  case mkSlice e s b z l c => simp only [stepOp, opMkSlice, ev_congr (x := l) fun p hp => h p (.inl hp), ev_congr (x := c) fun p hp => h p (.inr hp)]
  case mkIface t x => simp only [stepOp, opMkIface, ev_congr (x := x) h]
  case sliceData x => simp only [stepOp, opSliceData, ev_congr (x := x) h]
  case unsafeStr e x n => simp only [stepOp, opUnsafeStr, ev_congr (x := x) fun p hp => h p (.inl hp), ev_congr (x := n) fun p hp => h p (.inr hp)]

theorem pure_step {op : AOp} (hp : pureOp op = true) {v : AVal} {σ1 : St} (h : stepOp T cf q op env σ = some (v, σ1)) : stepOp T cf q' op env σ' = some (v, σ') := by
  cases op <;> simp only [pureOp] at hp <;> first | (exact absurd hp (by decide)) | skip
  case mov => simp only [stepOp, opMov] at h ⊢; simp_all
  case pick => simp only [stepOp, opPick] at h ⊢; (repeat' split at h) <;> simp_all
  case build => simp only [stepOp, opBuild] at h ⊢; (repeat' split at h) <;> simp_all
  case nilCheck => simp only [stepOp, opNilCheck] at h ⊢; (repeat' split at h) <;> simp_all
  case arith => simp only [stepOp, opArith] at h ⊢; (repeat' split at h) <;> simp_all
  case strop => simp only [stepOp, opStrop] at h ⊢; (repeat' split at h) <;> simp_all
  case eq => simp only [stepOp, opEq] at h ⊢; (repeat' split at h) <;> simp_all
  case not => simp only [stepOp, opNot] at h ⊢; (repeat' split at h) <;> simp_all
  case neg => simp only [stepOp, opNeg] at h ⊢; (repeat' split at h) <;> simp_all
  case cpl => simp only [stepOp, opCpl] at h ⊢; (repeat' split at h) <;> simp_all
  case toInt => simp only [stepOp, opToInt] at h ⊢; (repeat' split at h) <;> simp_all
  case intStr => simp only [stepOp, opIntStr] at h ⊢; (repeat' split at h) <;> simp_all
  case slStr => simp only [stepOp, opSlStr] at h ⊢; (repeat' split at h) <;> simp_all
  case slSl => simp only [stepOp, opSlSl] at h ⊢; (repeat' split at h) <;> simp_all
  case fieldAddr => simp only [stepOp, opFieldAddr] at h ⊢; (repeat' split at h) <;> simp_all
  case field => simp only [stepOp, opField] at h ⊢; (repeat' split at h) <;> simp_all
  case iaSl => simp only [stepOp, opIaSl] at h ⊢; (repeat' split at h) <;> simp_all
  case iaArr => simp only [stepOp, opIaArr] at h ⊢; (repeat' split at h) <;> simp_all
  case ixArr => simp only [stepOp, opIxArr] at h ⊢; (repeat' split at h) <;> simp_all
  case ixStr => simp only [stepOp, opIxStr] at h ⊢; (repeat' split at h) <;> simp_all
  case extract => simp only [stepOp, opExtract] at h ⊢; (repeat' split at h) <;> simp_all
  case ext => simp only [stepOp, opExt] at h ⊢; (repeat' split at h) <;> simp_all
  case len s x => cases s <;> simp only [stepOp, opLen] at h ⊢ <;> (repeat' split at h) <;> simp_all
  case lenArr => simp only [stepOp, opLenArr] at h ⊢; simp_all
  case mn => simp only [stepOp, opMn] at h ⊢; split at h <;> simp_all
  case mx => simp only [stepOp, opMx] at h ⊢; split at h <;> simp_all
  case mkFunc => simp only [stepOp, opMkFunc] at h ⊢; simp_all
  case mkIface => simp only [stepOp, opMkIface] at h ⊢; simp_all
  case sliceData => simp only [stepOp, opSliceData] at h ⊢; (repeat' split at h) <;> simp_all

theorem quiet_step (hcf : Quiet cf) {op : AOp} {v : AVal} {σ1 : St} (h : stepOp T cf true op env σ = some (v, σ1)) : σ1 = σ := by
  by_cases hp : pureOp op = true
  · have := pure_step (q' := true) (σ' := σ) hp h
    rw [h] at this
    simpa using this
  · cases op <;> simp only [pureOp, not_true_eq_false] at hp
    case alloc => simp [stepOp, opAlloc] at h
    case box => simp [stepOp, opBox] at h
    case buildSlice => simp [stepOp, opBuildSlice] at h
    case load => simp only [stepOp, opLoad] at h; (repeat' split at h) <;> simp_all
    case store => simp [stepOp, opStore] at h
    case bytes => simp [stepOp, opBytes] at h
    case runes => simp [stepOp, opRunes] at h
    case strOf => simp only [stepOp, opStrOf] at h; (repeat' split at h) <;> simp_all
    case strRunes => simp only [stepOp, opStrRunes] at h; (repeat' split at h) <;> simp_all
    case stamp => simp [stepOp, opStamp] at h
    case toUnsafe => simp only [stepOp, opToUnsafe] at h; (repeat' split at h) <;> simp_all
    case cast => simp only [stepOp, opCast] at h; (repeat' split at h) <;> simp_all
    case slArr => simp only [stepOp, opSlArr] at h; (repeat' split at h) <;> simp_all
    case range => simp [stepOp, opRange] at h
    case next => simp [stepOp, opNext] at h
    case call => exact hcf _ _ _ _ _ h
    case callV => simp only [stepOp, opCallV] at h; split at h <;> first | exact hcf _ _ _ _ _ h | simp at h
    case append => simp [stepOp, opAppend] at h
    case mkSlice => simp [stepOp, opMkSlice] at h
    case unsafeStr => simp [stepOp, opUnsafeStr] at h
end
end Go.Ab

/- The abstract machine, part 25: the check of a region that draws its order, and what a run of one lays down. -/
namespace Go.Ab
open Go Go.RowKit

noncomputable def maskL : List (List Bool) → Nat
  | [] => 0
  | p :: l => (1 <<< unpath p) ||| maskL l

noncomputable def AOper.looks (a : AOper) : List (List Bool) :=
  match a.guard with
  | none => a.op.tmps
  | some (p, _) => p :: a.op.tmps

noncomputable def dstMask (a : AOper) : Nat := match a.dst with | some p => 1 <<< unpath p | none => 0

structure DI where
  dk : DK
  k : Nat
  rd : Nat
  wr : Nat
  cl : Nat

noncomputable def clOf (cls : List Nat) : List Edge → Nat
  | [] => 0
  | e :: es => if Region.binds .any e then (1 <<< e.on) ||| (cls.getD e.on 0 ||| clOf cls es) else clOf cls es

noncomputable def stepK (a : AOper) (k : Nat) : Nat := match a.dk with | .eff => k + 1 | _ => k

noncomputable def forceN {β : Type} (n : Nat) (k : Nat → β) : β := match n with | 0 => k 0 | m + 1 => k (m + 1)
theorem forceN_eq {β : Type} (n : Nat) (k : Nat → β) : forceN n k = k n := by cases n <;> rfl

noncomputable def infos : List Oper → List AOper → Nat → List Nat → List DI
  | o :: os, a :: as, k, cls => forceN (clOf cls o.after.toList) fun c => ⟨a.dk, k, maskL a.looks, dstMask a, c⟩ :: infos os as (stepK a k) (cls ++ [c])
  | _, _, _, _ => []

noncomputable def mustFirst (x y : DI) : Bool :=
  (((x.wr &&& (y.rd ||| y.wr)) ||| (x.rd &&& y.wr)) != 0) ||
  (match x.dk, y.dk with
  | .eff, .eff => true
  | .eff, .read lo _ => decide (x.k < lo)
  | .read _ hi, .eff => decide (hi ≤ y.k)
  | _, _ => false)

noncomputable def okAgainst (x : DI) (i : Nat) : List DI → Bool
  | [] => true
  | y :: l => (!mustFirst x y || y.cl.testBit i) && okAgainst x i l

noncomputable def okPairs : Nat → List DI → Bool
  | _, [] => true
  | i, x :: l => okAgainst x i l && okPairs (i + 1) l

noncomputable def okBack : Nat → List Oper → Bool
  | _, [] => true
  | i, o :: l => o.after.toList.all (fun e => !Region.binds .any e || decide (e.on < i)) && okBack (i + 1) l

noncomputable def okKind (a : AOper) (k : Nat) : Bool :=
  match a.dk with
  | .pure => pureOp a.op
  | .read lo hi => decide (lo ≤ k) && decide (k ≤ hi)
  | .eff => true

noncomputable def okKinds : List AOper → Nat → Bool
  | [], _ => true
  | a :: as, k => okKind a k && okKinds as (stepK a k)

noncomputable def okDraw (os : List Oper) (as : List AOper) : Bool :=
  okBack 0 os && (okKinds as 0 && okPairs 0 (infos os as 0 []))

/-- How many effects come before the i-th. -/
noncomputable def kAt : List AOper → Nat → Nat
  | _, 0 => 0
  | [], _ + 1 => 0
  | a :: as, i + 1 => stepK a 0 + kAt as i

theorem stepK_add (a : AOper) (k j : Nat) : stepK a (k + j) = k + stepK a j := by
  unfold stepK; cases a.dk <;> simp <;> omega
theorem stepK_eq (a : AOper) (k : Nat) : stepK a k = k + stepK a 0 := stepK_add a k 0

theorem kAt_succ : ∀ (as : List AOper) (i : Nat) (a : AOper), as[i]? = some a → kAt as (i + 1) = stepK a (kAt as i)
  | [], i, a, h => by simp at h
  | b :: as, 0, a, h => by simp at h; subst h; simp [kAt]
  | b :: as, i + 1, a, h => by
    have := kAt_succ as i a (by simpa using h)
    show stepK b 0 + kAt as (i + 1) = stepK a (stepK b 0 + kAt as i)
    rw [this, stepK_add]

theorem kAt_eff {as : List AOper} {i : Nat} {a : AOper} (h : as[i]? = some a) (he : a.dk = .eff) : kAt as (i + 1) = kAt as i + 1 := by
  rw [kAt_succ as i a h]; simp [stepK, he]

theorem kAt_le_succ (as : List AOper) (i : Nat) : kAt as i ≤ kAt as (i + 1) := by
  cases h : as[i]? with
  | none =>
    have : ∀ (as : List AOper) (i : Nat), as[i]? = none → kAt as i ≤ kAt as (i + 1) := by
      intro as
      induction as with
      | nil => intro i _; cases i <;> simp [kAt]
      | cons b as ih =>
        intro i h
        cases i with
        | zero => simp at h
        | succ i => have := ih i (by simpa using h); simp only [kAt]; omega
    exact this as i h
  | some a =>
    rw [kAt_succ as i a h]
    unfold stepK; cases a.dk <;> simp

theorem kAt_mono (as : List AOper) {i j : Nat} (h : i ≤ j) : kAt as i ≤ kAt as j := by
  induction h with
  | refl => exact Nat.le_refl _
  | step _ ih => exact Nat.le_trans ih (kAt_le_succ as _)

theorem kAt_lt {as : List AOper} {i j : Nat} {a : AOper} (h : as[i]? = some a) (he : a.dk = .eff) (hij : i < j) : kAt as i < kAt as j := by
  have := kAt_eff h he
  have := kAt_mono as (i := i + 1) (j := j) hij
  omega

/-- The k-th effect. -/
theorem kAt_find (as : List AOper) (k : Nat) : ∀ n, k < kAt as n → ∃ i a, i < n ∧ as[i]? = some a ∧ a.dk = .eff ∧ kAt as i = k
  | 0, h => by simp [kAt] at h
  | n + 1, h => by
    by_cases hk : k < kAt as n
    · obtain ⟨i, a, h1, h2⟩ := kAt_find as k n hk
      exact ⟨i, a, by omega, h2⟩
    · cases ha : as[n]? with
      | none =>
        exfalso
        have hle : as.length ≤ n := by simpa using ha
        have : ∀ (as : List AOper) (i : Nat), as.length ≤ i → kAt as (i + 1) = kAt as i := by
          intro as
          induction as with
          | nil => intro i _; cases i <;> simp [kAt]
          | cons b as ih =>
            intro i h
            cases i with
            | zero => simp at h
            | succ i => have := ih i (by simpa using h); simp only [kAt]; omega
        have := this as n hle
        omega
      | some a =>
        have hs := kAt_succ as n a ha
        cases hd : a.dk with
        | eff => 
          have := kAt_eff ha hd
          exact ⟨n, a, by omega, ha, hd, by omega⟩
        | pure => simp [stepK, hd] at hs; omega
        | read lo hi => simp [stepK, hd] at hs; omega

/-! ## Which must come first -/
def DC (ops : List Oper) (D : Nat → Bool) : Prop := ∀ (i : Nat) (o : Oper) (e : Edge), D i = true → ops[i]? = some o → e ∈ o.after → Region.binds .any e = true → D e.on = true
def Rdy (ops : List Oper) (D : Nat → Bool) (i : Nat) : Prop := ∃ o, ops[i]? = some o ∧ ∀ e ∈ o.after, Region.binds .any e = true → D e.on = true
def Sound (ops : List Oper) (i c : Nat) : Prop := ∀ j, c.testBit j = true → ∀ D, DC ops D → Rdy ops D i → D j = true

theorem clOf_sound {ops : List Oper} {D : Nat → Bool} (hD : DC ops D) {cls : List Nat} (hc : ∀ i, i < cls.length → ∃ o, ops[i]? = some o) (hs : ∀ (i c : Nat), cls[i]? = some c → Sound ops i c) {j : Nat} :
    ∀ es : List Edge, (∀ e ∈ es, Region.binds .any e = true → D e.on = true) → (clOf cls es).testBit j = true → D j = true
  | [], _, h => by simp [clOf] at h
  | e :: es, he, h => by
    have hrest := clOf_sound hD hc hs (j := j) es (fun e' h' => he e' (List.mem_cons_of_mem _ h'))
    simp only [clOf] at h
    split at h
    · rename_i hb
      simp only [Nat.testBit_or, Bool.or_eq_true] at h
      have hon := he e (List.mem_cons_self ..) hb
      rcases h with h | h | h
      · rw [Nat.one_shiftLeft] at h
        have := (Nat.testBit_two_pow (n := e.on) (m := j)).symm.trans h
        simp at this; subst this; exact hon
      · cases hg : cls[e.on]? with
        | none => rw [List.getD_eq_getElem?_getD, hg] at h; simp at h
        | some c =>
          rw [List.getD_eq_getElem?_getD, hg] at h
          simp only [Option.getD_some] at h
          obtain ⟨o, ho⟩ := hc e.on (by have := List.getElem?_eq_some_iff.1 hg; exact this.1)
          exact hs e.on c hg j h D hD ⟨o, ho, fun e' h' hb' => hD e.on o e' hon ho h' hb'⟩
      · exact hrest h
    · exact hrest h

theorem infos_spec (ops : List Oper) (all : List AOper) : ∀ (os : List Oper) (as : List AOper) (k : Nat) (cls : List Nat), ops.drop cls.length = os → all.drop cls.length = as → kAt all cls.length = k → os.length = as.length →
    (∀ (i c : Nat), cls[i]? = some c → Sound ops i c) → cls.length ≤ ops.length →
    ∀ (i : Nat) (a : AOper), as[i]? = some a → ∃ d, (infos os as k cls)[i]? = some d ∧ d.dk = a.dk ∧ d.k = kAt all (cls.length + i) ∧ d.rd = maskL a.looks ∧ d.wr = dstMask a ∧ Sound ops (cls.length + i) d.cl
  | [], [], _, _, _, _, _, _, _, _, i, a, h => by simp at h
  | [], _ :: _, _, _, _, _, _, hl, _, _, _, _, _ => by simp at hl
  | _ :: _, [], _, _, _, _, _, hl, _, _, _, _, _ => by simp at hl
  | o :: os, b :: as, k, cls, ho, ha, hk, hl, hs, hle, i, a, h => by
    simp only [infos, forceN_eq]
    have hoi : ops[cls.length]? = some o := by have := congrArg (·[0]?) ho; simpa using this
    have hai : all[cls.length]? = some b := by have := congrArg (·[0]?) ha; simpa using this
    have hlt : cls.length < ops.length := by have := List.getElem?_eq_some_iff.1 hoi; exact this.1
    have hc : Sound ops cls.length (clOf cls o.after.toList) := by
      intro j hj D hD hr
      obtain ⟨o', ho', hr⟩ := hr
      rw [hoi] at ho'; cases ho'
      exact clOf_sound hD (fun i hi => ⟨ops[i]'(by omega), by simp⟩) hs o.after.toList (fun e he hb => hr e (by simpa using he) hb) hj
    cases i with
    | zero =>
      simp at h; subst h
      exact ⟨_, rfl, rfl, by simpa using hk.symm, rfl, rfl, by simpa using hc⟩
    | succ i =>
      have hlen : (cls ++ [clOf cls o.after.toList]).length = cls.length + 1 := by simp
      have := infos_spec ops all os as (stepK b k) (cls ++ [clOf cls o.after.toList]) (by rw [hlen, ← List.drop_drop, ho]; rfl) (by rw [hlen, ← List.drop_drop, ha]; rfl)
        (by rw [hlen, kAt_succ all _ b hai, hk]) (by simpa using hl)
        (by
          intro i' c hi'
          by_cases hlt' : i' < cls.length
          · rw [List.getElem?_append_left hlt'] at hi'; exact hs i' c hi'
          · have : i' = cls.length := by
              have := List.getElem?_eq_some_iff.1 hi'
              have := this.1
              simp at this; omega
            subst this
            simp at hi'; subst hi'; exact hc)
        (by rw [hlen]; omega) i a (by simpa using h)
      obtain ⟨d, h1, h2, h3, h4, h5, h6⟩ := this
      refine ⟨d, by simpa using h1, h2, ?_, h4, h5, ?_⟩
      · rw [h3, hlen]; congr 1; omega
      · rw [hlen, show cls.length + 1 + i = cls.length + (i + 1) by omega] at h6; exact h6

theorem okAgainst_spec {x : DI} {i : Nat} : ∀ {l : List DI}, okAgainst x i l = true → ∀ (j : Nat) (y : DI), l[j]? = some y → mustFirst x y = true → y.cl.testBit i = true
  | [], _, j, y, hy, _ => by simp at hy
  | z :: l, h, j, y, hy, hm => by
    simp only [okAgainst, Bool.and_eq_true, Bool.or_eq_true] at h
    cases j with
    | zero => simp at hy; subst hy; rcases h.1 with h | h; (rw [hm] at h; simp at h); exact h
    | succ j => exact okAgainst_spec h.2 j y (by simpa using hy) hm

theorem okPairs_spec : ∀ {l : List DI} {n : Nat}, okPairs n l = true → ∀ (i j : Nat) (x y : DI), i < j → l[i]? = some x → l[j]? = some y → mustFirst x y = true → y.cl.testBit (n + i) = true
  | [], _, _, i, j, x, y, _, hx, _, _ => by simp at hx
  | z :: l, n, h, i, j, x, y, hij, hx, hy, hm => by
    simp only [okPairs, Bool.and_eq_true] at h
    cases j with
    | zero => omega
    | succ j =>
      cases i with
      | zero => simp at hx; subst hx; exact okAgainst_spec h.1 j y (by simpa using hy) hm
      | succ i =>
        have := okPairs_spec h.2 i j x y (by omega) (by simpa using hx) (by simpa using hy) hm
        rw [show n + (i + 1) = n + 1 + i by omega]; exact this

theorem okBack_spec : ∀ {l : List Oper} {n : Nat}, okBack n l = true → ∀ (i : Nat) (o : Oper), l[i]? = some o → ∀ e ∈ o.after, Region.binds .any e = true → e.on < n + i
  | [], _, _, i, o, ho, _, _, _ => by simp at ho
  | x :: l, n, h, i, o, ho, e, he, hb => by
    simp only [okBack, Bool.and_eq_true, List.all_eq_true, Bool.or_eq_true, decide_eq_true_eq] at h
    cases i with
    | zero =>
      simp at ho; subst ho
      rcases h.1 e (by simpa using he) with h' | h'
      · rw [hb] at h'; simp at h'
      · exact h'
    | succ i => have := okBack_spec h.2 i o (by simpa using ho) e he hb; omega

theorem okKinds_spec : ∀ {as : List AOper} {k : Nat}, okKinds as k = true → ∀ (i : Nat) (a : AOper), as[i]? = some a → okKind a (k + kAt as i) = true
  | [], _, _, i, a, ha => by simp at ha
  | b :: as, k, h, i, a, ha => by
    simp only [okKinds, Bool.and_eq_true] at h
    cases i with
    | zero => simp at ha; subst ha; simpa [kAt] using h.1
    | succ i =>
      have := okKinds_spec h.2 i a (by simpa using ha)
      rw [stepK_eq] at this
      simpa [kAt, Nat.add_assoc] using this

theorem mem_maskL {p : List Bool} : ∀ {l : List (List Bool)}, p ∈ l → (maskL l).testBit (unpath p) = true
  | [], h => by simp at h
  | q :: l, h => by
    simp only [maskL, Nat.testBit_or, Bool.or_eq_true]
    rcases List.mem_cons.1 h with h | h
    · subst h; left; rw [Nat.one_shiftLeft]; simp []
    · exact .inr (mem_maskL h)

theorem testBit_ne_zero {n i : Nat} (h : n.testBit i = true) : n ≠ 0 := by
  intro e; subst e; simp at h

theorem dst_bit {a : AOper} {p : List Bool} (h : a.dst = some p) : (dstMask a).testBit (unpath p) = true := by
  unfold dstMask; rw [h]; simp only; rw [Nat.one_shiftLeft]; simp []

theorem mustFirst_of {x y : DI} {b : Nat} (h : (x.wr.testBit b = true ∧ (y.rd.testBit b = true ∨ y.wr.testBit b = true)) ∨ (x.rd.testBit b = true ∧ y.wr.testBit b = true)) : mustFirst x y = true := by
  unfold mustFirst
  rw [Bool.or_eq_true]
  left
  have : ((x.wr &&& (y.rd ||| y.wr)) ||| (x.rd &&& y.wr)).testBit b = true := by
    simp only [Nat.testBit_or, Nat.testBit_and, Bool.or_eq_true, Bool.and_eq_true]
    exact h
  simpa using testBit_ne_zero this

/-- What the check gives: of two in the text's order the earlier has come when the later is ready. -/
structure DrawOK (ops : List Oper) (as : List AOper) : Prop where
  back : ∀ (i : Nat) (o : Oper), ops[i]? = some o → ∀ e ∈ o.after, Region.binds .any e = true → e.on < i
  kind : ∀ (i : Nat) (a : AOper), as[i]? = some a → okKind a (kAt as i) = true
  tmp : ∀ (i j : Nat) (x y : AOper) (p : List Bool), i < j → as[i]? = some x → as[j]? = some y → ((x.dst = some p ∧ (p ∈ y.looks ∨ y.dst = some p)) ∨ (p ∈ x.looks ∧ y.dst = some p)) →
    ∀ D, DC ops D → Rdy ops D j → D i = true
  ee : ∀ (i j : Nat) (x y : AOper), i < j → as[i]? = some x → as[j]? = some y → x.dk = .eff → y.dk = .eff → ∀ D, DC ops D → Rdy ops D j → D i = true
  er : ∀ (i j : Nat) (x y : AOper) (lo hi : Nat), i < j → as[i]? = some x → as[j]? = some y → x.dk = .eff → y.dk = .read lo hi → kAt as i < lo → ∀ D, DC ops D → Rdy ops D j → D i = true
  re : ∀ (i j : Nat) (x y : AOper) (lo hi : Nat), i < j → as[i]? = some x → as[j]? = some y → x.dk = .read lo hi → y.dk = .eff → hi ≤ kAt as j → ∀ D, DC ops D → Rdy ops D j → D i = true

theorem okDraw_spec {ops : List Oper} {as : List AOper} (hl : ops.length = as.length) (h : okDraw ops as = true) : DrawOK ops as := by
  simp only [okDraw, Bool.and_eq_true] at h
  obtain ⟨h1, h2, h3⟩ := h
  have hi := infos_spec ops as ops as 0 [] rfl rfl (by simp [kAt]) hl (by simp) (by simp)
  have main : ∀ (i j : Nat) (x y : AOper), i < j → as[i]? = some x → as[j]? = some y →
      (∀ dx dy : DI, dx.dk = x.dk → dx.k = kAt as i → dx.rd = maskL x.looks → dx.wr = dstMask x → dy.dk = y.dk → dy.k = kAt as j → dy.rd = maskL y.looks → dy.wr = dstMask y → mustFirst dx dy = true) →
      ∀ D, DC ops D → Rdy ops D j → D i = true := by
    intro i j x y hij hx hy hm D hD hr
    obtain ⟨dx, a1, a2, a3, a4, a5, a6⟩ := hi i x hx
    obtain ⟨dy, b1, b2, b3, b4, b5, b6⟩ := hi j y hy
    simp only [List.length_nil, Nat.zero_add] at a3 b3 b6
    have := okPairs_spec h3 i j dx dy hij a1 b1 (hm dx dy a2 a3 a4 a5 b2 b3 b4 b5)
    simp only [Nat.zero_add] at this
    exact b6 i this D hD hr
  refine ⟨fun i o ho e he hb => by have := okBack_spec h1 i o ho e he hb; omega, fun i a ha => by have := okKinds_spec h2 i a ha; simpa using this, ?_, ?_, ?_, ?_⟩
  · intro i j x y p hij hx hy hc
    refine main i j x y hij hx hy ?_
    intro dx dy _ _ a4 a5 _ _ b4 b5
    refine mustFirst_of (b := unpath p) ?_
    rw [a4, a5, b4, b5]
    rcases hc with ⟨c1, c2⟩ | ⟨c1, c2⟩
    · exact .inl ⟨dst_bit c1, c2.imp mem_maskL dst_bit⟩
    · exact .inr ⟨mem_maskL c1, dst_bit c2⟩
  · intro i j x y hij hx hy e1 e2
    refine main i j x y hij hx hy ?_
    intro dx dy a2 _ _ _ b2 _ _ _
    simp [mustFirst, a2, b2, e1, e2]
  · intro i j x y lo hi hij hx hy e1 e2 hk
    refine main i j x y hij hx hy ?_
    intro dx dy a2 a3 _ _ b2 _ _ _
    simp [mustFirst, a2, a3, b2, e1, e2, hk]
  · intro i j x y lo hi hij hx hy e1 e2 hk
    refine main i j x y hij hx hy ?_
    intro dx dy a2 _ _ _ b2 b3 _ _
    simp [mustFirst, a2, b2, b3, e1, e2, hk]
end Go.Ab

/- The abstract machine, part 26: what a run of a drawing region lays down. -/
namespace Go.Ab
open Go Go.RowKit

section
variable {T : Tab} {cf : CF} {q : Bool}

def Holds (T : Tab) (cf : CF) (op : AOp) (env : Env) (v : AVal) (σ : St) : Prop := ∃ σ', stepOp T cf true op env σ = some (v, σ')

theorem stays_holds {op : AOp} {env : Env} {v : AVal} {σ : St} (h : stays T cf op env v σ = true) : Holds T cf op env v σ := by
  unfold stays at h
  split at h
  · rename_i r hr
    have := eqA_eq _ _ h
    exact ⟨r.2, by rw [hr, this]⟩
  · simp at h

theorem staysAll_holds {op : AOp} {env : Env} {v : AVal} : ∀ {n : Nat} {l : List St}, staysAll T cf op env v n l = true → ∀ (j : Nat) (σ : St), j < n → l[j]? = some σ → Holds T cf op env v σ
  | 0, _, _, j, σ, h, _ => by omega
  | _ + 1, [], _, _, _, _, h => by simp at h
  | n + 1, s :: l, h, j, σ, hj, hs => by
    simp only [staysAll, Bool.and_eq_true] at h
    cases j with
    | zero => simp at hs; subst hs; exact stays_holds h.1
    | succ j => exact staysAll_holds h.2 j σ (by omega) (by simpa using hs)

theorem fltsStay_holds {k : Nat} {σ : St} : ∀ {l : List Flt}, fltsStay T cf k σ l = true → ∀ f ∈ l, k ≤ f.hi → Holds T cf f.op f.env f.v σ
  | [], _, f, hf, _ => by simp at hf
  | g :: l, h, f, hf, hk => by
    simp only [fltsStay, Bool.and_eq_true, Bool.or_eq_true, decide_eq_true_eq] at h
    rcases List.mem_cons.1 hf with e | e
    · subst e
      rcases h.1 with h' | h'
      · omega
      · exact stays_holds h'
    · exact fltsStay_holds h.2 f e hk

/-- What one operation of a region has to do with the states among which it may come. -/
def Fact (T : Tab) (cf : CF) (q : Bool) (a : AOper) (v : AVal) (env : Env) (Sg : Nat → St) (k E : Nat) : Prop :=
  (wantedA a env = false ∧ v = undefA ∧ (a.dk = .eff → Sg (k + 1) = Sg k)) ∨
  (wantedA a env = true ∧
    match a.dk with
    | .pure => ∃ σ, Holds T cf a.op env v σ
    | .read lo hi => ∀ j, lo ≤ j → j ≤ hi → j ≤ E → Holds T cf a.op env v (Sg j)
    | .eff => stepOp T cf q a.op env (Sg k) = some (v, Sg (k + 1)))

structure Trace (T : Tab) (cf : CF) (q : Bool) (as : List AOper) (k : Nat) (env : Env) (V : Nat → AVal) (En : Nat → Env) (Sg : Nat → St) : Prop where
  en0 : En 0 = env
  en : ∀ (i : Nat) (a : AOper), as[i]? = some a → En (i + 1) = setDst a (V i) (En i)
  fact : ∀ (i : Nat) (a : AOper), as[i]? = some a → Fact T cf q a (V i) (En i) Sg (k + kAt as i) (k + kAt as as.length)

theorem Trace.cons {a : AOper} {as : List AOper} {k : Nat} {env : Env} {v : AVal} {V : Nat → AVal} {En : Nat → Env} {Sg : Nat → St}
    (h : Trace T cf q as (stepK a k) (setDst a v env) V En Sg) (hf : Fact T cf q a v env Sg k (k + kAt (a :: as) (a :: as).length)) :
    Trace T cf q (a :: as) k env (fun | 0 => v | i + 1 => V i) (fun | 0 => env | i + 1 => En i) Sg := by
  refine ⟨rfl, ?_, ?_⟩
  · intro i b hb
    cases i with
    | zero => simp at hb; subst hb; exact h.en0
    | succ i => exact h.en i b (by simpa using hb)
  · intro i b hb
    cases i with
    | zero => simp at hb; subst hb; simpa [kAt] using hf
    | succ i =>
      have := h.fact i b (by simpa using hb)
      rw [stepK_eq] at this
      simpa [kAt, Nat.add_assoc] using this

theorem draw_trace : ∀ (as : List AOper) (k : Nat) (old : List St) (fl : List Flt) (env : Env) (σ : St) (r : Env × St) (So : Nat → St), drawOps T cf q as k old fl env σ = some r →
    So k = σ → (∀ j, j < k → old[k - 1 - j]? = some (So j)) → (∀ f ∈ fl, k ≤ f.hi → Holds T cf f.op f.env f.v (So k)) →
    ∃ V En Sg, (∀ j, j ≤ k → Sg j = So j) ∧ (En as.length, Sg (k + kAt as as.length)) = r ∧
      (∀ f ∈ fl, ∀ j, k ≤ j → j ≤ f.hi → j ≤ k + kAt as as.length → Holds T cf f.op f.env f.v (Sg j)) ∧ Trace T cf q as k env V En Sg
  | [], k, old, fl, env, σ, r, So, h, hσ, hold, hfl => by
    simp only [drawOps, Option.some.injEq] at h
    refine ⟨fun _ => undefA, fun _ => env, So, fun _ _ => rfl, by simp [kAt, hσ, h], ?_, ⟨rfl, by simp, by simp⟩⟩
    intro f hf j h1 h2 h3
    have : j = k := by simp [kAt] at h3; omega
    subst this; exact hfl f hf h2
  | a :: as, k, old, fl, env, σ, r, So, h, hσ, hold, hfl => by
    simp only [drawOps] at h
    cases hdk : a.dk with
    | pure =>
      rw [hdk] at h; simp only at h
      have hstepK : stepK a k = k := by simp [stepK, hdk]
      have hE : kAt (a :: as) (a :: as).length = kAt as as.length := by simp [kAt, stepK, hdk]
      have go : ∀ v, Fact T cf q a v env So k 0 ∨ True → drawOps T cf q as k old fl (setDst a v env) σ = some r →
          (∀ Sg : Nat → St, Fact T cf q a v env Sg k (k + kAt (a :: as) (a :: as).length)) → ∃ V En Sg, (∀ j, j ≤ k → Sg j = So j) ∧ (En (a :: as).length, Sg (k + kAt (a :: as) (a :: as).length)) = r ∧
          (∀ f ∈ fl, ∀ j, k ≤ j → j ≤ f.hi → j ≤ k + kAt (a :: as) (a :: as).length → Holds T cf f.op f.env f.v (Sg j)) ∧ Trace T cf q (a :: as) k env V En Sg := by
        intro v _ hr hf
        obtain ⟨V, En, Sg, h1, h2, h3, h4⟩ := draw_trace as k old fl _ σ r So hr hσ hold hfl
        exact ⟨_, _, Sg, h1, by rw [hE]; exact h2, by rw [hE]; exact h3, Trace.cons (by rw [hstepK]; exact h4) (hf Sg)⟩
      cases hw : wantedA a env with
      | true =>
        rw [hw] at h; simp only at h
        split at h
        · rename_i r1 hstep
          rw [setDstK_eq] at h
          exact go r1.1 (.inr trivial) h fun Sg => .inr ⟨hw, by rw [hdk]; exact ⟨σ, r1.2, hstep⟩⟩
        · simp at h
      | false =>
        rw [hw] at h; simp only at h
        rw [setDstK_eq] at h
        exact go undefA (.inr trivial) h fun Sg => .inl ⟨hw, rfl, fun e => by rw [hdk] at e; cases e⟩
    | read lo hi =>
      rw [hdk] at h; simp only at h
      have hstepK : stepK a k = k := by simp [stepK, hdk]
      have hE : kAt (a :: as) (a :: as).length = kAt as as.length := by simp [kAt, stepK, hdk]
      cases hw : wantedA a env with
      | true =>
        rw [hw] at h; simp only at h
        split at h
        · rename_i r1 hstep
          split at h
          · rename_i hst
            rw [setDstK_eq] at h
            have hhere : Holds T cf a.op env r1.1 (So k) := ⟨r1.2, by rw [hσ, hstep]⟩
            obtain ⟨V, En, Sg, h1, h2, h3, h4⟩ := draw_trace as k old _ _ σ r So h hσ hold (by
              intro f hf hk
              split at hf
              · rcases List.mem_cons.1 hf with e | e
                · subst e; exact hhere
                · exact hfl f e hk
              · exact hfl f hf hk)
            refine ⟨_, _, Sg, h1, by rw [hE]; exact h2, ?_, Trace.cons (v := r1.1) (by rw [hstepK]; exact h4) (.inr ⟨hw, ?_⟩)⟩
            · intro f hf j g1 g2 g3
              rw [hE] at g3
              refine h3 f ?_ j g1 g2 g3
              split
              · exact List.mem_cons_of_mem _ hf
              · exact hf
            · rw [hdk]
              simp only
              intro j g1 g2 g3
              rw [hE] at g3
              rcases Nat.lt_trichotomy j k with hj | hj | hj
              · rw [h1 j (by omega)]
                exact staysAll_holds hst (k - 1 - j) _ (by omega) (hold j hj)
              · subst hj; rw [h1 j (Nat.le_refl _)]; exact hhere
              · have hkh : k < hi := by omega
                refine h3 ⟨hi, a.op, env, r1.1⟩ ?_ j (by omega) g2 g3
                rw [if_pos hkh]
                exact List.mem_cons_self ..
          · simp at h
        · simp at h
      | false =>
        rw [hw] at h; simp only at h
        rw [setDstK_eq] at h
        obtain ⟨V, En, Sg, h1, h2, h3, h4⟩ := draw_trace as k old fl _ σ r So h hσ hold hfl
        exact ⟨_, _, Sg, h1, by rw [hE]; exact h2, by rw [hE]; exact h3, Trace.cons (by rw [hstepK]; exact h4) (.inl ⟨hw, rfl, fun e => by rw [hdk] at e; cases e⟩)⟩
    | eff =>
      rw [hdk] at h; simp only at h
      have hstepK : stepK a k = k + 1 := by simp [stepK, hdk]
      have hE : k + kAt (a :: as) (a :: as).length = k + 1 + kAt as as.length := by simp [kAt, stepK, hdk]; omega
      have next : ∀ σ1 : St, (∀ j, j < k + 1 → (σ :: old)[k + 1 - 1 - j]? = some ((fun j => if j ≤ k then So j else σ1) j)) := by
        intro σ1 j hj
        simp only [show j ≤ k by omega, if_true]
        by_cases e : j = k
        · subst e; simp [hσ]
        · have : k + 1 - 1 - j = (k - 1 - j) + 1 := by omega
          rw [this]; simpa using hold j (by omega)
      cases hw : wantedA a env with
      | true =>
        rw [hw] at h; simp only at h
        split at h
        · rename_i r1 hstep
          split at h
          · rename_i hst
            rw [setDstK_eq] at h
            obtain ⟨V, En, Sg, h1, h2, h3, h4⟩ := draw_trace as (k + 1) (σ :: old) fl _ r1.2 r (fun j => if j ≤ k then So j else r1.2) h (if_neg (Nat.not_succ_le_self k)) (next r1.2) (by
              intro f hf hk
              simp only [show ¬ (k + 1 ≤ k) by omega, if_false]
              exact fltsStay_holds hst f hf hk)
            have hk : Sg k = σ := by rw [h1 k (by omega)]; simp [hσ]
            have hk1 : Sg (k + 1) = r1.2 := by rw [h1 (k + 1) (by omega)]; exact if_neg (Nat.not_succ_le_self k)
            refine ⟨_, _, Sg, ?_, by rw [hE]; exact h2, ?_, Trace.cons (v := r1.1) (by rw [hstepK]; exact h4) (.inr ⟨hw, by rw [hdk]; simp only; rw [hk, hk1]; exact hstep⟩)⟩
            · intro j hj; rw [h1 j (by omega)]; simp [hj]
            · intro f hf j g1 g2 g3
              rw [hE] at g3
              by_cases e : j = k
              · subst e; rw [h1 j (by omega)]; simp only [Nat.le_refl, if_true]; exact hfl f hf g2
              · exact h3 f hf j (by omega) g2 g3
          · simp at h
        · simp at h
      | false =>
        rw [hw] at h; simp only at h
        rw [setDstK_eq] at h
        obtain ⟨V, En, Sg, h1, h2, h3, h4⟩ := draw_trace as (k + 1) (σ :: old) fl _ σ r (fun j => if j ≤ k then So j else σ) h (if_neg (Nat.not_succ_le_self k)) (next σ) (by
          intro f hf hk
          simp only [show ¬ (k + 1 ≤ k) by omega, if_false]
          rw [← hσ]
          exact hfl f hf (by omega))
        have hk : Sg k = σ := by rw [h1 k (by omega)]; simp [hσ]
        have hk1 : Sg (k + 1) = σ := by rw [h1 (k + 1) (by omega)]; exact if_neg (Nat.not_succ_le_self k)
        refine ⟨_, _, Sg, ?_, by rw [hE]; exact h2, ?_, Trace.cons (v := undefA) (by rw [hstepK]; exact h4) (.inl ⟨hw, rfl, fun _ => by rw [hk, hk1]⟩)⟩
        · intro j hj; rw [h1 j (by omega)]; simp [hj]
        · intro f hf j g1 g2 g3
          rw [hE] at g3
          by_cases e : j = k
          · subst e; rw [h1 j (by omega)]; simp only [Nat.le_refl, if_true]; exact hfl f hf g2
          · exact h3 f hf j (by omega) g2 g3
end

/-! ## The temporaries when only some have come -/
noncomputable def dstAt (as : List AOper) (i : Nat) : Option (List Bool) := (as[i]?).bind (·.dst)

noncomputable def curD (as : List AOper) (V : Nat → AVal) (env : Env) (D : Nat → Bool) (p : List Bool) : Nat → Option AVal
  | 0 => env.get p
  | n + 1 => if D n = true ∧ dstAt as n = some p then some (V n) else curD as V env D p n

section
variable {as : List AOper} {V : Nat → AVal} {env : Env} {D D' : Nat → Bool} {p : List Bool}

theorem curD_agree : ∀ {n : Nat}, (∀ j, j < n → dstAt as j = some p → D j = D' j) → curD as V env D p n = curD as V env D' p n
  | 0, _ => rfl
  | n + 1, h => by
    have := curD_agree (n := n) fun j hj => h j (by omega)
    simp only [curD, this]
    by_cases hd : dstAt as n = some p
    · rw [h n (by omega) hd]
    · simp [hd]

theorem curD_below {i : Nat} (hD : ∀ j, D j = true → j < i) : ∀ {n : Nat}, i ≤ n → curD as V env D p n = curD as V env D p i
  | 0, h => by have : i = 0 := by omega
               subst this; rfl
  | n + 1, h => by
    by_cases e : i = n + 1
    · subst e; rfl
    · have hn : D n ≠ true := fun h' => by have := hD n h'; omega
      simp only [curD, hn, false_and, if_false, Bool.false_eq_true]
      exact curD_below hD (by omega)

theorem curD_put {i : Nat} {v : AVal} (hd : dstAt as i = some p) (hv : V i = v) (hD' : ∀ j, D' j = (D j || j == i)) : ∀ {n : Nat}, i < n → (∀ j, i < j → j < n → dstAt as j = some p → D j = false) → curD as V env D' p n = some v
  | 0, h, _ => by omega
  | n + 1, h, hlast => by
    by_cases e : i = n
    · subst e; simp [curD, hD', hd, hv]
    · have hn : ¬ (D' n = true ∧ dstAt as n = some p) := by
        rintro ⟨h1, h2⟩
        rw [hD'] at h1
        have := hlast n (by omega) (by omega) h2
        simp [this] at h1
        exact e h1.symm
      simp only [curD, hn, if_false]
      exact curD_put hd hv hD' (by omega) (fun j h1 h2 => hlast j h1 (by omega))
end
end Go.Ab

/- The abstract machine, part 27: a region that draws its order, in every order. -/
namespace Go.Ab
open Go Go.RowKit

theorem Rel.drawn {w0 w : World} {ν : List Place} {σ : St} (h : Rel w0 ν σ w) (n : Nat) : Rel w0 ν σ { w with drawn := n } :=
  ⟨⟨h.below.1, h.below.2, h.below.3, h.below.4, h.below.5⟩, h.next, h.live, h.apart⟩

theorem setDst_get {a : AOper} {v : AVal} {env : Env} {p : List Bool} : (setDst a v env).get p = if a.dst = some p then some v else env.get p := by
  unfold setDst
  cases h : a.dst with
  | none => simp
  | some d =>
    simp only [Option.some.injEq]
    by_cases e : d = p
    · subst e; simp [Tr.get_set_same]
    · rw [if_neg e, Tr.get_set_other _ _ _ _ (Ne.symm e)]

theorem EnvR.congr {w0 : World} {ν : List Place} {T : Tab} {env env' : Env} {tmps : Array Value} (h : EnvR w0 ν T env tmps) (he : ∀ p, env'.get p = env.get p) : EnvR w0 ν T env' tmps := by
  intro t
  have := h t
  simp only [Opd.ev, he] at this ⊢
  exact this

theorem wanted_congr {a : AOper} {env env' : Env} (h : ∀ p ∈ a.looks, env.get p = env'.get p) : wantedA a env = wantedA a env' := by
  unfold wantedA
  unfold AOper.looks at h
  cases hg : a.guard with
  | none => rfl
  | some pw =>
    obtain ⟨p, want⟩ := pw
    rw [hg] at h
    simp only
    rw [h p (List.mem_cons_self ..)]

theorem op_looks {a : AOper} {p : List Bool} (h : p ∈ a.op.tmps) : p ∈ a.looks := by
  unfold AOper.looks
  split
  · exact h
  · exact List.mem_cons_of_mem _ h

/-- How many have not come. -/
def unl (m : Nat) (D : Nat → Bool) : Nat := (List.range m).countP fun i => !D i

theorem unl_put {m i : Nat} {D D' : Nat → Bool} (hD : ∀ j, D' j = (D j || j == i)) (hi : i < m) (h0 : D i = false) : unl m D' + 1 ≤ unl m D := by
  unfold unl
  induction m with
  | zero => omega
  | succ m ih =>
    rw [List.range_succ, List.countP_append, List.countP_append]
    by_cases e : i = m
    · subst e
      have h1 : List.countP (fun j => !D' j) [i] = 0 := by simp [hD]
      have h2 : List.countP (fun j => !D j) [i] = 1 := by simp [h0]
      have h3 : List.countP (fun j => !D' j) (List.range i) ≤ List.countP (fun j => !D j) (List.range i) := by
        refine List.countP_mono_left fun x _ hx => ?_
        rw [hD] at hx
        simp at hx ⊢
        exact hx.1
      omega
    · have := ih (by omega)
      have h2 : List.countP (fun j => !D' j) [m] = List.countP (fun j => !D j) [m] := by
        simp [hD, Ne.symm e]
      omega

theorem unl_zero {m : Nat} {D : Nat → Bool} (h : unl m D = 0) : ∀ i, i < m → D i = true := by
  intro i hi
  unfold unl at h
  rw [List.countP_eq_zero] at h
  have := h i (List.mem_range.2 hi)
  simpa using this

theorem okOpers_get {S : Stat} {n : Nat} {ops : List Oper} : ∀ {os : List Oper} {as : List AOper}, okOpers S n ops os as = true →
    os.length = as.length ∧ ∀ (i : Nat) (o : Oper) (a : AOper), os[i]? = some o → as[i]? = some a → okOper S n ops o a = true
  | [], [], _ => ⟨rfl, by simp⟩
  | [], _ :: _, h => by simp [okOpers] at h
  | _ :: _, [], h => by simp [okOpers] at h
  | o :: os, a :: as, h => by
    simp only [okOpers, Bool.and_eq_true] at h
    obtain ⟨h1, h2⟩ := okOpers_get h.2
    refine ⟨by simp [h1], ?_⟩
    intro i o' a' ho ha
    cases i with
    | zero => simp at ho ha; subst ho; subst ha; exact h.1
    | succ i => exact h2 i o' a' (by simpa using ho) (by simpa using ha)

section
variable {P : Program} {S : Stat} {w0 : World} {cf : CF} {q : Bool} {n : Nat} {ops : Array Oper} {as : List AOper} {V : Nat → AVal} {En : Nat → Env} {Sg : Nat → St} {env : Env} {Q : Exit → Act → World → Prop}

theorem en_cur (ht : Trace S.tab cf q as 0 env V En Sg) (p : List Bool) : ∀ i, i ≤ as.length → (En i).get p = curD as V env (fun _ => true) p i
  | 0, _ => by rw [ht.en0]; rfl
  | i + 1, h => by
    obtain ⟨a, ha⟩ : ∃ a, as[i]? = some a := ⟨as[i]'(by omega), by simp⟩
    rw [ht.en i a ha, setDst_get]
    have hd : dstAt as i = a.dst := by simp [dstAt, ha]
    simp only [curD, hd, true_and]
    rw [en_cur ht p i (by omega)]

/-- Where a run of the region in some order stands. -/
structure At (w0 : World) (S : Stat) (n : Nat) (ops : Array Oper) (as : List AOper) (V : Nat → AVal) (Sg : Nat → St) (env : Env) (ν0 : List Place) (defers : List Deferred) (listed : Array Bool) (a : Act) (w : World) : Prop where
  size : listed.size = ops.size
  dc : DC ops.toList (fun i => listed.getD i false)
  rel : ∃ ν env' k, ν0 <+: ν ∧ EnvR w0 ν S.tab env' a.tmps ∧ Rel w0 ν (Sg k) w ∧ k ≤ kAt as as.length ∧ (∀ p, env'.get p = curD as V env (fun i => listed.getD i false) p as.length) ∧
    (∀ (i : Nat) (x : AOper), as[i]? = some x → x.dk = .eff → (listed.getD i false = true ↔ kAt as i < k))
  tmps : a.tmps.size = n
  def_ : a.defers = defers

theorem At.put {ν0 : List Place} {listed : Array Bool} {a : Act} {w w' : World} {i : Nat} {ai : AOper} {oi : Oper} {x : Value} {ν ν' : List Place} {env' : Env} {k' : Nat} {defers : List Deferred}
    (hA : At w0 S n ops as V Sg env ν0 defers listed a w) (hdr : DrawOK ops.toList as) (hlen : ops.size = as.length)
    (hi : as[i]? = some ai) (hr : Rdy ops.toList (fun i => listed.getD i false) i) (h0 : listed.getD i true = false)
    (hn1 : ν0 <+: ν') (hn : ν <+: ν') (henv : EnvR w0 ν S.tab env' a.tmps) (hcur : ∀ p, env'.get p = curD as V env (fun i => listed.getD i false) p as.length)
    (hdst : DstOK n oi.dst ai.dst) (hx : VR w0 ν' (V i) x) (hrel : Rel w0 ν' (Sg k') w') (hk' : k' ≤ kAt as as.length)
    (hkk : ∀ (j : Nat) (y : AOper), as[j]? = some y → y.dk = .eff → ((listed.getD j false = true ∨ j = i) ↔ kAt as j < k')) :
    At w0 S n ops as V Sg env ν0 defers (listed.setIfInBounds i true) (a.put oi.dst x) w' := by
  have hil : i < listed.size := by
    rcases Nat.lt_or_ge i listed.size with h | h
    · exact h
    · simp [Array.getElem?_eq_none h] at h0
  have hget : ∀ j, (listed.setIfInBounds i true).getD j false = (listed.getD j false || j == i) := by
    intro j
    by_cases e : j = i
    · subst e; simp [hil]
    · rw [getD_set_ne false (Ne.symm e)]; simp [e]
  obtain ⟨he, hs⟩ := (henv.mono hn).put (v := V i) hA.tmps hdst hx
  have him : i < as.length := by have := List.getElem?_eq_some_iff.1 hi; exact this.1
  refine ⟨by simpa using hA.size, ?_, ⟨ν', setDst ai (V i) env', k', hn1, he, hrel, hk', ?_, ?_⟩, hs, ?_⟩
  · intro j o e hj ho hee hb
    simp only at hj ⊢
    rw [hget] at hj ⊢
    rw [Bool.or_eq_true]
    rcases Bool.or_eq_true .. ▸ hj with h | h
    · exact .inl (hA.dc j o e h ho hee hb)
    · simp at h; subst h
      obtain ⟨o', ho', hall⟩ := hr
      rw [ho] at ho'; cases ho'
      exact .inl (hall e hee hb)
  · intro p
    rw [setDst_get]
    by_cases hd : ai.dst = some p
    · rw [if_pos hd]
      have hdi : dstAt as i = some p := by simp [dstAt, hi, hd]
      refine (curD_put (D := fun j => listed.getD j false) hdi rfl (fun j => hget j) him ?_).symm
      intro j h1 h2 h3
      obtain ⟨y, hy⟩ : ∃ y, as[j]? = some y := ⟨as[j]'h2, by simp⟩
      have hyd : y.dst = some p := by simpa [dstAt, hy] using h3
      cases hj : listed.getD j false with
      | false => rfl
      | true =>
        obtain ⟨oj, hoj⟩ : ∃ o, ops.toList[j]? = some o := ⟨ops.toList[j]'(by simp; omega), by simp⟩
        have := hdr.tmp i j ai y p h1 hi hy (.inl ⟨hd, .inr hyd⟩) _ hA.dc ⟨oj, hoj, fun e he hb => hA.dc j oj e hj hoj he hb⟩
        rw [Array.getD_eq_getD_getElem?] at h0 this
        have hsome : listed[i]? = some listed[i] := by simp [hil]
        rw [hsome] at h0 this
        simp at h0 this
        rw [h0] at this; cases this
    · rw [if_neg hd, hcur p]
      refine curD_agree fun j _ hj => ?_
      rw [hget]
      by_cases e : j = i
      · subst e; exfalso; apply hd; simpa [dstAt, hi] using hj
      · simp [e]
  · intro j y hy hye
    rw [hget, ← hkk j y hy hye]
    simp
  · rw [← hA.def_]; unfold Act.put; cases oi.dst <;> rfl

theorem at_sound (hB : Base P S w0) (hcf : CFok P w0 cf) (hq : Quiet cf) (hok : okOpers S n ops.toList ops.toList as = true) (hdr : DrawOK ops.toList as) (ht : Trace S.tab cf q as 0 env V En Sg)
    {ν0 : List Place} {defers : List Deferred}
    (hk : ∀ ν' act' w', ν0 <+: ν' → EnvR w0 ν' S.tab (En as.length) act'.tmps → act'.tmps.size = n → act'.defers = defers → Rel w0 ν' (Sg (kAt as as.length)) w' → Q .normal act' w') :
    ∀ (fuel : Nat) (listed : Array Bool) (a : Act) (w : World), unl as.length (fun i => listed.getD i false) ≤ fuel → At w0 S n ops as V Sg env ν0 defers listed a w → wpAny P .any ops Q fuel listed a w := by
  obtain ⟨hlen, hall⟩ := okOpers_get hok
  have hlen' : ops.size = as.length := by simpa using hlen
  have done : ∀ (listed : Array Bool) (a : Act) (w : World), At w0 S n ops as V Sg env ν0 defers listed a w → (∀ i, i < as.length → listed.getD i false = true) → Q .normal a w := by
    intro listed a w hA hl
    obtain ⟨ν, env', k, h1, h2, h3, h4, h5, h6⟩ := hA.rel
    have hkE : k = kAt as as.length := by
      rcases Nat.lt_or_ge k (kAt as as.length) with h | h
      · obtain ⟨i, x, g1, g2, g3, g4⟩ := kAt_find as k as.length h
        have := (h6 i x g2 g3).1 (hl i g1)
        omega
      · omega
    refine hk ν a w h1 (h2.congr fun p => ?_) hA.tmps hA.def_ (hkE ▸ h3)
    rw [h5 p, en_cur ht p as.length (Nat.le_refl _)]
    exact curD_agree fun j hj _ => (hl j hj).symm
  have allReady : ∀ (listed : Array Bool) (a : Act) (w : World), At w0 S n ops as V Sg env ν0 defers listed a w → Region.ready .any ops listed = [] → ∀ i, i < as.length → listed.getD i false = true := by
    intro listed a w hA hr i
    induction i using Nat.strongRecOn with
    | ind i ih =>
      intro hi
      cases hli : listed.getD i false with
      | true => rfl
      | false =>
        exfalso
        obtain ⟨o, ho⟩ : ∃ o, ops[i]? = some o := ⟨ops[i]'(by omega), by simp⟩
        have hil : i < listed.size := by rw [hA.size]; omega
        have : i ∈ Region.ready .any ops listed := mem_ready.2 ⟨by
          rw [Array.getD_eq_getD_getElem?] at hli ⊢
          have hsome : listed[i]? = some listed[i] := by simp [hil]
          rw [hsome] at hli ⊢
          simpa using hli, o, ho, fun e he hb => by
            have hlt := hdr.back i o (by simpa using ho) e he hb
            exact ih e.on hlt (by omega)⟩
        rw [hr] at this; cases this
  intro fuel
  induction fuel with
  | zero =>
    intro listed a w hf hA
    have hl := unl_zero (Nat.le_zero.1 hf)
    refine ⟨?_, done listed a w hA hl⟩
    cases hr : Region.ready .any ops listed with
    | nil => rfl
    | cons i rs =>
      exfalso
      have hi : i ∈ Region.ready .any ops listed := by rw [hr]; exact List.mem_cons_self ..
      obtain ⟨h0, o, ho, _⟩ := mem_ready.1 hi
      have hlt : i < ops.size := (Array.getElem?_eq_some_iff.1 ho).1
      have := hl i (by omega)
      have hil : i < listed.size := by rw [hA.size]; exact hlt
      rw [Array.getD_eq_getD_getElem?] at h0 this
      have hsome : listed[i]? = some listed[i] := by simp [hil]
      rw [hsome] at h0 this
      simp at h0 this
      rw [h0] at this; cases this
  | succ fuel ih =>
    intro listed a w hf hA
    refine ⟨fun hr => done listed a w hA (allReady listed a w hA hr), fun i hi => ?_⟩
    obtain ⟨h0, o, ho, hedges⟩ := mem_ready.1 hi
    have hlt : i < ops.size := (Array.getElem?_eq_some_iff.1 ho).1
    have him : i < as.length := by omega
    have ho' : ops.toList[i]? = some o := by simpa using ho
    obtain ⟨x, hx⟩ : ∃ x, as[i]? = some x := ⟨as[i]'him, by simp⟩
    have hil : i < listed.size := by rw [hA.size]; exact hlt
    have hl0 : listed.getD i false = false := by
      rw [Array.getD_eq_getD_getElem?] at h0 ⊢
      have hsome : listed[i]? = some listed[i] := by simp [hil]
      rw [hsome] at h0 ⊢
      simpa using h0
    have hrdy : Rdy ops.toList (fun i => listed.getD i false) i := ⟨o, ho', hedges⟩
    obtain ⟨hop, hdst, hguard⟩ := okOper_parts (hall i o x ho' hx)
    obtain ⟨ν, env', k, h1, h2, h3, h4, h5, h6⟩ := hA.rel
    have dcr : ∀ j y oj, as[j]? = some y → ops.toList[j]? = some oj → listed.getD j false = true → Rdy ops.toList (fun i => listed.getD i false) j := fun j y oj _ hoj hj => ⟨oj, hoj, fun e he hb => hA.dc j oj e hj hoj he hb⟩
    have later : ∀ j y, i < j → as[j]? = some y → (∀ D, DC ops.toList D → Rdy ops.toList D j → D i = true) → listed.getD j false = false := by
      intro j y hij hy hm
      cases hj : listed.getD j false with
      | false => rfl
      | true =>
        have hjl : j < ops.size := by have := (List.getElem?_eq_some_iff.1 hy).1; omega
        have := hm _ hA.dc (dcr j y (ops.toList[j]'(by simpa using hjl)) hy (by simp) hj)
        rw [hl0] at this; cases this
    -- at what the operation looks
    have hlook : ∀ p ∈ x.looks, env'.get p = (En i).get p := by
      intro p hp
      have e1 : curD as V env (fun _ => true) p i = curD as V env (fun j => decide (j < i)) p i := curD_agree fun j hj _ => by simp [hj]
      have e2 : curD as V env (fun j => decide (j < i)) p as.length = curD as V env (fun j => decide (j < i)) p i := curD_below (fun j hj => by simpa using hj) (by omega)
      rw [h5 p, en_cur ht p i (by omega), e1, ← e2]
      refine curD_agree fun j hj hd => ?_
      obtain ⟨y, hy⟩ : ∃ y, as[j]? = some y := ⟨as[j]'hj, by simp⟩
      have hyd : y.dst = some p := by simpa [dstAt, hy] using hd
      rcases Nat.lt_trichotomy j i with h | h | h
      · have := hdr.tmp j i y x p h hy hx (.inl ⟨hyd, .inl hp⟩) _ hA.dc hrdy
        simp [h, this]
      · subst h; simp [hl0]
      · have := later j y h hy (fun D hD hr => hdr.tmp i j x y p h hx hy (.inr ⟨hp, hyd⟩) D hD hr)
        simp only [this]
        symm; simpa using Nat.le_of_lt h
    have hwant : wantedA x env' = wantedA x (En i) := wanted_congr hlook
    have hwc := wanted_eq (S := S) (ops := ops) h2 hA.tmps (o := o) hguard
    have hstepc : ∀ q σ, stepOp S.tab cf q x.op env' σ = stepOp S.tab cf q x.op (En i) σ := fun q σ => step_congr fun p hp => hlook p (op_looks hp)
    -- the effects
    have hkeff : x.dk = .eff → k = kAt as i := by
      intro he
      have hge : ¬ kAt as i < k := fun h => by have := (h6 i x hx he).2 h; rw [hl0] at this; cases this
      rcases Nat.lt_or_ge k (kAt as i) with h | h
      · obtain ⟨j, y, g1, g2, g3, g4⟩ := kAt_find as k i h
        have := hdr.ee j i y x g1 g2 hx g3 he _ hA.dc hrdy
        have := (h6 j y g2 g3).1 this
        omega
      · omega
    have hrest : ∀ (ν' : List Place) (v : Value) (w' : World) (k' : Nat), ν <+: ν' → VR w0 ν' (V i) v → Rel w0 ν' (Sg k') w' → (x.dk = .eff → k' = k + 1) → (x.dk ≠ .eff → k' = k) → wpAny P .any ops Q fuel (listed.setIfInBounds i true) (a.put o.dst v) w' := by
      intro ν' v w' k' g1 g2 g3 g4 g5
      refine ih _ _ _ ?_ (hA.put hdr hlen' hx hrdy h0 (h1.trans g1) g1 h2 h5 hdst g2 g3 ?_ ?_)
      · have := unl_put (m := as.length) (i := i) (D := fun j => listed.getD j false) (D' := fun j => (listed.setIfInBounds i true).getD j false) (fun j => by
          by_cases e : j = i
          · subst e; simp [hil]
          · show (listed.setIfInBounds i true).getD j false = _
            rw [getD_set_ne false (Ne.symm e)]; simp [e]) him hl0
        omega
      · by_cases he : x.dk = .eff
        · rw [g4 he, hkeff he]
          have := kAt_lt hx he him
          omega
        · rw [g5 he]; exact h4
      · intro j y hy hye
        by_cases he : x.dk = .eff
        · rw [g4 he]
          constructor
          · rintro (h | h)
            · have := (h6 j y hy hye).1 h; omega
            · subst h; rw [hkeff he]; omega
          · intro h
            by_cases hjk : kAt as j < k
            · exact .inl ((h6 j y hy hye).2 hjk)
            · right
              have e1 : kAt as j = kAt as i := by have := hkeff he; omega
              rcases Nat.lt_trichotomy j i with h' | h' | h'
              · have := kAt_lt hy hye h'; omega
              · exact h'
              · have := kAt_lt hx he h'; omega
        · rw [g5 he]
          constructor
          · rintro (h | h)
            · exact (h6 j y hy hye).1 h
            · subst h; rw [hx] at hy; cases hy; exact absurd hye he
          · intro h; exact .inl ((h6 j y hy hye).2 h)
    have hgetk : ∀ he : x.dk = .eff, Sg k = Sg (kAt as i) ∧ Sg (k + 1) = Sg (kAt as i + 1) := fun he => by rw [hkeff he]; exact ⟨rfl, rfl⟩
    unfold wpOp
    simp only [ho]
    rw [hwc, hwant]
    rcases ht.fact i x hx with ⟨f1, f2, f3⟩ | ⟨f1, f2⟩
    · rw [f1]
      simp only [Bool.false_eq_true, if_false]
      by_cases he : x.dk = .eff
      · refine hrest ν undef w (k + 1) (List.prefix_refl _) (by rw [f2]; exact VR_undef) ?_ (fun _ => rfl) (fun h => absurd he h)
        have hs := f3 he
        rw [Nat.zero_add] at hs
        rw [(hgetk he).2, hs, ← (hgetk he).1]; exact h3
      · exact hrest ν undef w k (List.prefix_refl _) (by rw [f2]; exact VR_undef) h3 (fun h => absurd h he) (fun _ => rfl)
    · rw [f1]
      simp only [if_true]
      left
      cases hdk : x.dk with
      | pure =>
        rw [hdk] at f2; simp only at f2
        obtain ⟨σ1, σ2, hst⟩ := f2
        have hpure : pureOp x.op = true := by have := hdr.kind i x hx; simpa [okKind, hdk] using this
        have hst' : stepOp S.tab cf true x.op env' (Sg k) = some (V i, Sg k) := by rw [hstepc]; exact pure_step hpure hst
        refine wp_opG (sim_op hB h2 h3 hcf hop hst') fun ν' v w' g1 g2 g3 => ?_
        exact hrest ν' v w' k g1 g2 g3 (fun h => by rw [hdk] at h; cases h) (fun _ => rfl)
      | read lo hi =>
        rw [hdk] at f2; simp only at f2
        have hkind := hdr.kind i x hx
        simp only [okKind, hdk, Bool.and_eq_true, decide_eq_true_eq] at hkind
        have hlo : lo ≤ k := by
          rcases Nat.lt_or_ge k lo with h | h
          · exfalso
            obtain ⟨j, y, g1, g2, g3, g4⟩ := kAt_find as k i (by omega)
            have := hdr.er j i y x lo hi g1 g2 hx g3 hdk (by omega) _ hA.dc hrdy
            have := (h6 j y g2 g3).1 this
            omega
          · exact h
        have hhi : k ≤ hi := by
          rcases Nat.lt_or_ge hi k with h | h
          · exfalso
            obtain ⟨j, y, g1, g2, g3, g4⟩ := kAt_find as hi as.length (by omega)
            have hj : listed.getD j false = true := (h6 j y g2 g3).2 (by omega)
            rcases Nat.lt_trichotomy j i with h' | h' | h'
            · have := kAt_lt g2 g3 h'; omega
            · subst h'; rw [hl0] at hj; cases hj
            · have := later j y h' g2 (fun D hD hr => hdr.re i j x y lo hi h' hx g2 hdk g3 (by omega) D hD hr)
              rw [this] at hj; cases hj
          · exact h
        obtain ⟨σ', hst⟩ := f2 k hlo hhi (by omega)
        have hst' : stepOp S.tab cf true x.op env' (Sg k) = some (V i, Sg k) := by
          rw [hstepc, hst, quiet_step hq hst]
        refine wp_opG (sim_op hB h2 h3 hcf hop hst') fun ν' v w' g1 g2 g3 => ?_
        exact hrest ν' v w' k g1 g2 g3 (fun h => by rw [hdk] at h; cases h) (fun _ => rfl)
      | eff =>
        rw [hdk] at f2; simp only at f2
        rw [Nat.zero_add] at f2
        have hst' : stepOp S.tab cf q x.op env' (Sg k) = some (V i, Sg (k + 1)) := by
          rw [hstepc, (hgetk hdk).1, (hgetk hdk).2]; exact f2
        refine wp_opG (sim_op hB h2 h3 hcf hop hst') fun ν' v w' g1 g2 g3 => ?_
        exact hrest ν' v w' (k + 1) g1 g2 g3 (fun _ => rfl) (fun h => absurd hdk h)

/-- A region that draws its order. -/
theorem wp_drawOps (hm : P.follows .mixedOrders = true) (hB : Base P S w0) (hcf : CFok P w0 cf) (hq : Quiet cf) {σ : St} {ν : List Place} {act : Act} {w : World} {r : Env × St} {id : Nat}
    (hok : okOpers S n ops.toList ops.toList as = true) (hd : okDraw ops.toList as = true) (h : drawOps S.tab cf q as 0 [] [] env σ = some r)
    (henv : EnvR w0 ν S.tab env act.tmps) (hn : act.tmps.size = n) (hrel : Rel w0 ν σ w)
    (hk : ∀ ν' act' w', ν <+: ν' → EnvR w0 ν' S.tab r.1 act'.tmps → act'.tmps.size = n → act'.defers = act.defers → Rel w0 ν' r.2 w' → Q .normal act' w') :
    (Code.region id ops true).wp P Q act w := by
  obtain ⟨hlen, -⟩ := okOpers_get hok
  have hlen' : ops.size = as.length := by simpa using hlen
  obtain ⟨V, En, Sg, h1, h2, -, h4⟩ := draw_trace as 0 [] [] env σ r (fun _ => σ) h rfl (fun j hj => by omega) (by simp)
  have hS0 : Sg 0 = σ := h1 0 (Nat.le_refl _)
  refine wp_region_any hm (at_sound hB hcf hq hok (okDraw_spec hlen hd) h4 (ν0 := ν) (defers := act.defers) ?_ _ _ _ _ ?_ ?_)
  · intro ν' act' w' g1 g2 g3 g4 g5
    refine hk ν' act' w' g1 ?_ g3 g4 ?_
    · rw [← h2]; exact g2
    · rw [← h2]; simpa using g5
  · rw [hlen']
    unfold unl
    exact Nat.le_trans List.countP_le_length (by simp)
  · have hall : ∀ i, (Array.replicate ops.size false).getD i false = false := by
      intro i; simp [Array.getElem?_replicate]; split <;> rfl
    refine ⟨by simp, ?_, ⟨ν, env, 0, List.prefix_refl _, henv, ?_, Nat.zero_le _, ?_, ?_⟩, hn, rfl⟩
    · intro i o e hi
      simp only at hi
      rw [hall] at hi; cases hi
    · rw [hS0]; exact hrel.drawn _
    · intro p
      have : ∀ m, curD as V env (fun i => (Array.replicate ops.size false).getD i false) p m = env.get p := by
        intro m
        induction m with
        | zero => rfl
        | succ m ih => rw [curD, if_neg (by rw [hall]; simp)]; exact ih
      rw [this]
    · intro i x _ _
      rw [hall]; simp
end
end Go.Ab
