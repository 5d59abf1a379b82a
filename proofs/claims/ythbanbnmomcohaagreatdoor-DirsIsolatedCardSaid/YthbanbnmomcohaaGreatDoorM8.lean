/- The abstract machine, part 27: a region that draws its order, in every order. -/
import Derived.Test.YthbanbnmomcohaaGreatDoorM7
import Derived.Scope
import Derived.LoopN
set_option linter.all false
set_option linter.unusedSimpArgs false
namespace Go.Ab
open Go Go.RowKit

theorem Rel.drawn {w0 w : World} {ν : List Place} {σ : St} (h : Rel w0 ν σ w) (n : Nat) : Rel w0 ν σ { w with drawn := n } :=
  ⟨⟨h.below.1, h.below.2, h.below.3, h.below.4, h.below.5⟩, h.next, h.live, h.apart⟩

theorem setDst_get {a : AOper} {v : AVal} {env : Env} {p : List Bool} : (setDst a v env).get p = if a.dst = some p then some v else env.get p := by
  unfold setDst
  cases h : a.dst with
  | none => simp
  | some d =>
    simp only [Option.some.injEq]
    by_cases e : d = p
    · subst e; simp [Tr.get_set_same]
    · rw [if_neg e, Tr.get_set_other _ _ _ _ (Ne.symm e)]

theorem EnvR.congr {w0 : World} {ν : List Place} {T : Tab} {env env' : Env} {tmps : Array Value} (h : EnvR w0 ν T env tmps) (he : ∀ p, env'.get p = env.get p) : EnvR w0 ν T env' tmps := by
  intro t
  have := h t
  simp only [Opd.ev, he] at this ⊢
  exact this

theorem wanted_congr {a : AOper} {env env' : Env} (h : ∀ p ∈ a.looks, env.get p = env'.get p) : wantedA a env = wantedA a env' := by
  unfold wantedA
  unfold AOper.looks at h
  cases hg : a.guard with
  | none => rfl
  | some pw =>
    obtain ⟨p, want⟩ := pw
    rw [hg] at h
    simp only
    rw [h p (List.mem_cons_self ..)]

theorem op_looks {a : AOper} {p : List Bool} (h : p ∈ a.op.tmps) : p ∈ a.looks := by
  unfold AOper.looks
  split
  · exact h
  · exact List.mem_cons_of_mem _ h

/-- How many have not come. -/
def unl (m : Nat) (D : Nat → Bool) : Nat := (List.range m).countP fun i => !D i

theorem unl_put {m i : Nat} {D D' : Nat → Bool} (hD : ∀ j, D' j = (D j || j == i)) (hi : i < m) (h0 : D i = false) : unl m D' + 1 ≤ unl m D := by
  unfold unl
  induction m with
  | zero => omega
  | succ m ih =>
    rw [List.range_succ, List.countP_append, List.countP_append]
    by_cases e : i = m
    · subst e
      have h1 : List.countP (fun j => !D' j) [i] = 0 := by simp [hD]
      have h2 : List.countP (fun j => !D j) [i] = 1 := by simp [h0]
      have h3 : List.countP (fun j => !D' j) (List.range i) ≤ List.countP (fun j => !D j) (List.range i) := by
        refine List.countP_mono_left fun x _ hx => ?_
        rw [hD] at hx
        simp at hx ⊢
        exact hx.1
      omega
    · have := ih (by omega)
      have h2 : List.countP (fun j => !D' j) [m] = List.countP (fun j => !D j) [m] := by
        simp [hD, Ne.symm e]
      omega

theorem unl_zero {m : Nat} {D : Nat → Bool} (h : unl m D = 0) : ∀ i, i < m → D i = true := by
  intro i hi
  unfold unl at h
  rw [List.countP_eq_zero] at h
  have := h i (List.mem_range.2 hi)
  simpa using this

theorem okOpers_get {S : Stat} {n : Nat} {ops : List Oper} : ∀ {os : List Oper} {as : List AOper}, okOpers S n ops os as = true →
    os.length = as.length ∧ ∀ (i : Nat) (o : Oper) (a : AOper), os[i]? = some o → as[i]? = some a → okOper S n ops o a = true
  | [], [], _ => ⟨rfl, by simp⟩
  | [], _ :: _, h => by simp [okOpers] at h
  | _ :: _, [], h => by simp [okOpers] at h
  | o :: os, a :: as, h => by
    simp only [okOpers, Bool.and_eq_true] at h
    obtain ⟨h1, h2⟩ := okOpers_get h.2
    refine ⟨by simp [h1], ?_⟩
    intro i o' a' ho ha
    cases i with
    | zero => simp at ho ha; subst ho; subst ha; exact h.1
    | succ i => exact h2 i o' a' (by simpa using ho) (by simpa using ha)

section
variable {P : Program} {S : Stat} {w0 : World} {cf : CF} {q : Bool} {n : Nat} {ops : Array Oper} {as : List AOper} {V : Nat → AVal} {En : Nat → Env} {Sg : Nat → St} {env : Env} {Q : Exit → Act → World → Prop}

theorem en_cur (ht : Trace S.tab cf q as 0 env V En Sg) (p : List Bool) : ∀ i, i ≤ as.length → (En i).get p = curD as V env (fun _ => true) p i
  | 0, _ => by rw [ht.en0]; rfl
  | i + 1, h => by
    obtain ⟨a, ha⟩ : ∃ a, as[i]? = some a := ⟨as[i]'(by omega), by simp⟩
    rw [ht.en i a ha, setDst_get]
    have hd : dstAt as i = a.dst := by simp [dstAt, ha]
    simp only [curD, hd, true_and]
    rw [en_cur ht p i (by omega)]

/-- Where a run of the region in some order stands. -/
structure At (w0 : World) (S : Stat) (n : Nat) (ops : Array Oper) (as : List AOper) (V : Nat → AVal) (Sg : Nat → St) (env : Env) (ν0 : List Place) (defers : List Deferred) (listed : Array Bool) (a : Act) (w : World) : Prop where
  size : listed.size = ops.size
  dc : DC ops.toList (fun i => listed.getD i false)
  rel : ∃ ν env' k, ν0 <+: ν ∧ EnvR w0 ν S.tab env' a.tmps ∧ Rel w0 ν (Sg k) w ∧ k ≤ kAt as as.length ∧ (∀ p, env'.get p = curD as V env (fun i => listed.getD i false) p as.length) ∧
    (∀ (i : Nat) (x : AOper), as[i]? = some x → x.dk = .eff → (listed.getD i false = true ↔ kAt as i < k))
  tmps : a.tmps.size = n
  def_ : a.defers = defers

theorem At.put {ν0 : List Place} {listed : Array Bool} {a : Act} {w w' : World} {i : Nat} {ai : AOper} {oi : Oper} {x : Value} {ν ν' : List Place} {env' : Env} {k' : Nat} {defers : List Deferred}
    (hA : At w0 S n ops as V Sg env ν0 defers listed a w) (hdr : DrawOK ops.toList as) (hlen : ops.size = as.length)
    (hi : as[i]? = some ai) (hr : Rdy ops.toList (fun i => listed.getD i false) i) (h0 : listed.getD i true = false)
    (hn1 : ν0 <+: ν') (hn : ν <+: ν') (henv : EnvR w0 ν S.tab env' a.tmps) (hcur : ∀ p, env'.get p = curD as V env (fun i => listed.getD i false) p as.length)
    (hdst : DstOK n oi.dst ai.dst) (hx : VR w0 ν' (V i) x) (hrel : Rel w0 ν' (Sg k') w') (hk' : k' ≤ kAt as as.length)
    (hkk : ∀ (j : Nat) (y : AOper), as[j]? = some y → y.dk = .eff → ((listed.getD j false = true ∨ j = i) ↔ kAt as j < k')) :
    At w0 S n ops as V Sg env ν0 defers (listed.setIfInBounds i true) (a.put oi.dst x) w' := by
  have hil : i < listed.size := by
    rcases Nat.lt_or_ge i listed.size with h | h
    · exact h
    · simp [Array.getElem?_eq_none h] at h0
  have hget : ∀ j, (listed.setIfInBounds i true).getD j false = (listed.getD j false || j == i) := by
    intro j
    by_cases e : j = i
    · subst e; simp [hil]
    · rw [getD_set_ne false (Ne.symm e)]; simp [e]
  obtain ⟨he, hs⟩ := (henv.mono hn).put (v := V i) hA.tmps hdst hx
  have him : i < as.length := by have := List.getElem?_eq_some_iff.1 hi; exact this.1
  refine ⟨by simpa using hA.size, ?_, ⟨ν', setDst ai (V i) env', k', hn1, he, hrel, hk', ?_, ?_⟩, hs, ?_⟩
  · intro j o e hj ho hee hb
    simp only at hj ⊢
    rw [hget] at hj ⊢
    rw [Bool.or_eq_true]
    rcases Bool.or_eq_true .. ▸ hj with h | h
    · exact .inl (hA.dc j o e h ho hee hb)
    · simp at h; subst h
      obtain ⟨o', ho', hall⟩ := hr
      rw [ho] at ho'; cases ho'
      exact .inl (hall e hee hb)
  · intro p
    rw [setDst_get]
    by_cases hd : ai.dst = some p
    · rw [if_pos hd]
      have hdi : dstAt as i = some p := by simp [dstAt, hi, hd]
      refine (curD_put (D := fun j => listed.getD j false) hdi rfl (fun j => hget j) him ?_).symm
      intro j h1 h2 h3
      obtain ⟨y, hy⟩ : ∃ y, as[j]? = some y := ⟨as[j]'h2, by simp⟩
      have hyd : y.dst = some p := by simpa [dstAt, hy] using h3
      cases hj : listed.getD j false with
      | false => rfl
      | true =>
        obtain ⟨oj, hoj⟩ : ∃ o, ops.toList[j]? = some o := ⟨ops.toList[j]'(by simp; omega), by simp⟩
        have := hdr.tmp i j ai y p h1 hi hy (.inl ⟨hd, .inr hyd⟩) _ hA.dc ⟨oj, hoj, fun e he hb => hA.dc j oj e hj hoj he hb⟩
        rw [Array.getD_eq_getD_getElem?] at h0 this
        have hsome : listed[i]? = some listed[i] := by simp [hil]
        rw [hsome] at h0 this
        simp at h0 this
        rw [h0] at this; cases this
    · rw [if_neg hd, hcur p]
      refine curD_agree fun j _ hj => ?_
      rw [hget]
      by_cases e : j = i
      · subst e; exfalso; apply hd; simpa [dstAt, hi] using hj
      · simp [e]
  · intro j y hy hye
    rw [hget, ← hkk j y hy hye]
    simp
  · rw [← hA.def_]; unfold Act.put; cases oi.dst <;> rfl

theorem at_sound (hB : Base P S w0) (hcf : CFok P w0 cf) (hq : Quiet cf) (hok : okOpers S n ops.toList ops.toList as = true) (hdr : DrawOK ops.toList as) (ht : Trace S.tab cf q as 0 env V En Sg)
    {ν0 : List Place} {defers : List Deferred}
    (hk : ∀ ν' act' w', ν0 <+: ν' → EnvR w0 ν' S.tab (En as.length) act'.tmps → act'.tmps.size = n → act'.defers = defers → Rel w0 ν' (Sg (kAt as as.length)) w' → Q .normal act' w') :
    ∀ (fuel : Nat) (listed : Array Bool) (a : Act) (w : World), unl as.length (fun i => listed.getD i false) ≤ fuel → At w0 S n ops as V Sg env ν0 defers listed a w → wpAny P .any ops Q fuel listed a w := by
  obtain ⟨hlen, hall⟩ := okOpers_get hok
  have hlen' : ops.size = as.length := by simpa using hlen
  have done : ∀ (listed : Array Bool) (a : Act) (w : World), At w0 S n ops as V Sg env ν0 defers listed a w → (∀ i, i < as.length → listed.getD i false = true) → Q .normal a w := by
    intro listed a w hA hl
    obtain ⟨ν, env', k, h1, h2, h3, h4, h5, h6⟩ := hA.rel
    have hkE : k = kAt as as.length := by
      rcases Nat.lt_or_ge k (kAt as as.length) with h | h
      · obtain ⟨i, x, g1, g2, g3, g4⟩ := kAt_find as k as.length h
        have := (h6 i x g2 g3).1 (hl i g1)
        omega
      · omega
    refine hk ν a w h1 (h2.congr fun p => ?_) hA.tmps hA.def_ (hkE ▸ h3)
    rw [h5 p, en_cur ht p as.length (Nat.le_refl _)]
    exact curD_agree fun j hj _ => (hl j hj).symm
  have allReady : ∀ (listed : Array Bool) (a : Act) (w : World), At w0 S n ops as V Sg env ν0 defers listed a w → Region.ready .any ops listed = [] → ∀ i, i < as.length → listed.getD i false = true := by
    intro listed a w hA hr i
    induction i using Nat.strongRecOn with
    | ind i ih =>
      intro hi
      cases hli : listed.getD i false with
      | true => rfl
      | false =>
        exfalso
        obtain ⟨o, ho⟩ : ∃ o, ops[i]? = some o := ⟨ops[i]'(by omega), by simp⟩
        have hil : i < listed.size := by rw [hA.size]; omega
        have : i ∈ Region.ready .any ops listed := mem_ready.2 ⟨by
          rw [Array.getD_eq_getD_getElem?] at hli ⊢
          have hsome : listed[i]? = some listed[i] := by simp [hil]
          rw [hsome] at hli ⊢
          simpa using hli, o, ho, fun e he hb => by
            have hlt := hdr.back i o (by simpa using ho) e he hb
            exact ih e.on hlt (by omega)⟩
        rw [hr] at this; cases this
  intro fuel
  induction fuel with
  | zero =>
    intro listed a w hf hA
    have hl := unl_zero (Nat.le_zero.1 hf)
    refine ⟨?_, done listed a w hA hl⟩
    cases hr : Region.ready .any ops listed with
    | nil => rfl
    | cons i rs =>
      exfalso
      have hi : i ∈ Region.ready .any ops listed := by rw [hr]; exact List.mem_cons_self ..
      obtain ⟨h0, o, ho, _⟩ := mem_ready.1 hi
      have hlt : i < ops.size := (Array.getElem?_eq_some_iff.1 ho).1
      have := hl i (by omega)
      have hil : i < listed.size := by rw [hA.size]; exact hlt
      rw [Array.getD_eq_getD_getElem?] at h0 this
      have hsome : listed[i]? = some listed[i] := by simp [hil]
      rw [hsome] at h0 this
      simp at h0 this
      rw [h0] at this; cases this
  | succ fuel ih =>
    intro listed a w hf hA
    refine ⟨fun hr => done listed a w hA (allReady listed a w hA hr), fun i hi => ?_⟩
    obtain ⟨h0, o, ho, hedges⟩ := mem_ready.1 hi
    have hlt : i < ops.size := (Array.getElem?_eq_some_iff.1 ho).1
    have him : i < as.length := by omega
    have ho' : ops.toList[i]? = some o := by simpa using ho
    obtain ⟨x, hx⟩ : ∃ x, as[i]? = some x := ⟨as[i]'him, by simp⟩
    have hil : i < listed.size := by rw [hA.size]; exact hlt
    have hl0 : listed.getD i false = false := by
      rw [Array.getD_eq_getD_getElem?] at h0 ⊢
      have hsome : listed[i]? = some listed[i] := by simp [hil]
      rw [hsome] at h0 ⊢
      simpa using h0
    have hrdy : Rdy ops.toList (fun i => listed.getD i false) i := ⟨o, ho', hedges⟩
    obtain ⟨hop, hdst, hguard⟩ := okOper_parts (hall i o x ho' hx)
    obtain ⟨ν, env', k, h1, h2, h3, h4, h5, h6⟩ := hA.rel
    have dcr : ∀ j y oj, as[j]? = some y → ops.toList[j]? = some oj → listed.getD j false = true → Rdy ops.toList (fun i => listed.getD i false) j := fun j y oj _ hoj hj => ⟨oj, hoj, fun e he hb => hA.dc j oj e hj hoj he hb⟩
    have later : ∀ j y, i < j → as[j]? = some y → (∀ D, DC ops.toList D → Rdy ops.toList D j → D i = true) → listed.getD j false = false := by
      intro j y hij hy hm
      cases hj : listed.getD j false with
      | false => rfl
      | true =>
        have hjl : j < ops.size := by have := (List.getElem?_eq_some_iff.1 hy).1; omega
        have := hm _ hA.dc (dcr j y (ops.toList[j]'(by simpa using hjl)) hy (by simp) hj)
        rw [hl0] at this; cases this
    -- at what the operation looks
    have hlook : ∀ p ∈ x.looks, env'.get p = (En i).get p := by
      intro p hp
      have e1 : curD as V env (fun _ => true) p i = curD as V env (fun j => decide (j < i)) p i := curD_agree fun j hj _ => by simp [hj]
      have e2 : curD as V env (fun j => decide (j < i)) p as.length = curD as V env (fun j => decide (j < i)) p i := curD_below (fun j hj => by simpa using hj) (by omega)
      rw [h5 p, en_cur ht p i (by omega), e1, ← e2]
      refine curD_agree fun j hj hd => ?_
      obtain ⟨y, hy⟩ : ∃ y, as[j]? = some y := ⟨as[j]'hj, by simp⟩
      have hyd : y.dst = some p := by simpa [dstAt, hy] using hd
      rcases Nat.lt_trichotomy j i with h | h | h
      · have := hdr.tmp j i y x p h hy hx (.inl ⟨hyd, .inl hp⟩) _ hA.dc hrdy
        simp [h, this]
      · subst h; simp [hl0]
      · have := later j y h hy (fun D hD hr => hdr.tmp i j x y p h hx hy (.inr ⟨hp, hyd⟩) D hD hr)
        simp only [this]
        symm; simpa using Nat.le_of_lt h
    have hwant : wantedA x env' = wantedA x (En i) := wanted_congr hlook
    have hwc := wanted_eq (S := S) (ops := ops) h2 hA.tmps (o := o) hguard
    have hstepc : ∀ q σ, stepOp S.tab cf q x.op env' σ = stepOp S.tab cf q x.op (En i) σ := fun q σ => step_congr fun p hp => hlook p (op_looks hp)
    -- the effects
    have hkeff : x.dk = .eff → k = kAt as i := by
      intro he
      have hge : ¬ kAt as i < k := fun h => by have := (h6 i x hx he).2 h; rw [hl0] at this; cases this
      rcases Nat.lt_or_ge k (kAt as i) with h | h
      · obtain ⟨j, y, g1, g2, g3, g4⟩ := kAt_find as k i h
        have := hdr.ee j i y x g1 g2 hx g3 he _ hA.dc hrdy
        have := (h6 j y g2 g3).1 this
        omega
      · omega
    have hrest : ∀ (ν' : List Place) (v : Value) (w' : World) (k' : Nat), ν <+: ν' → VR w0 ν' (V i) v → Rel w0 ν' (Sg k') w' → (x.dk = .eff → k' = k + 1) → (x.dk ≠ .eff → k' = k) → wpAny P .any ops Q fuel (listed.setIfInBounds i true) (a.put o.dst v) w' := by
      intro ν' v w' k' g1 g2 g3 g4 g5
      refine ih _ _ _ ?_ (hA.put hdr hlen' hx hrdy h0 (h1.trans g1) g1 h2 h5 hdst g2 g3 ?_ ?_)
      · have := unl_put (m := as.length) (i := i) (D := fun j => listed.getD j false) (D' := fun j => (listed.setIfInBounds i true).getD j false) (fun j => by
          by_cases e : j = i
          · subst e; simp [hil]
          · show (listed.setIfInBounds i true).getD j false = _
            rw [getD_set_ne false (Ne.symm e)]; simp [e]) him hl0
        omega
      · by_cases he : x.dk = .eff
        · rw [g4 he, hkeff he]
          have := kAt_lt hx he him
          omega
        · rw [g5 he]; exact h4
      · intro j y hy hye
        by_cases he : x.dk = .eff
        · rw [g4 he]
          constructor
          · rintro (h | h)
            · have := (h6 j y hy hye).1 h; omega
            · subst h; rw [hkeff he]; omega
          · intro h
            by_cases hjk : kAt as j < k
            · exact .inl ((h6 j y hy hye).2 hjk)
            · right
              have e1 : kAt as j = kAt as i := by have := hkeff he; omega
              rcases Nat.lt_trichotomy j i with h' | h' | h'
              · have := kAt_lt hy hye h'; omega
              · exact h'
              · have := kAt_lt hx he h'; omega
        · rw [g5 he]
          constructor
          · rintro (h | h)
            · exact (h6 j y hy hye).1 h
            · subst h; rw [hx] at hy; cases hy; exact absurd hye he
          · intro h; exact .inl ((h6 j y hy hye).2 h)
    have hgetk : ∀ he : x.dk = .eff, Sg k = Sg (kAt as i) ∧ Sg (k + 1) = Sg (kAt as i + 1) := fun he => by rw [hkeff he]; exact ⟨rfl, rfl⟩
    unfold wpOp
    simp only [ho]
    rw [hwc, hwant]
    rcases ht.fact i x hx with ⟨f1, f2, f3⟩ | ⟨f1, f2⟩
    · rw [f1]
      simp only [Bool.false_eq_true, if_false]
      by_cases he : x.dk = .eff
      · refine hrest ν undef w (k + 1) (List.prefix_refl _) (by rw [f2]; exact VR_undef) ?_ (fun _ => rfl) (fun h => absurd he h)
        have hs := f3 he
        rw [Nat.zero_add] at hs
        rw [(hgetk he).2, hs, ← (hgetk he).1]; exact h3
      · exact hrest ν undef w k (List.prefix_refl _) (by rw [f2]; exact VR_undef) h3 (fun h => absurd h he) (fun _ => rfl)
    · rw [f1]
      simp only [if_true]
      left
      cases hdk : x.dk with
      | pure =>
        rw [hdk] at f2; simp only at f2
        obtain ⟨σ1, σ2, hst⟩ := f2
        have hpure : pureOp x.op = true := by have := hdr.kind i x hx; simpa [okKind, hdk] using this
        have hst' : stepOp S.tab cf true x.op env' (Sg k) = some (V i, Sg k) := by rw [hstepc]; exact pure_step hpure hst
        refine wp_opG (sim_op hB h2 h3 hcf hop hst') fun ν' v w' g1 g2 g3 => ?_
        exact hrest ν' v w' k g1 g2 g3 (fun h => by rw [hdk] at h; cases h) (fun _ => rfl)
      | read lo hi =>
        rw [hdk] at f2; simp only at f2
        have hkind := hdr.kind i x hx
        simp only [okKind, hdk, Bool.and_eq_true, decide_eq_true_eq] at hkind
        have hlo : lo ≤ k := by
          rcases Nat.lt_or_ge k lo with h | h
          · exfalso
            obtain ⟨j, y, g1, g2, g3, g4⟩ := kAt_find as k i (by omega)
            have := hdr.er j i y x lo hi g1 g2 hx g3 hdk (by omega) _ hA.dc hrdy
            have := (h6 j y g2 g3).1 this
            omega
          · exact h
        have hhi : k ≤ hi := by
          rcases Nat.lt_or_ge hi k with h | h
          · exfalso
            obtain ⟨j, y, g1, g2, g3, g4⟩ := kAt_find as hi as.length (by omega)
            have hj : listed.getD j false = true := (h6 j y g2 g3).2 (by omega)
            rcases Nat.lt_trichotomy j i with h' | h' | h'
            · have := kAt_lt g2 g3 h'; omega
            · subst h'; rw [hl0] at hj; cases hj
            · have := later j y h' g2 (fun D hD hr => hdr.re i j x y lo hi h' hx g2 hdk g3 (by omega) D hD hr)
              rw [this] at hj; cases hj
          · exact h
        obtain ⟨σ', hst⟩ := f2 k hlo hhi (by omega)
        have hst' : stepOp S.tab cf true x.op env' (Sg k) = some (V i, Sg k) := by
          rw [hstepc, hst, quiet_step hq hst]
        refine wp_opG (sim_op hB h2 h3 hcf hop hst') fun ν' v w' g1 g2 g3 => ?_
        exact hrest ν' v w' k g1 g2 g3 (fun h => by rw [hdk] at h; cases h) (fun _ => rfl)
      | eff =>
        rw [hdk] at f2; simp only at f2
        rw [Nat.zero_add] at f2
        have hst' : stepOp S.tab cf q x.op env' (Sg k) = some (V i, Sg (k + 1)) := by
          rw [hstepc, (hgetk hdk).1, (hgetk hdk).2]; exact f2
        refine wp_opG (sim_op hB h2 h3 hcf hop hst') fun ν' v w' g1 g2 g3 => ?_
        exact hrest ν' v w' (k + 1) g1 g2 g3 (fun _ => rfl) (fun h => absurd hdk h)

/-- A region that draws its order. -/
theorem wp_drawOps (hm : P.follows .mixedOrders = true) (hB : Base P S w0) (hcf : CFok P w0 cf) (hq : Quiet cf) {σ : St} {ν : List Place} {act : Act} {w : World} {r : Env × St} {id : Nat}
    (hok : okOpers S n ops.toList ops.toList as = true) (hd : okDraw ops.toList as = true) (h : drawOps S.tab cf q as 0 [] [] env σ = some r)
    (henv : EnvR w0 ν S.tab env act.tmps) (hn : act.tmps.size = n) (hrel : Rel w0 ν σ w)
    (hk : ∀ ν' act' w', ν <+: ν' → EnvR w0 ν' S.tab r.1 act'.tmps → act'.tmps.size = n → act'.defers = act.defers → Rel w0 ν' r.2 w' → Q .normal act' w') :
    (Code.region id ops true).wp P Q act w := by
  obtain ⟨hlen, -⟩ := okOpers_get hok
  have hlen' : ops.size = as.length := by simpa using hlen
  obtain ⟨V, En, Sg, h1, h2, -, h4⟩ := draw_trace as 0 [] [] env σ r (fun _ => σ) h rfl (fun j hj => by omega) (by simp)
  have hS0 : Sg 0 = σ := h1 0 (Nat.le_refl _)
  refine wp_region_any hm (at_sound hB hcf hq hok (okDraw_spec hlen hd) h4 (ν0 := ν) (defers := act.defers) ?_ _ _ _ _ ?_ ?_)
  · intro ν' act' w' g1 g2 g3 g4 g5
    refine hk ν' act' w' g1 ?_ g3 g4 ?_
    · rw [← h2]; exact g2
    · rw [← h2]; simpa using g5
  · rw [hlen']
    unfold unl
    exact Nat.le_trans List.countP_le_length (by simp)
  · have hall : ∀ i, (Array.replicate ops.size false).getD i false = false := by
      intro i; simp [Array.getElem?_replicate]; split <;> rfl
    refine ⟨by simp, ?_, ⟨ν, env, 0, List.prefix_refl _, henv, ?_, Nat.zero_le _, ?_, ?_⟩, hn, rfl⟩
    · intro i o e hi
      simp only at hi
      rw [hall] at hi; cases hi
    · rw [hS0]; exact hrel.drawn _
    · intro p
      have : ∀ m, curD as V env (fun i => (Array.replicate ops.size false).getD i false) p m = env.get p := by
        intro m
        induction m with
        | zero => rfl
        | succ m ih => rw [curD, if_neg (by rw [hall]; simp)]; exact ih
      rw [this]
    · intro i x _ _
      rw [hall]; simp
end
end Go.Ab

namespace Go.Ab
open Go Go.RowKit

/-- Does compiled code stand for the program's? n: how many temporaries. -/
noncomputable def okCode (S : Stat) (n : Nat) : ACode → Code → Bool
  | .skip, c => (match c with | .skip => true | .label _ => true | _ => false)
  | .region d as, c => (match c with | .region _ ops d' => d == d' && (okOpers S n ops.toList ops.toList as && (!d || okDraw ops.toList as)) | _ => false)
  | .seq a b, c => (match c with | .seq x y => okCode S n a x && okCode S n b y | _ => false)
  | .cond o a b, c => (match c with | .cond o' x y => okOpd S o' o && (okCode S n a x && okCode S n b y) | _ => false)
  | .block id a, c => (match c with | .block id' x => id == id' && okCode S n a x | _ => false)
  | .loop a, c => (match c with | .loop x => okCode S n a x | _ => false)
  | .scope a, c => (match c with | .scope x => okCode S n a x | _ => false)
  | .exit id, c => (match c with | .exit id' => id == id' | _ => false)
  | .ret, c => (match c with | .ret => true | _ => false)
  | .fail, _ => true

theorem okOper_le {S : Stat} {n m : Nat} (h : n ≤ m) {ops : List Oper} {o : Oper} {a : AOper} (ho : okOper S n ops o a = true) : okOper S m ops o a = true := by
  simp only [okOper, Bool.and_eq_true] at ho ⊢
  obtain ⟨⟨h1, h2⟩, h3⟩ := ho
  refine ⟨⟨h1, ?_⟩, ?_⟩
  · cases had : a.dst with
    | none => rw [had] at h2; exact h2
    | some p =>
      rw [had] at h2; simp only at h2 ⊢
      cases hod : o.dst with
      | none => rw [hod] at h2; exact h2
      | some d =>
        rw [hod] at h2; simp only [Bool.and_eq_true, decide_eq_true_eq] at h2 ⊢
        exact ⟨h2.1, Nat.lt_of_lt_of_le h2.2 h⟩
  · cases hag : a.guard with
    | none => rw [hag] at h3; exact h3
    | some g =>
      obtain ⟨p, want⟩ := g
      rw [hag] at h3; simp only at h3 ⊢
      cases hog : o.guard with
      | none => rw [hog] at h3; exact h3
      | some g =>
        obtain ⟨j, want'⟩ := g
        rw [hog] at h3; simp only [Bool.and_eq_true] at h3 ⊢
        refine ⟨h3.1, ?_⟩
        cases hj : ops[j]? with
        | none => rw [hj] at h3; exact h3.2
        | some g =>
          rw [hj] at h3; simp only at h3 ⊢
          cases hgd : g.dst with
          | none => rw [hgd] at h3; exact h3.2
          | some d =>
            rw [hgd] at h3; simp only [Bool.and_eq_true, decide_eq_true_eq] at h3 ⊢
            exact ⟨h3.2.1, Nat.lt_of_lt_of_le h3.2.2 h⟩

theorem okOpers_le {S : Stat} {n m : Nat} (h : n ≤ m) {ops : List Oper} : ∀ {os : List Oper} {as : List AOper}, okOpers S n ops os as = true → okOpers S m ops os as = true
  | [], [], _ => rfl
  | [], _ :: _, h => by simp [okOpers] at h
  | _ :: _, [], h => by simp [okOpers] at h
  | o :: os, a :: as, ho => by
    simp only [okOpers, Bool.and_eq_true] at ho ⊢
    exact ⟨okOper_le h ho.1, okOpers_le h ho.2⟩

theorem okCode_le {S : Stat} {n m : Nat} (h : n ≤ m) : ∀ {a : ACode} {c : Code}, okCode S n a c = true → okCode S m a c = true := by
  intro a
  induction a with
  | skip => intro c hc; exact hc
  | region d as =>
    intro c hc; unfold okCode at hc ⊢; cases c <;> simp only [Bool.and_eq_true] at hc ⊢ <;> first | exact hc | skip
    exact ⟨hc.1, okOpers_le h hc.2.1, hc.2.2⟩
  | seq a b iha ihb =>
    intro c hc; unfold okCode at hc ⊢; cases c <;> simp only [Bool.and_eq_true] at hc ⊢ <;> first | exact ⟨iha hc.1, ihb hc.2⟩ | exact hc
  | cond o a b iha ihb =>
    intro c hc; unfold okCode at hc ⊢; cases c <;> simp only [Bool.and_eq_true] at hc ⊢ <;> first | exact ⟨hc.1, iha hc.2.1, ihb hc.2.2⟩ | exact hc
  | block id a iha =>
    intro c hc; unfold okCode at hc ⊢; cases c <;> simp only [Bool.and_eq_true] at hc ⊢ <;> first | exact ⟨hc.1, iha hc.2⟩ | exact hc
  | loop a iha =>
    intro c hc; unfold okCode at hc ⊢; cases c <;> simp only at hc ⊢ <;> first | exact iha hc | exact hc
  | scope a iha =>
    intro c hc; unfold okCode at hc ⊢; cases c <;> simp only at hc ⊢ <;> first | exact iha hc | exact hc
  | exit id => intro c hc; exact hc
  | ret => intro c hc; exact hc
  | fail => intro c hc; rfl

/-! ## Results -/
noncomputable def okRes (S : Stat) (n : Nat) : List ResultVar → List Res → Bool
  | [], [] => true
  | r :: rs, a :: as => (match a with
    | .tmp p => (match r with | .tmp t => eqBools p (path t) && decide (t < n) | _ => false)
    | .cell p agg => (match r with | .cell t ty => eqBools p (path t) && decide (t < n) && withTI S ty fun ti => decide (ti.aggN = agg) | _ => false)) && okRes S n rs as
  | _, _ => false

/-- A function of the program and what stands for it. -/
structure FnOK (P : Program) (S : Stat) (f : Nat) (fn : AFunc) : Prop where
  ex : ∃ F c, P.funcs[f]? = some F ∧ (F.name == "runtime.NumGoroutine") = false ∧ F.body = some c ∧ okCode S F.ntmps fn.body c = true ∧ okRes S F.ntmps F.results.toList fn.results = true

noncomputable def okFunc (S : Stat) (F : Func) (fn : AFunc) : Bool :=
  !(F.name == "runtime.NumGoroutine") && (match F.body with | some c => okCode S F.ntmps fn.body c | none => false) && okRes S F.ntmps F.results.toList fn.results

theorem FnOK.of {P : Program} {S : Stat} {f : Nat} {F : Func} {fn : AFunc} (hf : P.funcs[f]? = some F) (h : okFunc S F fn = true) : FnOK P S f fn := by
  simp only [okFunc, Bool.and_eq_true, Bool.not_eq_true'] at h
  obtain ⟨⟨h1, h2⟩, h3⟩ := h
  cases hb : F.body with
  | none => rw [hb] at h2; simp at h2
  | some c => rw [hb] at h2; exact ⟨F, c, hf, h1, hb, h2, h3⟩

section
variable {P : Program} {S : Stat} {w0 : World}

def outExit : Out → Exit
  | .normal => .normal
  | .exit id => .exit id
  | .ret => .ret

/-- What a run of compiled code says of the program's. -/
def Good (P : Program) (S : Stat) (w0 : World) (r : Out × Env × St) (n : Nat) (wpx : (Exit → Act → World → Prop) → Act → World → Prop) (env : Env) (σ : St) : Prop :=
  ∀ (ν : List Place) (act : Act) (w : World) (Q : Exit → Act → World → Prop), EnvR w0 ν S.tab env act.tmps → act.tmps.size = n → Rel w0 ν σ w →
    (∀ ν' act' w', ν <+: ν' → EnvR w0 ν' S.tab r.2.1 act'.tmps → act'.tmps.size = n → act'.defers = act.defers → Rel w0 ν' r.2.2 w' → Q (outExit r.1) act' w') → wpx Q act w

def WpN (P : Program) (k : Nat) : Code → (Exit → Act → World → Prop) → Act → World → Prop
  | .loop y => fun Q act w => Code.rounds P y Q k act w
  | x => fun Q act w => x.wp P Q act w

theorem WpN.wp {k : Nat} {x : Code} {Q : Exit → Act → World → Prop} {act : Act} {w : World} (h : WpN P k x Q act w) : x.wp P Q act w := by
  cases x with
  | loop y => exact wp_loop_rounds k h
  | _ => exact h

def ExOK (P : Program) (S : Stat) (w0 : World) (k : Nat) (ih : EX) : Prop :=
  ∀ q c env σ r, ih q c env σ = some r → ∀ n x, okCode S n c x = true → Good P S w0 r n (WpN P k x) env σ

def ExQuiet (ih : EX) : Prop := ∀ c env σ o env' σ', ih true c env σ = some (o, env', σ') → σ' = σ

/-! ### Quiet -/
theorem quiet_runOps {T : Tab} {cf : CF} (hcf : Quiet cf) : ∀ (ops : List AOper) (env : Env) (σ : St) (r : Env × St), runOps T cf true ops env σ = some r → r.2 = σ
  | [], env, σ, r, h => by
    have h' : runOps T cf true [] env σ = some (env, σ) := rfl
    rw [h'] at h; rw [← Option.some.inj h]
  | a :: as, env, σ, r, h => by
    have hrun : runOps T cf true (a :: as) env σ = (match wantedA a env with
      | true => (match stepOp T cf true a.op env σ with | some r => setDstK a r.1 env fun env => runOps T cf true as env r.2 | none => none)
      | false => setDstK a undefA env fun env => runOps T cf true as env σ) := rfl
    rw [hrun] at h
    split at h
    · split at h
      · rename_i r1 hs
        rw [setDstK_eq] at h
        rw [quiet_runOps hcf as _ _ r h]
        exact quiet_step hcf (v := r1.1) (σ1 := r1.2) hs
      · simp at h
    · rw [setDstK_eq] at h
      exact quiet_runOps hcf as _ _ r h

theorem quiet_drawOps {T : Tab} {cf : CF} (hcf : Quiet cf) : ∀ (ops : List AOper) (k : Nat) (old : List St) (fl : List Flt) (env : Env) (σ : St) (r : Env × St), drawOps T cf true ops k old fl env σ = some r → r.2 = σ
  | [], _, _, _, env, σ, r, h => by simp only [drawOps, Option.some.injEq] at h; rw [← h]
  | a :: as, k, old, fl, env, σ, r, h => by
    simp only [drawOps] at h
    split at h
    · split at h
      · split at h
        · rename_i r1 hs
          rw [setDstK_eq] at h
          exact quiet_drawOps hcf as _ _ _ _ _ r h
        · simp at h
      · rw [setDstK_eq] at h
        exact quiet_drawOps hcf as _ _ _ _ _ r h
    · split at h
      · split at h
        · split at h
          · rw [setDstK_eq] at h
            exact quiet_drawOps hcf as _ _ _ _ _ r h
          · simp at h
        · simp at h
      · rw [setDstK_eq] at h
        exact quiet_drawOps hcf as _ _ _ _ _ r h
    · split at h
      · split at h
        · rename_i r1 hs
          split at h
          · rw [setDstK_eq] at h
            rw [quiet_drawOps hcf as _ _ _ _ _ r h]
            exact quiet_step hcf (v := r1.1) (σ1 := r1.2) hs
          · simp at h
        · simp at h
      · rw [setDstK_eq] at h
        exact quiet_drawOps hcf as _ _ _ _ _ r h

theorem quiet_callF {T : Tab} {ih : EX} (h : ExQuiet ih) : Quiet (callF T ih) := by
  intro f args σ v σ' hc
  simp only [callF] at hc
  split at hc
  · split at hc
    case isFalse => simp at hc
    split at hc
    · rename_i env1 σ1 hex
      split at hc
      · simp only [Option.some.injEq, Prod.mk.injEq] at hc
        rw [← hc.2]; exact h _ _ _ _ _ _ hex
      · simp at hc
    · rename_i env1 σ1 hex
      split at hc
      · simp only [Option.some.injEq, Prod.mk.injEq] at hc
        rw [← hc.2]; exact h _ _ _ _ _ _ hex
      · simp at hc
    · simp at hc
  · simp at hc

theorem quiet_stepC {T : Tab} {ih : EX} (h : ExQuiet ih) : ExQuiet (stepC T ih) := by
  intro c env σ o env' σ' hc
  cases c with
  | skip => simp [stepC] at hc; exact hc.2.2.symm
  | region d as =>
    cases d with
    | false =>
      simp only [stepC] at hc
      split at hc
      · rename_i r hr
        simp only [Option.some.injEq, Prod.mk.injEq] at hc
        rw [← hc.2.2]; exact quiet_runOps (quiet_callF h) _ _ _ r hr
      · simp at hc
    | true =>
      simp only [stepC] at hc
      split at hc
      · rename_i r hr
        simp only [Option.some.injEq, Prod.mk.injEq] at hc
        rw [← hc.2.2]; exact quiet_drawOps (quiet_callF h) _ _ _ _ _ _ r hr
      · simp at hc
  | seq a b =>
    simp only [stepC] at hc
    split at hc
    · rename_i env1 σ1 h1
      rw [h _ _ _ _ _ _ hc]; exact h _ _ _ _ _ _ h1
    · exact h _ _ _ _ _ _ hc
  | cond c a b =>
    simp only [stepC] at hc
    split at hc
    · exact h _ _ _ _ _ _ hc
    · exact h _ _ _ _ _ _ hc
    · simp at hc
  | block id a =>
    simp only [stepC] at hc
    split at hc
    · rename_i j env1 σ1 h1
      have := h _ _ _ _ _ _ h1
      split at hc <;> (simp only [Option.some.injEq, Prod.mk.injEq] at hc; rw [← hc.2.2]; exact this)
    · exact h _ _ _ _ _ _ hc
  | loop a =>
    simp only [stepC] at hc
    split at hc
    · rename_i env1 σ1 h1
      rw [h _ _ _ _ _ _ hc]; exact h _ _ _ _ _ _ h1
    · exact h _ _ _ _ _ _ hc
  | scope a => exact h _ _ _ _ _ _ hc
  | exit id => simp [stepC] at hc; exact hc.2.2.symm
  | ret => simp [stepC] at hc; exact hc.2.2.symm
  | fail => simp [stepC] at hc

theorem quiet_exec (T : Tab) : ∀ k, ExQuiet (exec T k)
  | 0 => fun _ _ _ _ _ _ h => by
    have : exec T 0 = fun _ _ _ _ => none := rfl
    rw [this] at h; simp at h
  | k + 1 => by
    have : exec T (k + 1) = stepC T (exec T k) := rfl
    rw [this]; exact quiet_stepC (quiet_exec T k)

/-! ### Calls -/
def resVar (tmps : Array Value) : ResultVar → Sem Value
  | .tmp t => pure (tmps.getD t undef)
  | .cell a t => do loadVar t (← asAddr (tmps.getD a undef))

theorem resOne_sim {w : World} {ν : List Place} {σ : St} {env : Env} {tmps : Array Value} (hB : Base P S w0) (henv : EnvR w0 ν S.tab env tmps) (hrel : Rel w0 ν σ w) {n : Nat} {r : ResultVar} {a : Res} {rs : List ResultVar} {as : List Res}
    (hok : okRes S n (r :: rs) (a :: as) = true) {v : AVal} (h : resOne S.tab env σ a = some v) :
    ∃ x, VR w0 ν v x ∧ (resVar tmps r).run P w = .ok x w := by
  simp only [okRes, Bool.and_eq_true] at hok
  obtain ⟨hok, -⟩ := hok
  cases a with
  | tmp p =>
    cases r with
    | cell t ty => simp at hok
    | tmp t =>
      simp only [Bool.and_eq_true] at hok
      have := eqBools_eq hok.1; subst this
      simp only [resOne, Option.some.injEq] at h
      subst h
      exact ⟨_, henv t, rfl⟩
  | cell p agg =>
    cases r with
    | tmp t => simp at hok
    | cell t ty =>
      simp only [Bool.and_eq_true] at hok
      obtain ⟨⟨h1, h2⟩, h3⟩ := hok
      have := eqBools_eq h1; subst this
      unfold withTI at h3
      split at h3
      · rename_i ti hti
        simp only [decide_eq_true_eq] at h3
        have ht := hB.tt ty ti hti
        have hv := henv t
        simp only [resOne] at h
        split at h
        · rename_i b i hp
          rw [hp] at hv
          split at h
          · rename_i f e cs hb
            split at h
            · rename_i l hd
              subst h3
              simp only [VR] at hv
              obtain ⟨p, hp', hv⟩ := hv
              obtain ⟨_, rfl⟩ := dropX_eq.1 hd
              obtain ⟨y, hy, hvy⟩ := load_sim (P := P) ht ((hrel.cellsAt hb hp').drop i) h
              refine ⟨y, hvy, ?_⟩
              show (do loadVar ty (← asAddr (tmps.getD t undef)) : Sem Value).run P w = _
              rw [hv]
              simp [asAddr, hy]
            · simp at h
          · simp at h
        · rename_i cs hp
          rw [hp] at hv
          subst h3
          simp only [VR] at hv
          obtain ⟨r, o, hv, hro⟩ := hv
          obtain ⟨y, hy, hvy⟩ := load_sim (P := P) ht (hro.at hrel.below) h
          refine ⟨y, hvy, ?_⟩
          show (do loadVar ty (← asAddr (tmps.getD t undef)) : Sem Value).run P w = _
          rw [hv]
          simp [asAddr, hy]
        · simp at h
      · simp at h3

theorem resAll_sim {w : World} {ν : List Place} {σ : St} {env : Env} {tmps : Array Value} (hB : Base P S w0) (henv : EnvR w0 ν S.tab env tmps) (hrel : Rel w0 ν σ w) {n : Nat} : ∀ {rs : List ResultVar} {as : List Res},
    okRes S n rs as = true → ∀ {vs : List AVal}, resAll S.tab env σ as = some vs →
    ∃ xs, VRs w0 ν vs xs ∧ (rs.mapM (resVar tmps)).run P w = .ok xs w
  | [], [], _, vs, h => by
    simp only [resAll, Option.some.injEq] at h
    subst h
    exact ⟨[], by simp [VRs], by simp⟩
  | [], _ :: _, h, _, _ => by simp [okRes] at h
  | _ :: _, [], h, _, _ => by simp [okRes] at h
  | r :: rs, a :: as, hok, vs, h => by
    have hok2 : okRes S n rs as = true := by simp only [okRes, Bool.and_eq_true] at hok; exact hok.2
    simp only [resAll] at h
    split at h
    · rename_i v vs' h1 h2
      simp only [Option.some.injEq] at h
      subst h
      obtain ⟨x, hx, hrun⟩ := resOne_sim hB henv hrel hok h1
      obtain ⟨xs, hxs, hruns⟩ := resAll_sim hB henv hrel hok2 h2
      refine ⟨x :: xs, ?_, ?_⟩
      · simp only [VRs]; exact ⟨x, xs, rfl, hx, hxs⟩
      · simp [List.mapM_cons, hrun, hruns]
    · simp at h

theorem results_eq (F : Func) (tmps : Array Value) : results F tmps = (do
    let vs ← F.results.mapM (resVar tmps)
    pure (if h : vs.size = 1 then vs[0] else .tuple vs)) := by
  unfold results
  congr 2

theorem results_sim {w : World} {ν : List Place} {σ : St} {env : Env} {tmps : Array Value} (hB : Base P S w0) (henv : EnvR w0 ν S.tab env tmps) (hrel : Rel w0 ν σ w) {n : Nat} {F : Func} {as : List Res}
    (hok : okRes S n F.results.toList as = true) {v : AVal} (h : resV S.tab env σ as = some v) : ∃ x, VR w0 ν v x ∧ (results F tmps).run P w = .ok x w := by
  unfold resV at h
  cases hr : resAll S.tab env σ as with
  | none => rw [hr] at h; simp at h
  | some vs =>
    rw [hr] at h
    obtain ⟨xs, hxs, hrun⟩ := resAll_sim hB henv hrel hok hr
    have hM : (F.results.mapM (resVar tmps)).run P w = .ok xs.toArray w := by
      have e : F.results = F.results.toList.toArray := by simp
      rw [e, List.mapM_toArray]
      simp [hrun]
    rw [results_eq]
    simp only [Sem.run_bind, hM, Result.andThen_ok, Sem.run_pure]
    cases vs with
    | nil =>
      simp only [VRs] at hxs
      subst hxs
      simp only [Option.some.injEq] at h
      subst h
      exact ⟨_, by simp only [VR]; exact ⟨[], rfl, by simp [VRs]⟩, by simp⟩
    | cons a vs =>
      simp only [VRs] at hxs
      obtain ⟨x, xs', rfl, hx, hxs'⟩ := hxs
      cases vs with
      | nil =>
        simp only [VRs] at hxs'
        subst hxs'
        simp only [Option.some.injEq] at h
        subst h
        exact ⟨x, hx, by simp⟩
      | cons b vs =>
        simp only [VRs] at hxs'
        obtain ⟨y, ys, rfl, hy, hys⟩ := hxs'
        simp only [Option.some.injEq] at h
        subst h
        refine ⟨.tuple (x :: y :: ys).toArray, ?_, by simp⟩
        simp only [VR]
        refine ⟨x :: y :: ys, rfl, ?_⟩
        simp only [VRs]
        exact ⟨x, y :: ys, rfl, hx, y, ys, rfl, hy, hys⟩

theorem envOf_get {w0 : World} {ν : List Place} : ∀ (vs : List AVal) (xs : List Value) (i : Nat) (env : Env) (t : Nat), VRs w0 ν vs xs →
    (t < i → (envOf vs i env).get (path t) = env.get (path t)) ∧
    (i ≤ t → (∃ v x, (envOf vs i env).get (path t) = some v ∧ xs[t - i]? = some x ∧ VR w0 ν v x) ∨ ((envOf vs i env).get (path t) = env.get (path t) ∧ xs[t - i]? = none))
  | [], xs, i, env, t, h => by
    simp only [VRs] at h
    subst h
    exact ⟨fun _ => rfl, fun _ => .inr ⟨rfl, rfl⟩⟩
  | v :: vs, xs, i, env, t, h => by
    simp only [VRs] at h
    obtain ⟨x, xs', rfl, hx, hxs⟩ := h
    obtain ⟨h1, h2⟩ := envOf_get vs xs' (i + 1) (env.set (path i) (some v)) t hxs
    simp only [envOf]
    refine ⟨fun hlt => ?_, fun hle => ?_⟩
    · rw [h1 (by omega), Tr.get_set_other _ _ _ _ (fun e => by have := path_inj e; omega)]
    · by_cases e : t = i
      · subst e
        left
        refine ⟨v, x, ?_, by simp, hx⟩
        rw [h1 (by omega), Tr.get_set_same]
      · have : t - i = (t - (i + 1)) + 1 := by omega
        rw [this, List.getElem?_cons_succ]
        rcases h2 (by omega) with ⟨v', x', g1, g2, g3⟩ | ⟨g1, g2⟩
        · exact .inl ⟨v', x', g1, g2, g3⟩
        · refine .inr ⟨?_, g2⟩
          rw [g1, Tr.get_set_other _ _ _ _ (fun e' => e (path_inj e'))]

theorem envOf_R {ν : List Place} {vs : List AVal} {xs : List Value} (k : Nat) (h : VRs w0 ν vs xs) : EnvR w0 ν S.tab (envOf vs 0 .emp) (xs.toArray ++ Array.replicate k undef) := by
  intro t
  obtain ⟨-, h2⟩ := envOf_get vs xs 0 .emp t h
  have hget : (xs.toArray ++ Array.replicate k undef).getD t undef = (xs[t]?).getD undef := by
    rw [Array.getD_eq_getD_getElem?]
    by_cases hl : t < xs.length
    · rw [Array.getElem?_append_left (by simpa using hl)]; simp
    · rw [Array.getElem?_append_right (by simpa using hl), Array.getElem?_replicate]
      have : xs[t]? = none := by simp; omega
      rw [this]
      split <;> rfl
  rw [hget]
  rcases h2 (Nat.zero_le _) with ⟨v, x, g1, g2, g3⟩ | ⟨g1, g2⟩
  · simp only [Nat.sub_zero] at g2
    simp only [Opd.ev, g1, g2, Option.getD_some]
    exact g3
  · simp only [Nat.sub_zero] at g2
    have : Tr.get (path t) (.emp : Env) = none := Tr.get_e _
    rw [this] at g1
    simp only [Opd.ev, g1, g2, Option.getD_none]
    exact VR_undef

/-- What is said of one function. -/
def CFokF (P : Program) (w0 : World) (cf : CF) (f : Nat) : Prop := ∀ q args σ v σ', cf q f args σ = some (v, σ') → Enters P f ∧ ∀ ν w xs, VRs w0 ν args xs → Rel w0 ν σ w → Calls P f xs.toArray w (Back w0 ν σ' v)

theorem callF_ok (hB : Base P S w0) {k : Nat} {ih : EX} (hT : ∀ f fn, S.tab.fn.get (path f) = some fn → FnOK P S f fn ∨ CFokF P w0 (callF S.tab ih) f) (h : ExOK P S w0 k ih) : CFok P w0 (callF S.tab ih) := by
  intro q f args σ v σ' hc
  have hc0 := hc
  simp only [callF] at hc
  split at hc
  · rename_i fn hfn
    rcases hT f fn hfn with hT | hT
    case inr => exact hT q args σ v σ' hc0
    split at hc
    case isFalse => simp at hc
    obtain ⟨F, c, hF, hname, hbody, hcode, hres⟩ := hT.ex
    refine ⟨⟨F, hF, hname, by simp [hbody]⟩, fun ν w xs hxs hrel => ?_⟩
    refine calls_of_wp hF hbody ?_
    have hR := envOf_R (S := S) (F.ntmps - xs.toArray.size) hxs
    have hsize : F.ntmps ≤ (xs.toArray ++ Array.replicate (F.ntmps - xs.toArray.size) undef).size := by simp; omega
    have main : ∀ out env1 σ1, ih q fn.body (envOf args 0 .emp) σ = some (out, env1, σ1) → (out = .normal ∨ out = .ret) → resV S.tab env1 σ1 fn.results = some v → σ1 = σ' →
        c.wp P (bodyPost P F (Back w0 ν σ' v)) { tmps := xs.toArray ++ Array.replicate (F.ntmps - xs.toArray.size) undef, defers := [] } w := by
      intro out env1 σ1 hex hout hrv hσ
      subst hσ
      refine (h q fn.body _ σ _ hex _ c (okCode_le hsize hcode) ν { tmps := _, defers := [] } w _ hR rfl hrel ?_).wp
      intro ν' act' w' g1 g2 g3 g4 g5
      obtain ⟨x, hx, hrun⟩ := results_sim hB g2 g5 hres hrv
      rcases hout with rfl | rfl
      · exact ⟨g4, x, hrun, ν', x, g1, rfl, hx, g5⟩
      · exact ⟨g4, x, hrun, ν', x, g1, rfl, hx, g5⟩
    split at hc
    · rename_i env1 σ1 hex
      split at hc
      · rename_i v' hrv
        simp only [Option.some.injEq, Prod.mk.injEq] at hc
        obtain ⟨rfl, e⟩ := hc
        exact main _ _ _ hex (.inl rfl) hrv e
      · simp at hc
    · rename_i env1 σ1 hex
      split at hc
      · rename_i v' hrv
        simp only [Option.some.injEq, Prod.mk.injEq] at hc
        obtain ⟨rfl, e⟩ := hc
        exact main _ _ _ hex (.inr rfl) hrv e
      · simp at hc
    · simp at hc
  · simp at hc

theorem Good.up {r : Out × Env × St} {n k : Nat} {x : Code} {env : Env} {σ : St} (hx : ∀ y, x ≠ .loop y)
    (h : Good P S w0 r n (fun Q act w => x.wp P Q act w) env σ) : Good P S w0 r n (WpN P k x) env σ := by
  intro ν act w Q h1 h2 h3 h4
  have := h ν act w Q h1 h2 h3 h4
  cases x with
  | loop y => exact absurd rfl (hx y)
  | _ => exact this

theorem stepC_ok (hm : P.follows .mixedOrders = true) (hB : Base P S w0) {k : Nat} {ih : EX} (hT : ∀ f fn, S.tab.fn.get (path f) = some fn → FnOK P S f fn ∨ CFokF P w0 (callF S.tab ih) f) (hq : ExQuiet ih) (h : ExOK P S w0 k ih) : ExOK P S w0 (k + 1) (stepC S.tab ih) := by
  intro q c env σ r hc n x hok
  cases c with
  | skip =>
    simp only [stepC, Option.some.injEq] at hc
    subst hc
    unfold okCode at hok
    cases x <;> simp only [Bool.false_eq_true] at hok
    · exact Good.up (by simp) fun ν act w Q h1 h2 h3 h4 => wp_skip (h4 ν act w (List.prefix_refl _) h1 h2 rfl h3)
    · exact Good.up (by simp) fun ν act w Q h1 h2 h3 h4 => wp_label (h4 ν act w (List.prefix_refl _) h1 h2 rfl h3)
  | region d as =>
    unfold okCode at hok
    cases x <;> simp only [Bool.false_eq_true] at hok
    rename_i id ops d'
    simp only [Bool.and_eq_true, beq_iff_eq] at hok
    obtain ⟨rfl, hops, hdraw⟩ := hok
    cases d with
    | false =>
      simp only [stepC] at hc
      split at hc
      · rename_i r1 hr
        simp only [Option.some.injEq] at hc
        subst hc
        refine Good.up (by simp) fun ν act w Q h1 h2 h3 h4 => wp_region ?_
        refine wp_runOps hB (callF_ok hB hT h) (List.range ops.size) ops.toList as env σ ν act w r1 ?_ (by simp) hops hr h1 h2 h3 h4
        intro j o hj
        have hlt : j < ops.size := by have := (List.getElem?_eq_some_iff.1 hj).1; simpa using this
        exact ⟨j, by simp [hlt], by simpa using hj⟩
      · simp at hc
    | true =>
      simp only [stepC] at hc
      split at hc
      · rename_i r1 hr
        simp only [Option.some.injEq] at hc
        subst hc
        refine Good.up (by simp) fun ν act w Q h1 h2 h3 h4 => ?_
        exact wp_drawOps hm hB (callF_ok hB hT h) (quiet_callF hq) hops (by simpa using hdraw) hr h1 h2 h3 h4
      · simp at hc
  | seq a b =>
    unfold okCode at hok
    cases x <;> simp only [Bool.false_eq_true] at hok
    rename_i x y
    simp only [Bool.and_eq_true] at hok
    refine Good.up (by simp) fun ν act w Q h1 h2 h3 h4 => wp_seq ?_
    simp only [stepC] at hc
    split at hc
    · rename_i env1 σ1 ha
      refine (h q a env σ _ ha n x hok.1 ν act w _ h1 h2 h3 ?_).wp
      intro ν' act' w' g1 g2 g3 g4 g5
      refine (h q b env1 σ1 _ hc n y hok.2 ν' act' w' _ g2 g3 g5 ?_).wp
      intro ν2 act2 w2 k1 k2 k3 k4 k5
      exact h4 ν2 act2 w2 (g1.trans k1) k2 k3 (k4.trans g4) k5
    · rename_i hne
      refine (h q a env σ _ hc n x hok.1 ν act w _ h1 h2 h3 ?_).wp
      intro ν' act' w' g1 g2 g3 g4 g5
      have := h4 ν' act' w' g1 g2 g3 g4 g5
      obtain ⟨out, env1, σ1⟩ := r
      cases out with
      | normal => exact absurd hc (hne env1 σ1)
      | exit id => exact this
      | ret => exact this
  | cond c a b =>
    unfold okCode at hok
    cases x <;> simp only [Bool.false_eq_true] at hok
    rename_i o x y
    simp only [Bool.and_eq_true] at hok
    obtain ⟨ho, ha, hb⟩ := hok
    refine Good.up (by simp) fun ν act w Q h1 h2 h3 h4 => ?_
    have hv := opd_sim hB h1 ho
    simp only [stepC] at hc
    split at hc
    · rename_i he
      rw [he] at hv
      simp only [VR] at hv
      exact wp_cond_true hv (h q a env σ _ hc n x ha ν act w _ h1 h2 h3 h4).wp
    · rename_i he
      rw [he] at hv
      simp only [VR] at hv
      exact wp_cond_false hv (h q b env σ _ hc n y hb ν act w _ h1 h2 h3 h4).wp
    · simp at hc
  | block id a =>
    unfold okCode at hok
    cases x <;> simp only [Bool.false_eq_true] at hok
    rename_i id' x
    simp only [Bool.and_eq_true, beq_iff_eq] at hok
    obtain ⟨rfl, hx⟩ := hok
    refine Good.up (by simp) fun ν act w Q h1 h2 h3 h4 => wp_block ?_
    simp only [stepC] at hc
    split at hc
    · rename_i j env1 σ1 ha
      refine (h q a env σ _ ha n x hx ν act w _ h1 h2 h3 ?_).wp
      intro ν' act' w' g1 g2 g3 g4 g5
      show (if j = id then Q .normal act' w' else Q (.exit j) act' w')
      split at hc
      · rename_i e
        simp only [Option.some.injEq] at hc
        subst hc
        rw [if_pos e]; exact h4 ν' act' w' g1 g2 g3 g4 g5
      · rename_i e
        simp only [Option.some.injEq] at hc
        subst hc
        rw [if_neg e]; exact h4 ν' act' w' g1 g2 g3 g4 g5
    · rename_i hne
      refine (h q a env σ _ hc n x hx ν act w _ h1 h2 h3 ?_).wp
      intro ν' act' w' g1 g2 g3 g4 g5
      have := h4 ν' act' w' g1 g2 g3 g4 g5
      obtain ⟨out, env1, σ1⟩ := r
      cases out with
      | exit id => exact absurd hc (hne id env1 σ1)
      | normal => exact this
      | ret => exact this
  | loop a =>
    unfold okCode at hok
    cases x <;> simp only [Bool.false_eq_true] at hok
    rename_i x
    intro ν act w Q h1 h2 h3 h4
    show Code.rounds P x Q (k + 1) act w
    rw [rounds_succ]
    simp only [stepC] at hc
    split at hc
    · rename_i env1 σ1 ha
      refine (h q a env σ _ ha n x hok ν act w _ h1 h2 h3 ?_).wp
      intro ν' act' w' g1 g2 g3 g4 g5
      refine h q (.loop a) env1 σ1 _ hc n (.loop x) hok ν' act' w' _ g2 g3 g5 ?_
      intro ν2 act2 w2 k1 k2 k3 k4 k5
      exact h4 ν2 act2 w2 (g1.trans k1) k2 k3 (k4.trans g4) k5
    · rename_i hne
      refine (h q a env σ _ hc n x hok ν act w _ h1 h2 h3 ?_).wp
      intro ν' act' w' g1 g2 g3 g4 g5
      have := h4 ν' act' w' g1 g2 g3 g4 g5
      obtain ⟨out, env1, σ1⟩ := r
      cases out with
      | normal => exact absurd hc (hne env1 σ1)
      | exit id => exact this
      | ret => exact this
  | scope a =>
    unfold okCode at hok
    cases x <;> simp only [Bool.false_eq_true] at hok
    rename_i x
    refine Good.up (by simp) fun ν act w Q h1 h2 h3 h4 => wp_scope_straight ?_
    refine (h q a env σ _ hc n x hok ν act w _ h1 h2 h3 ?_).wp
    intro ν' act' w' g1 g2 g3 g4 g5
    have := h4 ν' act' w' g1 g2 g3 g4 g5
    obtain ⟨out, env1, σ1⟩ := r
    cases out <;> exact this
  | exit id =>
    simp only [stepC, Option.some.injEq] at hc
    subst hc
    unfold okCode at hok
    cases x <;> simp only [Bool.false_eq_true] at hok
    rename_i id'
    simp only [beq_iff_eq] at hok
    subst hok
    exact Good.up (by simp) fun ν act w Q h1 h2 h3 h4 => wp_exit (h4 ν act w (List.prefix_refl _) h1 h2 rfl h3)
  | ret =>
    simp only [stepC, Option.some.injEq] at hc
    subst hc
    unfold okCode at hok
    cases x <;> simp only [Bool.false_eq_true] at hok
    exact Good.up (by simp) fun ν act w Q h1 h2 h3 h4 => wp_ret (h4 ν act w (List.prefix_refl _) h1 h2 rfl h3)
  | fail => simp [stepC] at hc

/-- What is said of the table's functions: each stands for the program's, or is known otherwise. -/
def TabOK (P : Program) (S : Stat) (w0 : World) : Prop := ∀ f fn, S.tab.fn.get (path f) = some fn → FnOK P S f fn ∨ ∀ k, CFokF P w0 (call S.tab k) f

theorem exec_ok (hm : P.follows .mixedOrders = true) (hB : Base P S w0) (hT : TabOK P S w0) : ∀ k, ExOK P S w0 k (exec S.tab k)
  | 0 => fun q c env σ r h => by
    have : exec S.tab 0 = fun _ _ _ _ => none := rfl
    rw [this] at h; simp at h
  | k + 1 => by
    have : exec S.tab (k + 1) = stepC S.tab (exec S.tab k) := rfl
    rw [this]; exact stepC_ok hm hB (fun f fn h => (hT f fn h).imp id fun h => h k) (quiet_exec S.tab k) (exec_ok hm hB hT k)

/-- A whole run of the abstract machine is a run of the program. -/
theorem call_ok (hm : P.follows .mixedOrders = true) (hB : Base P S w0) (hT : TabOK P S w0) (k : Nat) : CFok P w0 (call S.tab k) :=
  callF_ok hB (fun f fn h => (hT f fn h).imp id fun h => h k) (exec_ok hm hB hT k)
end
end Go.Ab
