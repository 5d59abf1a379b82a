/- The abstract machine, part 4: the relation between an abstract state and a world. -/
import Derived.Test.YthbanbnmomcohaaGreatDoorM1
import Derived.ChangeKeysEq
import Derived.Laws.Entries
import Derived.Laws.Cells
import GoSem.Dispatch
set_option linter.all false
set_option linter.unusedSimpArgs false
namespace Go.Ab
open Go Go.RowKit

theorem pre_get {ν ν' : List Place} (h : ν <+: ν') {b : Nat} {p : Place} (hb : ν[b]? = some p) : ν'[b]? = some p := by
  obtain ⟨t, rfl⟩ := h
  rw [List.getElem?_append_left]
  · exact hb
  · exact (List.getElem?_eq_some_iff.1 hb).1

section
variable {w0 : World} {ν ν' : List Place}
mutual
theorem VR_mono (h : ν <+: ν') : ∀ (a : AVal) (v : Value), VR w0 ν a v → VR w0 ν' a v
  | .bool _, _, hv => by simpa only [VR] using hv
  | .int _ _, _, hv => by simpa only [VR] using hv
  | .str _, _, hv => by simpa only [VR] using hv
  | .nilp, _, hv => by simpa only [VR] using hv
  | .ptr _ _, _, hv => by
    simp only [VR] at hv ⊢
    obtain ⟨p, hp, e⟩ := hv
    exact ⟨p, pre_get h hp, e⟩
  | .rptr cs, _, hv => by
    simp only [VR] at hv ⊢
    obtain ⟨r, o, e, hr⟩ := hv
    exact ⟨r, o, e, ROs_mono h r o cs hr⟩
  | .nils, _, hv => by simpa only [VR] using hv
  | .slice _ _ _ _, _, hv => by
    simp only [VR] at hv ⊢
    obtain ⟨p, a, cap, hp, hr⟩ := hv
    exact ⟨p, a, cap, pre_get h hp, hr⟩
  | .rslice _ cs, _, hv => by
    simp only [VR] at hv ⊢
    obtain ⟨a, cap, e, hn, hr⟩ := hv
    exact ⟨a, cap, e, hn, hr.imp id fun ⟨r, o, e, hr⟩ => ⟨r, o, e, ROs_mono h r o cs hr⟩⟩
  | .func _ first cap, _, hv => by
    simp only [VR] at hv ⊢
    obtain ⟨fs, cs, e, h1, h2⟩ := hv
    exact ⟨fs, cs, e, VRs_mono h first fs h1, VRs_mono h cap cs h2⟩
  | .nilf, _, hv => by simpa only [VR] using hv
  | .iface _ a, _, hv => by
    simp only [VR] at hv ⊢
    obtain ⟨x, e, hx⟩ := hv
    exact ⟨x, e, VR_mono h a x hx⟩
  | .nili, _, hv => by simpa only [VR] using hv
  | .agg cs, _, hv => by
    simp only [VR] at hv ⊢
    obtain ⟨xs, e, hx⟩ := hv
    exact ⟨xs, e, VRs_mono h cs xs hx⟩
  | .tuple cs, _, hv => by
    simp only [VR] at hv ⊢
    obtain ⟨xs, e, hx⟩ := hv
    exact ⟨xs, e, VRs_mono h cs xs hx⟩
theorem VRs_mono (h : ν <+: ν') : ∀ (as : List AVal) (vs : List Value), VRs w0 ν as vs → VRs w0 ν' as vs
  | [], _, hv => by simpa only [VRs] using hv
  | a :: as, _, hv => by
    simp only [VRs] at hv ⊢
    obtain ⟨x, xs, e, hx, hxs⟩ := hv
    exact ⟨x, xs, e, VR_mono h a x hx, VRs_mono h as xs hxs⟩
theorem ROs_mono (h : ν <+: ν') (r o : Nat) : ∀ (as : List AVal), ROs w0 ν r o as → ROs w0 ν' r o as
  | [], _ => by simp only [ROs]
  | a :: as, hv => by
    simp only [ROs] at hv ⊢
    obtain ⟨⟨x, hx, hax⟩, hs⟩ := hv
    exact ⟨⟨x, hx, VR_mono h a x hax⟩, ROs_mono h r (o + 1) as hs⟩
end
end

section
variable {w0 : World} {ν : List Place}
theorem VRs_length : ∀ {as : List AVal} {vs : List Value}, VRs w0 ν as vs → vs.length = as.length
  | [], _, h => by simp only [VRs] at h; subst h; rfl
  | _ :: _, _, h => by
    simp only [VRs] at h
    obtain ⟨x, xs, rfl, _, h⟩ := h
    simp [VRs_length h]

theorem VRs_iff : ∀ {as : List AVal} {vs : List Value}, VRs w0 ν as vs ↔ vs.length = as.length ∧ ∀ (j : Nat) (a : AVal) (v : Value), as[j]? = some a → vs[j]? = some v → VR w0 ν a v
  | [], vs => by simp only [VRs]; constructor
                 · rintro rfl; simp
                 · rintro ⟨h, _⟩; simpa using h
  | a :: as, vs => by
    simp only [VRs]
    constructor
    · rintro ⟨x, xs, rfl, hx, hxs⟩
      obtain ⟨hl, hg⟩ := VRs_iff.1 hxs
      refine ⟨by simp [hl], ?_⟩
      intro j b v hb hv
      cases j with
      | zero => simp at hb hv; subst hb; subst hv; exact hx
      | succ j => simp at hb hv; exact hg j b v hb hv
    · rintro ⟨hl, hg⟩
      cases vs with
      | nil => simp at hl
      | cons x xs =>
        refine ⟨x, xs, rfl, hg 0 a x rfl rfl, VRs_iff.2 ⟨by simpa using hl, fun j b v hb hv => hg (j + 1) b v (by simpa using hb) (by simpa using hv)⟩⟩

theorem VRs_get {as : List AVal} {vs : List Value} (h : VRs w0 ν as vs) {j : Nat} {a : AVal} (ha : as[j]? = some a) : ∃ v, vs[j]? = some v ∧ VR w0 ν a v := by
  obtain ⟨hl, hg⟩ := VRs_iff.1 h
  have hj : j < vs.length := by rw [hl]; exact (List.getElem?_eq_some_iff.1 ha).1
  exact ⟨vs[j], by simp [hj], hg j a _ ha (by simp [hj])⟩

theorem VRs_append {as bs : List AVal} {vs us : List Value} (h : VRs w0 ν as vs) (h' : VRs w0 ν bs us) : VRs w0 ν (as ++ bs) (vs ++ us) := by
  induction as generalizing vs with
  | nil => simp only [VRs] at h; subst h; simpa using h'
  | cons a as ih =>
    simp only [VRs] at h
    obtain ⟨x, xs, rfl, hx, hxs⟩ := h
    simp only [List.cons_append, VRs]
    exact ⟨x, xs ++ us, rfl, hx, ih hxs⟩

theorem VRs_drop {as : List AVal} {vs : List Value} (h : VRs w0 ν as vs) (n : Nat) : VRs w0 ν (as.drop n) (vs.drop n) := by
  rw [VRs_iff] at h ⊢
  obtain ⟨hl, hg⟩ := h
  refine ⟨by simp [hl], fun j a v ha hv => hg (n + j) a v (by simpa using ha) (by simpa using hv)⟩

theorem VRs_take {as : List AVal} {vs : List Value} (h : VRs w0 ν as vs) (n : Nat) : VRs w0 ν (as.take n) (vs.take n) := by
  rw [VRs_iff] at h ⊢
  obtain ⟨hl, hg⟩ := h
  refine ⟨by simp [hl], fun j a v ha hv => ?_⟩
  rw [List.getElem?_take] at ha hv
  by_cases hj : j < n
  · rw [if_pos hj] at ha hv; exact hg j a v ha hv
  · rw [if_neg hj] at ha; simp at ha

theorem ROs_iff {r : Nat} : ∀ {as : List AVal} {o : Nat}, ROs w0 ν r o as ↔ ∀ j a, as[j]? = some a → ∃ x, w0.cell? ⟨r, o + j, none⟩ = some x ∧ VR w0 ν a x
  | [], o => by simp [ROs]
  | a :: as, o => by
    simp only [ROs]
    rw [ROs_iff (as := as)]
    constructor
    · rintro ⟨⟨x, hx, hax⟩, h⟩ j b hb
      cases j with
      | zero => simp at hb; subst hb; exact ⟨x, by simpa using hx, hax⟩
      | succ j =>
        obtain ⟨y, hy, hby⟩ := h j b (by simpa using hb)
        exact ⟨y, by rw [show o + (j + 1) = o + 1 + j by omega]; exact hy, hby⟩
    · intro h
      refine ⟨?_, fun j b hb => ?_⟩
      · obtain ⟨x, hx, hax⟩ := h 0 a rfl; exact ⟨x, by simpa using hx, hax⟩
      · obtain ⟨y, hy, hby⟩ := h (j + 1) b (by simpa using hb)
        exact ⟨y, by rw [show o + 1 + j = o + (j + 1) by omega]; exact hy, hby⟩

theorem ROs_drop {r o : Nat} {as : List AVal} (h : ROs w0 ν r o as) (n : Nat) : ROs w0 ν r (o + n) (as.drop n) := by
  rw [ROs_iff] at h ⊢
  intro j a ha
  obtain ⟨x, hx, hax⟩ := h (n + j) a (by simpa using ha)
  exact ⟨x, by rw [show o + n + j = o + (n + j) by omega]; exact hx, hax⟩

theorem ROs_take {r o : Nat} {as : List AVal} (h : ROs w0 ν r o as) (n : Nat) : ROs w0 ν r o (as.take n) := by
  rw [ROs_iff] at h ⊢
  intro j a ha
  rw [List.getElem?_take] at ha
  by_cases hj : j < n
  · rw [if_pos hj] at ha; exact h j a ha
  · rw [if_neg hj] at ha; simp at ha
end

/-! ## States -/
def CellsR (w0 : World) (ν : List Place) (p : Place) (fix : Bool) (e : TypeId) (cs : List AVal) (w : World) : Prop :=
  cs.length ≤ p.ext ∧ ∃ c fr, w.heap[p.block]? = some (.cells c e fr) ∧ p.off + p.ext ≤ c.size ∧ (∀ j, j < p.ext → ¬ (fr.1 ≤ p.off + j ∧ p.off + j < fr.2)) ∧
    (∀ j a, cs[j]? = some a → ∃ x, c[p.off + j]? = some x ∧ VR w0 ν a x) ∧ (fix = true → p.off = 0 ∧ c.size = cs.length ∧ p.ext = cs.length ∧ (fr.1 = fr.2 ∨ c.size ≤ fr.1))

def ObjR (w0 : World) (ν : List Place) (p : Place) (o : AObj) (w : World) : Prop :=
  match o with
  | .cells fix e cs => CellsR w0 ν p fix e cs w
  | .iter pos rest => p.off = 0 ∧ ∃ s, w.heap[p.block]? = some (.stringIter s pos) ∧ pos ≤ s.size ∧ (bytesOf s).drop pos = rest

theorem ObjR.some {w0 : World} {ν : List Place} {p : Place} {o : AObj} {w : World} (h : ObjR w0 ν p o w) : p.block < w.heap.size := by
  cases o with
  | cells f e cs =>
    obtain ⟨_, c, fr, hc, _⟩ := h
    exact (Array.getElem?_eq_some_iff.1 hc).1
  | iter pos rest =>
    obtain ⟨_, s, hs, _⟩ := h
    exact (Array.getElem?_eq_some_iff.1 hs).1

theorem ObjR.mono {w0 : World} {ν ν' : List Place} {p : Place} {o : AObj} {w w' : World} (h : ObjR w0 ν p o w) (hν : ν <+: ν') (hw : w'.heap[p.block]? = w.heap[p.block]?) : ObjR w0 ν' p o w' := by
  cases o with
  | cells f e cs =>
    obtain ⟨hl, c, fr, hc, h1, h2, h3, h4⟩ := h
    refine ⟨hl, c, fr, hw.trans hc, h1, h2, fun j a ha => ?_, h4⟩
    obtain ⟨x, hx, hax⟩ := h3 j a ha
    exact ⟨x, hx, VR_mono hν a x hax⟩
  | iter pos rest =>
    obtain ⟨h0, s, hs, h⟩ := h
    exact ⟨h0, s, hw.trans hs, h⟩

structure Rel (w0 : World) (ν : List Place) (σ : St) (w : World) : Prop where
  below : Below w0.heap.size w0 w
  next : σ.next = ν.length
  live : ∀ b o, σ.get b = some o → ∃ p, ν[b]? = some p ∧ w0.heap.size ≤ p.block ∧ ObjR w0 ν p o w
  apart : ∀ b b' o o' p p', σ.get b = some o → σ.get b' = some o' → b ≠ b' → ν[b]? = some p → ν[b']? = some p' → p.block ≠ p'.block

noncomputable def St.put (σ : St) (b : Nat) (o : AObj) : St := { σ with heap := σ.heap.set (path b) (some o) }
noncomputable def St.kill (σ : St) (b : Nat) : St := { σ with heap := σ.heap.set (path b) none }
noncomputable def St.new (σ : St) (o : AObj) : St := { heap := σ.heap.set (path σ.next) (some o), next := σ.next + 1 }

theorem St.putK_eq {β : Type} (σ : St) (b : Nat) (o : AObj) (k : St → β) : σ.putK b o k = k (σ.put b o) := Tr.setK_eq _ _ _ _
theorem St.killK_eq {β : Type} (σ : St) (b : Nat) (k : St → β) : σ.killK b k = k (σ.kill b) := Tr.setK_eq _ _ _ _
theorem St.newK_eq {β : Type} (σ : St) (o : AObj) (k : Nat → St → β) : σ.newK o k = k σ.next (σ.new o) := by
  show Tr.setK _ _ _ _ = _
  rw [Tr.setK_eq]
  rfl

theorem St.get_put_same (σ : St) (b : Nat) (o : AObj) : (σ.put b o).get b = some o := Tr.get_set_same _ _ _
theorem St.get_put_other (σ : St) {b b' : Nat} (o : AObj) (h : b' ≠ b) : (σ.put b o).get b' = σ.get b' :=
  Tr.get_set_other _ _ _ _ fun e => h (path_inj e)
theorem St.get_kill_same (σ : St) (b : Nat) : (σ.kill b).get b = none := Tr.get_set_same _ _ _
theorem St.get_kill_other (σ : St) {b b' : Nat} (h : b' ≠ b) : (σ.kill b).get b' = σ.get b' :=
  Tr.get_set_other _ _ _ _ fun e => h (path_inj e)
theorem St.get_new_same (σ : St) (o : AObj) : (σ.new o).get σ.next = some o := Tr.get_set_same _ _ _
theorem St.get_new_other (σ : St) {b' : Nat} (o : AObj) (h : b' ≠ σ.next) : (σ.new o).get b' = σ.get b' :=
  Tr.get_set_other _ _ _ _ fun e => h (path_inj e)

section
variable {w0 : World} {ν : List Place} {σ : St} {w : World}
theorem Rel.lt (h : Rel w0 ν σ w) {b : Nat} {o : AObj} (hb : σ.get b = some o) : b < ν.length := by
  obtain ⟨p, hp, _⟩ := h.live b o hb
  exact (List.getElem?_eq_some_iff.1 hp).1

/-- A new block. -/
theorem Rel.new (h : Rel w0 ν σ w) (o : AObj) (w' : World) (p : Place) (hp : p.block = w.heap.size) (hb : Below w0.heap.size w w')
    (hw : ∀ k, k < w.heap.size → w'.heap[k]? = w.heap[k]?) (ho : ObjR w0 (ν ++ [p]) p o w') : Rel w0 (ν ++ [p]) (σ.new o) w' := by
  have hpre : ν <+: ν ++ [p] := List.prefix_append _ _
  have hnew : (ν ++ [p])[σ.next]? = some p := by rw [h.next]; simp
  have hsz : w0.heap.size ≤ w.heap.size := h.below.size
  refine ⟨h.below.trans hb, by simp [St.new, h.next], ?_, ?_⟩
  · intro b o' hb'
    by_cases e : b = σ.next
    · subst e
      rw [St.get_new_same] at hb'
      cases hb'
      exact ⟨p, hnew, by omega, ho⟩
    · rw [St.get_new_other _ _ e] at hb'
      obtain ⟨q, hq, hq0, hqo⟩ := h.live b o' hb'
      exact ⟨q, pre_get hpre hq, hq0, hqo.mono hpre (hw _ hqo.some)⟩
  · intro b b' o1 o2 q q' h1 h2 hne hq hq'
    by_cases e : b = σ.next
    · subst e
      rw [hnew] at hq; cases hq
      rw [St.get_new_other _ _ (Ne.symm hne)] at h2
      obtain ⟨r, hr, _, hro⟩ := h.live b' o2 h2
      rw [pre_get hpre hr] at hq'; cases hq'
      have := hro.some
      omega
    · rw [St.get_new_other _ _ e] at h1
      obtain ⟨r, hr, _, hro⟩ := h.live b o1 h1
      rw [pre_get hpre hr] at hq; cases hq
      by_cases e' : b' = σ.next
      · subst e'
        rw [hnew] at hq'; cases hq'
        have := hro.some
        omega
      · rw [St.get_new_other _ _ e'] at h2
        obtain ⟨r', hr', _, hro'⟩ := h.live b' o2 h2
        rw [pre_get hpre hr'] at hq'; cases hq'
        exact h.apart b b' o1 o2 _ _ h1 h2 hne hr hr'

/-- A block's content turned. -/
theorem Rel.put (h : Rel w0 ν σ w) {b : Nat} {o o' : AObj} {p : Place} (hb : σ.get b = some o) (hp : ν[b]? = some p) {w' : World} (hbl : Below w0.heap.size w w')
    (hw : ∀ k : Nat, k ≠ p.block → w'.heap[k]? = w.heap[k]?) (ho : ObjR w0 ν p o' w') : Rel w0 ν (σ.put b o') w' := by
  refine ⟨h.below.trans hbl, h.next, ?_, ?_⟩
  · intro c oc hc
    by_cases e : c = b
    · subst e
      rw [St.get_put_same] at hc; cases hc
      obtain ⟨q, hq, hq0, _⟩ := h.live c o hb
      rw [hp] at hq; cases hq
      exact ⟨p, hp, hq0, ho⟩
    · rw [St.get_put_other _ _ e] at hc
      obtain ⟨q, hq, hq0, hqo⟩ := h.live c oc hc
      refine ⟨q, hq, hq0, hqo.mono (List.prefix_refl _) (hw _ ?_)⟩
      exact h.apart c b oc o q p hc hb e hq hp
  · have hl : ∀ c oc, (σ.put b o').get c = some oc → ∃ oc', σ.get c = some oc' := by
      intro c oc hc
      by_cases e : c = b
      · subst e; exact ⟨o, hb⟩
      · rw [St.get_put_other _ _ e] at hc; exact ⟨oc, hc⟩
    intro c c' o1 o2 q q' h1 h2 hne hq hq'
    obtain ⟨o1', h1'⟩ := hl c o1 h1
    obtain ⟨o2', h2'⟩ := hl c' o2 h2
    exact h.apart c c' o1' o2' q q' h1' h2' hne hq hq'

/-- A block forgotten. -/
theorem Rel.kill (h : Rel w0 ν σ w) (b : Nat) : Rel w0 ν (σ.kill b) w := by
  have hl : ∀ c oc, (σ.kill b).get c = some oc → σ.get c = some oc := by
    intro c oc hc
    by_cases e : c = b
    · subst e; rw [St.get_kill_same] at hc; simp at hc
    · rwa [St.get_kill_other _ e] at hc
  exact ⟨h.below, h.next, fun c oc hc => h.live c oc (hl c oc hc), fun c c' o1 o2 q q' h1 h2 => h.apart c c' o1 o2 q q' (hl _ _ h1) (hl _ _ h2)⟩

/-- A draw, or whatever else leaves the heap. -/
theorem Rel.world (h : Rel w0 ν σ w) {w' : World} (hb : Below w0.heap.size w w') (hw : ∀ k : Nat, w'.heap[k]? = w.heap[k]?) : Rel w0 ν σ w' :=
  ⟨h.below.trans hb, h.next, fun c oc hc => let ⟨p, hp, h0, ho⟩ := h.live c oc hc; ⟨p, hp, h0, ho.mono (List.prefix_refl _) (hw _)⟩, h.apart⟩

/-- An in-place append, or a part of a block taken over: a block forgotten, a new one at a place within the forgotten one's concrete block. -/
theorem Rel.take (h : Rel w0 ν σ w) {b : Nat} {o : AObj} {p : Place} (hb : σ.get b = some o) (hp : ν[b]? = some p) (o' : AObj) (p' : Place) (hpp : p'.block = p.block) {w' : World}
    (hbl : Below w0.heap.size w w') (hw : ∀ k : Nat, k ≠ p.block → w'.heap[k]? = w.heap[k]?) (ho : ObjR w0 (ν ++ [p']) p' o' w') : Rel w0 (ν ++ [p']) ((σ.kill b).new o') w' := by
  have hpre : ν <+: ν ++ [p'] := List.prefix_append _ _
  have hn : (σ.kill b).next = σ.next := rfl
  have hnew : (ν ++ [p'])[σ.next]? = some p' := by rw [h.next]; simp
  obtain ⟨q, hq, hq0, _⟩ := h.live b o hb
  rw [hp] at hq; cases hq
  have old : ∀ c oc, c ≠ σ.next → ((σ.kill b).new o').get c = some oc → c ≠ b ∧ σ.get c = some oc := by
    intro c oc hc hg
    rw [St.get_new_other _ _ (by rw [hn]; exact hc)] at hg
    by_cases e : c = b
    · subst e; rw [St.get_kill_same] at hg; simp at hg
    · rw [St.get_kill_other _ e] at hg; exact ⟨e, hg⟩
  refine ⟨h.below.trans hbl, by simp [St.new, hn, h.next], ?_, ?_⟩
  · intro c oc hc
    by_cases e : c = σ.next
    · subst e
      have : ((σ.kill b).new o').get σ.next = some o' := St.get_new_same _ _
      rw [this] at hc; cases hc
      exact ⟨p', hnew, by rw [hpp]; exact hq0, ho⟩
    · obtain ⟨hcb, hg⟩ := old c oc e hc
      obtain ⟨r, hr, hr0, hro⟩ := h.live c oc hg
      refine ⟨r, pre_get hpre hr, hr0, hro.mono hpre (hw _ ?_)⟩
      exact h.apart c b oc o r p hg hb hcb hr hp
  · intro c c' o1 o2 r r' h1 h2 hne hr hr'
    by_cases e : c = σ.next
    · subst e
      rw [hnew] at hr; cases hr
      obtain ⟨hcb, hg⟩ := old c' o2 (Ne.symm hne) h2
      obtain ⟨s, hs, _, _⟩ := h.live c' o2 hg
      rw [pre_get hpre hs] at hr'; cases hr'
      rw [hpp]
      exact Ne.symm (h.apart c' b o2 o _ p hg hb hcb hs hp)
    · obtain ⟨hcb, hg⟩ := old c o1 e h1
      obtain ⟨s, hs, _, _⟩ := h.live c o1 hg
      rw [pre_get hpre hs] at hr; cases hr
      by_cases e' : c' = σ.next
      · subst e'
        rw [hnew] at hr'; cases hr'
        rw [hpp]
        exact h.apart c b o1 o _ p hg hb hcb hs hp
      · obtain ⟨hcb', hg'⟩ := old c' o2 e' h2
        obtain ⟨s', hs', _, _⟩ := h.live c' o2 hg'
        rw [pre_get hpre hs'] at hr'; cases hr'
        exact h.apart c c' o1 o2 _ _ hg hg' hne hs hs'
end
end Go.Ab

namespace Go.Ab
open Go Go.RowKit

inductive TD where
  | bool | int (k : IntKind) | str | uptr | ptr (e : TypeId) | slice (e : TypeId) | arr (n : Nat) (e : TypeId) | struct (fs : List (Nat × TypeId)) | func | iface | other
  deriving DecidableEq

def tdOf : TypeDesc → TD
  | .bool => .bool
  | .int k => .int k
  | .string => .str
  | .unsafePointer => .uptr
  | .pointer e => .ptr e
  | .slice e => .slice e
  | .array n e => .arr n e
  | .struct fs => .struct (fs.toList.map fun f => (f.offset, f.type))
  | .func _ _ _ => .func
  | .interface _ => .iface
  | _ => .other

structure TI where
  d : TD
  size : Nat
  bytes : Nat
  zero : List AVal

def TI.agg (ti : TI) : Bool := match ti.d with | .struct _ => true | .arr _ _ => true | _ => false
def TI.aggN (ti : TI) : Option Nat := if ti.agg then some ti.size else none

/-- A closed value of one cell, as an abstract one. -/
def aval : Value → Option AVal
  | .bool b => some (.bool b)
  | .int k n => some (.int k n)
  | .string s => some (.str (bytesOf s))
  | .pointer none => some .nilp
  | .slice none 0 0 => some .nils
  | .nilFunc => some .nilf
  | .nilIface => some .nili
  | _ => none

def avals : List Value → Option (List AVal)
  | [] => some []
  | v :: vs => match aval v, avals vs with | some a, some as => some (a :: as) | _, _ => none

theorem aval_VR {w0 : World} {ν : List Place} {v : Value} {a : AVal} (h : aval v = some a) : VR w0 ν a v := by
  unfold aval at h
  split at h <;> simp at h <;> subst h <;> simp [VR]

theorem avals_VRs {w0 : World} {ν : List Place} : ∀ {vs : List Value} {as : List AVal}, avals vs = some as → VRs w0 ν as vs
  | [], as, h => by simp [avals] at h; subst h; simp [VRs]
  | v :: vs, as, h => by
    simp only [avals] at h
    cases h1 : aval v with
    | none => rw [h1] at h; simp at h
    | some a =>
      cases h2 : avals vs with
      | none => rw [h1, h2] at h; simp at h
      | some as' =>
        rw [h1, h2] at h; simp at h; subst h
        simp only [VRs]
        exact ⟨v, vs, rfl, aval_VR h1, avals_VRs h2⟩

/-- The row of a type says what the program says. -/
structure OkTI (P : Program) (t : TypeId) (ti : TI) : Prop where
  info : ∃ i z, P.info? t = some i ∧ i.size = ti.size ∧ i.bytes = ti.bytes ∧ i.zero = some z ∧ avals z.cells.toList = some ti.zero
  und : ∃ d, P.underlying t = some d ∧ tdOf d = ti.d

section
variable {P : Program} {t : TypeId} {ti : TI} (w : World)
theorem OkTI.isAgg (h : OkTI P t ti) : (Go.isAgg t).run P w = .ok ti.agg w := by
  obtain ⟨d, hd, e⟩ := h.und
  unfold Go.isAgg TI.agg
  rw [← e]
  simp only [Sem.run_bind, run_underlying hd, Result.andThen_ok]
  cases d <;> rfl

theorem OkTI.sizeOf (h : OkTI P t ti) : (Go.sizeOf t).run P w = .ok ti.size w := by
  obtain ⟨i, z, hi, hs, _⟩ := h.info
  simp [Go.sizeOf, run_typeInfo _ hi, hs]

theorem OkTI.zero (h : OkTI P t ti) : ∃ z, (zeroValue t).run P w = .ok z w ∧ avals z.cells.toList = some ti.zero := by
  obtain ⟨i, z, hi, _, _, hz, ha⟩ := h.info
  exact ⟨z, by simp [zeroValue, run_typeInfo _ hi, hz], ha⟩

theorem OkTI.typeInfo (h : OkTI P t ti) : ∃ i, (Go.typeInfo t).run P w = .ok i w ∧ i.bytes = ti.bytes := by
  obtain ⟨i, z, hi, _, hb, _⟩ := h.info
  exact ⟨i, run_typeInfo _ hi, hb⟩
end

theorem add_plain (r o n : Nat) : (⟨r, o, none⟩ : Addr).add n = ⟨r, o + n, none⟩ := by
  unfold Addr.add; split
  · rename_i h; simp [h]
  · rfl

/-- What the cells of a world hold from a place on. -/
def CellsAt (w0 : World) (ν : List Place) (w : World) (r o : Nat) (cs : List AVal) : Prop :=
  ∀ (j : Nat) (a : AVal), cs[j]? = some a → ∃ x, w.cell? ⟨r, o + j, none⟩ = some x ∧ VR w0 ν a x

section
variable {P : Program} {w0 w : World} {ν : List Place} {σ : St}
theorem CellsAt.drop {r o : Nat} {cs : List AVal} (h : CellsAt w0 ν w r o cs) (n : Nat) : CellsAt w0 ν w r (o + n) (cs.drop n) := by
  intro j a ha
  obtain ⟨x, hx, hax⟩ := h (n + j) a (by simpa using ha)
  exact ⟨x, by rw [show o + n + j = o + (n + j) by omega]; exact hx, hax⟩

theorem CellsAt.take {r o : Nat} {cs : List AVal} (h : CellsAt w0 ν w r o cs) (n : Nat) : CellsAt w0 ν w r o (cs.take n) := by
  intro j a ha
  rw [List.getElem?_take] at ha
  by_cases hj : j < n
  · rw [if_pos hj] at ha; exact h j a ha
  · rw [if_neg hj] at ha; simp at ha

theorem CellsAt.vals {r o : Nat} : ∀ {cs : List AVal}, CellsAt w0 ν w r o cs → ∃ vs : List Value, VRs w0 ν cs vs ∧ ∀ (j : Nat) (v : Value), vs[j]? = some v → w.cell? ⟨r, o + j, none⟩ = some v := by
  intro cs
  induction cs generalizing o with
  | nil => intro _; exact ⟨[], by simp [VRs], by simp⟩
  | cons a cs ih =>
    intro h
    obtain ⟨x, hx, hax⟩ := h 0 a rfl
    obtain ⟨vs, hvs, hcs⟩ := ih (o := o + 1) (fun j b hb => by
      obtain ⟨y, hy, hby⟩ := h (j + 1) b (by simpa using hb)
      exact ⟨y, by rw [show o + 1 + j = o + (j + 1) by omega]; exact hy, hby⟩)
    refine ⟨x :: vs, by simp only [VRs]; exact ⟨x, vs, rfl, hax, hvs⟩, ?_⟩
    intro j v hv
    cases j with
    | zero => simp at hv; subst hv; simpa using hx
    | succ j => rw [show o + (j + 1) = o + 1 + j by omega]; exact hcs j v (by simpa using hv)

theorem run_loadCells_at {r o : Nat} {cs : List AVal} (h : CellsAt w0 ν w r o cs) : ∃ vs : List Value, VRs w0 ν cs vs ∧ (loadCells ⟨r, o, none⟩ cs.length).run P w = .ok vs.toArray w := by
  obtain ⟨vs, hvs, hc⟩ := h.vals
  refine ⟨vs, hvs, ?_⟩
  rw [← VRs_length hvs]
  exact run_loadCells_list w ⟨r, o, none⟩ vs fun j v hv => by rw [add_plain]; exact hc j v hv

theorem ROs.at {r o : Nat} {cs : List AVal} (hb : Below w0.heap.size w0 w) (h : ROs w0 ν r o cs) : CellsAt w0 ν w r o cs := by
  intro j a ha
  obtain ⟨x, hx, hax⟩ := ROs_iff.1 h j a ha
  refine ⟨x, ?_, hax⟩
  rw [hb.cell (p := ⟨r, o + j, none⟩) (World.block_lt_of_cell? w0 _ hx)]
  exact hx

theorem Rel.cellsAt (h : Rel w0 ν σ w) {b : Nat} {f : Bool} {e : TypeId} {cs : List AVal} (hb : σ.get b = some (.cells f e cs)) {p : Place} (hp : ν[b]? = some p) : CellsAt w0 ν w p.block p.off cs := by
  obtain ⟨q, hq, _, ho⟩ := h.live b _ hb
  rw [hp] at hq; cases hq
  obtain ⟨_, c, fr, hc, _, _, h3, _⟩ := ho
  intro j a ha
  obtain ⟨x, hx, hax⟩ := h3 j a ha
  exact ⟨x, by simp [World.cell?, hc, hx], hax⟩

/-- One value out of cells. -/
theorem load_sim {t : TypeId} {ti : TI} (ht : OkTI P t ti) {r o : Nat} {cs : List AVal} (hc : CellsAt w0 ν w r o cs) {v : AVal} (hl : loadL ti.aggN cs = some v) :
    ∃ x, (loadVar t ⟨r, o, none⟩).run P w = .ok x w ∧ VR w0 ν v x := by
  unfold TI.aggN loadL at hl
  cases hagg : ti.agg with
  | true =>
    rw [hagg] at hl
    simp only [if_true] at hl
    cases htk : takeX ti.size cs with
    | none => rw [htk] at hl; simp at hl
    | some l =>
      rw [htk] at hl; simp at hl; subst hl
      obtain ⟨hlen, rfl⟩ := takeX_eq.1 htk
      obtain ⟨vs, hvs, hrun⟩ := run_loadCells_at (P := P) (hc.take ti.size)
      rw [List.length_take, Nat.min_eq_left hlen] at hrun
      refine ⟨.agg vs.toArray, ?_, ?_⟩
      · simp [loadVar, ht.isAgg, hagg, ht.sizeOf, hrun]
      · simp only [VR]; exact ⟨vs, rfl, hvs⟩
  | false =>
    rw [hagg] at hl
    cases cs with
    | nil => simp [head?] at hl
    | cons c cs =>
      simp [head?] at hl; subst hl
      obtain ⟨x, hx, hax⟩ := hc 0 c rfl
      refine ⟨x, ?_, hax⟩
      simp only [Nat.add_zero] at hx
      simp [loadVar, ht.isAgg, hagg, hx]

theorem part_sim {t : TypeId} {ti : TI} (ht : OkTI P t ti) {cs : List AVal} {xs : List Value} (hx : VRs w0 ν cs xs) {off : Nat} {l : List AVal} (hd : dropX off cs = some l) {v : AVal} (hl : loadL ti.aggN l = some v) :
    ∃ x, (part t xs.toArray off).run P w = .ok x w ∧ VR w0 ν v x := by
  obtain ⟨hlen, rfl⟩ := dropX_eq.1 hd
  unfold TI.aggN loadL at hl
  cases hagg : ti.agg with
  | true =>
    rw [hagg] at hl
    simp only [if_true] at hl
    cases htk : takeX ti.size (cs.drop off) with
    | none => rw [htk] at hl; simp at hl
    | some l =>
      rw [htk] at hl; simp at hl; subst hl
      obtain ⟨hlen', rfl⟩ := takeX_eq.1 htk
      refine ⟨.agg ((xs.drop off).take ti.size).toArray, ?_, ?_⟩
      · simp only [part, Sem.run_bind, ht.isAgg, hagg, Result.andThen_ok, if_true, ht.sizeOf, Sem.run_pure]
        congr 2
        apply Array.ext'
        simp [List.take_drop]
      · simp only [VR]; exact ⟨_, rfl, VRs_take (VRs_drop hx off) ti.size⟩
  | false =>
    rw [hagg] at hl
    cases hdr : cs.drop off with
    | nil => rw [hdr] at hl; simp [head?] at hl
    | cons c r =>
      rw [hdr] at hl; simp [head?] at hl; subst hl
      have hc : cs[off]? = some c := by
        have : (cs.drop off)[0]? = some c := by rw [hdr]; rfl
        simpa using this
      obtain ⟨x, hx', hax⟩ := VRs_get hx hc
      refine ⟨x, ?_, hax⟩
      simp [part, ht.isAgg, hagg, hx']
end
end Go.Ab

namespace Go.Ab
open Go Go.RowKit

/-- What the check leans on: rows of types, the compiled functions, the functions without a body. -/
structure Stat where
  tt : Tr TI
  tab : Tab
  ext : List (Nat × Ext)

noncomputable def withTI (S : Stat) (t : TypeId) (f : TI → Bool) : Bool := match S.tt.get (path t) with | some ti => f ti | none => false

noncomputable def eqBools : List Bool → List Bool → Bool
  | [], [] => true
  | x :: xs, y :: ys => (x == y) && eqBools xs ys
  | _, _ => false

/-- n: how many temporaries there are. -/
noncomputable def okOpd (S : Stat) (o : Operand) (x : Opd) : Bool :=
  match x with
  | .t p => (match o with | .tmp t => eqBools p (path t) | _ => false)
  | .g n => (match o with | .global g => g == n && (match S.tab.glob.get (path n) with | some _ => true | none => false) | _ => false)
  | .c v => (match o with
    | .const c => (match aval c with | some a => eqA a v | none => false)
    | .func f => eqA (.func f [] []) v
    | _ => false)

noncomputable def okOpdO (S : Stat) : Option Operand → Option Opd → Bool
  | none, none => true
  | some o, some x => okOpd S o x
  | _, _ => false

noncomputable def okOpds (S : Stat) : List Operand → List Opd → Bool
  | [], [] => true
  | o :: os, x :: xs => okOpd S o x && okOpds S os xs
  | _, _ => false

noncomputable def okParts (S : Stat) (place : Nat → Option (Nat × Nat)) : List (Nat × Operand) → List (Nat × Nat × Opd) → Bool
  | [], [] => true
  | (i, o) :: ps, (off, size, x) :: qs => (match place i with | some (a, b) => a == off && b == size | none => false) && okOpd S o x && okParts S place ps qs
  | _, _ => false

noncomputable def fieldPlaceOf (S : Stat) (fs : List (Nat × TypeId)) (i : Nat) : Option (Nat × Nat) :=
  match fs[i]? with
  | some (off, t) => (match S.tt.get (path t) with | some ti => some (off, ti.size) | none => none)
  | none => none

noncomputable def allTI (S : Stat) : List (Nat × TypeId) → Bool
  | [] => true
  | f :: fs => withTI S f.2 (fun _ => true) && allTI S fs

noncomputable def okEq (S : Stat) (t : TypeId) (k : EqK) : Bool :=
  withTI S t fun ti =>
    match k, ti.d with
    | .bool, .bool => true
    | .int, .int _ => true
    | .ptr, .ptr e => withTI S e fun te => te.size != 0
    | .slice, .slice _ => true
    | .func, .func => true
    | .iface, .iface => true
    | _, _ => false

def extOf (l : List (Nat × Ext)) (f : Nat) : Option Ext :=
  match l with
  | [] => none
  | (g, e) :: l => if g = f then some e else extOf l f

def eqExt : Ext → Ext → Bool
  | .same, .same => true
  | .indexByte, .indexByte => true
  | .compare, .compare => true
  | .index, .index => true
  | _, _ => false

def isCmp : BinOp → Bool
  | .eql | .neq => true
  | _ => false

/-- Does a compiled operation stand for one of the program? -/
noncomputable def okOp (S : Stat) (o : Op) (a : AOp) : Bool :=
  match a with
  | .mov x => (match o with | .move y => okOpd S y x | .assign y => okOpd S y x | _ => false)
  | .pick c a b => (match o with | .pick c' a' b' => okOpd S c' c && okOpd S a' a && okOpd S b' b | _ => false)
  | .alloc e z => (match o with | .alloc t => t == e && withTI S t fun ti => eqAs ti.zero z | _ => false)
  | .box e x => (match o with | .box t y => t == e && okOpd S y x | _ => false)
  | .build z parts => (match o with
    | .build t ps => withTI S t fun ti => eqAs ti.zero z &&
      (match ti.d with
      | .struct fs => allTI S fs && okParts S (fieldPlaceOf S fs) ps.toList parts
      | .arr _ e => withTI S e fun te => okParts S (fun i => some (i * te.size, te.size)) ps.toList parts
      | _ => false)
    | _ => false)
  | .buildSlice e s len z parts => (match o with
    | .buildSlice t len' ps => withTI S t fun ti => (match ti.d with | .slice e' => e' == e | _ => false) && len == len' && decide (0 < s) && decide (len * s ≤ 16777216) &&
      withTI S e fun te => te.size == s && eqAs (rep te.zero len) z && lenL te.zero == s && okParts S (fun i => some (i * te.size, te.size)) ps.toList parts
    | _ => false)
  | .load agg x => (match o with | .load t y => okOpd S y x && withTI S t fun ti => decide (ti.aggN = agg) | _ => false)
  | .store n x v => (match o with | .store t y u => okOpd S y x && okOpd S u v && withTI S t fun ti => ti.size == n | _ => false)
  | .nilCheck x => (match o with | .nilCheck y => okOpd S y x | _ => false)
  | .arith op x y => (match o with | .binOp op' _ x' y' _ => decide (op' = op) && okOpd S x' x && okOpd S y' y | _ => false)
  | .strop op x y => (match o with | .binOp op' _ x' y' _ => decide (op' = op) && okOpd S x' x && okOpd S y' y | _ => false)
  | .eq neg k x y => (match o with | .binOp op t x' y' _ => decide (op = if neg then .neq else .eql) && okEq S t k && okOpd S x' x && okOpd S y' y | _ => false)
  | .not x => (match o with | .unOp .not _ y => okOpd S y x | _ => false)
  | .neg x => (match o with | .unOp .neg _ y => okOpd S y x | _ => false)
  | .cpl x => (match o with | .unOp .xor _ y => okOpd S y x | _ => false)
  | .toInt k x => (match o with | .convert s d y => okOpd S y x && (withTI S s fun _ => true) && withTI S d fun td => decide (td.d = .int k) | _ => false)
  | .intStr x => (match o with | .convert s d y => okOpd S y x && (withTI S s fun _ => true) && withTI S d fun td => decide (td.d = .str) | _ => false)
  | .bytes e x => (match o with
    | .convert s d y => okOpd S y x && (withTI S s fun _ => true) && (withTI S d fun td => decide (td.d = .slice e)) && withTI S e fun te => decide (te.d = .int .u8)
    | _ => false)
  | .runes _ _ => false
  | .strOf x => (match o with
    | .convert s d y => okOpd S y x && (withTI S d fun td => decide (td.d = .str)) && withTI S s fun ts => (match ts.d with | .slice e => withTI S e fun te => decide (te.d = .int .u8) | _ => false)
    | _ => false)
  | .strRunes _ => false
  | .stamp x => (match o with
    | .convert s d y => okOpd S y x && s == d && withTI S s fun ts => (match ts.d with | .slice e => withTI S e fun te => decide (te.d = .int .u8) | _ => false)
    | _ => false)
  | .toUnsafe x => (match o with
    | .convert s d y => okOpd S y x && (withTI S d fun td => decide (td.d = .uptr)) && withTI S s fun ts => (match ts.d with | .ptr e => withTI S e fun te => te.size != 0 | _ => false)
    | _ => false)
  | .cast u x => (match o with
    | .convert s d y => okOpd S y x && (withTI S s fun ts => decide (ts.d = .uptr)) && withTI S d fun td => decide (td.d = .ptr u) && withTI S u fun te => te.size != 0
    | _ => false)
  | .slStr x lo hi => (match o with | .slice t y lo' hi' mx' => okOpd S y x && okOpdO S lo' lo && okOpdO S hi' hi && okOpdO S mx' none && withTI S t fun ti => decide (ti.d = .str) | _ => false)
  | .slSl s x lo hi mx => (match o with
    | .slice t y lo' hi' mx' => okOpd S y x && okOpdO S lo' lo && okOpdO S hi' hi && okOpdO S mx' mx && withTI S t fun ti => (match ti.d with | .slice e => withTI S e fun te => te.size == s | _ => false)
    | _ => false)
  | .slArr n s x lo hi mx => (match o with
    | .slice t y lo' hi' mx' => okOpd S y x && okOpdO S lo' lo && okOpdO S hi' hi && okOpdO S mx' mx && withTI S t fun ti => (match ti.d with | .arr n' e => n' == n && withTI S e fun te => te.size == s | _ => false)
    | _ => false)
  | .fieldAddr off x => (match o with
    | .fieldAddr t y i => okOpd S y x && withTI S t fun ti => (match ti.d with
      | .struct fs => (match fs[i]? with | some (f, ft) => f == off && withTI S ft fun te => te.size != 0 | none => false)
      | _ => false)
    | _ => false)
  | .field off agg x => (match o with
    | .field t y i => okOpd S y x && withTI S t fun ti => (match ti.d with
      | .struct fs => (match fs[i]? with | some (f, ft) => f == off && withTI S ft fun te => decide (te.aggN = agg) | none => false)
      | _ => false)
    | _ => false)
  | .iaSl s x i => (match o with
    | .indexAddr t y j => okOpd S y x && okOpd S j i && withTI S t fun ti => (match ti.d with | .slice e => withTI S e fun te => te.size == s | _ => false)
    | _ => false)
  | .iaArr len s x i => (match o with
    | .indexAddr t y j => okOpd S y x && okOpd S j i && withTI S t fun ti => (match ti.d with | .arr n e => n == len && withTI S e fun te => te.size == s | _ => false)
    | _ => false)
  | .ixArr len s agg x i => (match o with
    | .index t y j => okOpd S y x && okOpd S j i && withTI S t fun ti => (match ti.d with | .arr n e => n == len && withTI S e fun te => te.size == s && te.agg == agg | _ => false)
    | _ => false)
  | .ixStr x i => (match o with | .index t y j => okOpd S y x && okOpd S j i && withTI S t fun ti => decide (ti.d = .str) | _ => false)
  | .range x => (match o with | .range t y => okOpd S y x && withTI S t fun ti => decide (ti.d = .str) | _ => false)
  | .next x => (match o with | .next y true => okOpd S y x | _ => false)
  | .extract x i => (match o with | .extract y j => okOpd S y x && i == j | _ => false)
  | .call f args => (match o with | .call ⟨.value (.func g), as, _⟩ => g == f && (match S.tab.fn.get (path f) with | some _ => true | none => false) && okOpds S as.toList args | _ => false)
  | .callV fn args => (match o with | .call ⟨.value g, as, _⟩ => okOpd S g fn && okOpds S as.toList args | _ => false)
  | .ext e args => (match o with | .call ⟨.value (.func g), as, _⟩ => (match extOf S.ext g with | some e' => eqExt e e' | none => false) && okOpds S as.toList args | _ => false)
  | .append e s bytes x y => (match o with
    | .call ⟨.builtin .append, as, ts⟩ => okOpds S as.toList [x, y] && (match ts.toList with
      | [t, u] => (withTI S t fun ti => decide (ti.d = .slice e)) && (withTI S e fun te => te.size == s && te.bytes == bytes && lenL te.zero == s && decide (0 < s) && decide (0 < bytes)) &&
        withTI S u fun tu => (match tu.d with | .slice _ => true | .str => true | _ => false)
      | _ => false)
    | _ => false)
  | .len s x => (match o with
    | .call ⟨.builtin .len, as, ts⟩ => okOpds S as.toList [x] && (match ts.toList with | [t] => withTI S t fun ti => (match ti.d with | .slice _ => !s | .str => s | _ => false) | _ => false)
    | _ => false)
  | .lenArr n => (match o with
    | .call ⟨.builtin .len, as, ts⟩ => lenL as.toList == 1 && (match ts.toList with
      | [t] => withTI S t fun ti => (match ti.d with | .arr m _ => m == n | .ptr e => withTI S e fun te => (match te.d with | .arr m _ => m == n | _ => false) | _ => false)
      | _ => false)
    | _ => false)
  | .mn x y => (match o with | .call ⟨.builtin .min, as, _⟩ => okOpds S as.toList [x, y] | _ => false)
  | .mx x y => (match o with | .call ⟨.builtin .max, as, _⟩ => okOpds S as.toList [x, y] | _ => false)
  | .mkFunc f first cap => (match o with | .makeFunc (.func g) fs cs => g == f && okOpds S fs.toList first && okOpds S cs.toList cap | _ => false)
  | .mkSlice e s bytes z len cap => (match o with
    | .makeSlice t l c => okOpd S l len && okOpd S c cap && (withTI S t fun ti => decide (ti.d = .slice e)) && withTI S e fun te => te.size == s && te.bytes == bytes && eqAs te.zero z && lenL z == s && decide (0 < s)
    | _ => false)
  | .mkIface t x => (match o with | .makeInterface t' y => t' == t && okOpd S y x && withTI S t fun ti => (match ti.d with | .iface => false | .other => false | _ => true) | _ => false)
  | .sliceData x => (match o with | .call ⟨.builtin .unsafeSliceData, as, _⟩ => okOpds S as.toList [x] | _ => false)
  | .unsafeStr e x n => (match o with
    | .call ⟨.builtin .unsafeString, as, ts⟩ => okOpds S as.toList [x, n] && (match ts.toList with | [p, _] => (withTI S p fun tp => decide (tp.d = .ptr e)) && withTI S e fun te => decide (te.d = .int .u8) && te.size == 1 | _ => false)
    | _ => false)

/-- The guards and destinations, too. n: how many temporaries; ops: the region. -/
noncomputable def okOper (S : Stat) (n : Nat) (ops : List Oper) (o : Oper) (a : AOper) : Bool :=
  okOp S o.op a.op &&
  (match a.dst with
  | none => (match o.dst with | none => true | some _ => false)
  | some p => (match o.dst with | some d => eqBools p (path d) && decide (d < n) | none => false)) &&
  (match a.guard with
  | none => (match o.guard with | none => true | some _ => false)
  | some (p, want) => (match o.guard with
    | some (j, want') => want == want' && (match ops[j]? with | some g => (match g.dst with | some d => eqBools p (path d) && decide (d < n) | none => false) | none => false)
    | none => false))

noncomputable def okOpers (S : Stat) (n : Nat) (ops : List Oper) : List Oper → List AOper → Bool
  | [], [] => true
  | o :: os, a :: as => okOper S n ops o a && okOpers S n ops os as
  | _, _ => false
end Go.Ab

namespace Go.Ab
open Go Go.RowKit

theorem eqBytes_nil : eqBytes [] [] = true := rfl
theorem eqBytes_nil_cons (y : Nat) (ys : List Nat) : eqBytes [] (y :: ys) = false := rfl
theorem eqBytes_cons_nil (x : Nat) (xs : List Nat) : eqBytes (x :: xs) [] = false := rfl
theorem eqBytes_cons (x : Nat) (xs : List Nat) (y : Nat) (ys : List Nat) : eqBytes (x :: xs) (y :: ys) = (Nat.beq x y && eqBytes xs ys) := by
  have e : eqBytes (x :: xs) (y :: ys) = Bool.rec (motive := fun _ => Bool) false (eqBytes xs ys) (Nat.beq x y) := rfl
  rw [e]; cases Nat.beq x y <;> rfl
theorem eqBytes_eq : ∀ {a b : List Nat}, eqBytes a b = true ↔ a = b
  | [], [] => by simp [eqBytes_nil]
  | [], _ :: _ => by simp [eqBytes_nil_cons]
  | _ :: _, [] => by simp [eqBytes_cons_nil]
  | x :: xs, y :: ys => by
    rw [eqBytes_cons, Bool.and_eq_true, eqBytes_eq (a := xs)]
    simp
theorem eqBools_eq : ∀ {a b : List Bool}, eqBools a b = true → a = b
  | [], [], _ => rfl
  | [], _ :: _, h => by simp [eqBools] at h
  | _ :: _, [], h => by simp [eqBools] at h
  | x :: xs, y :: ys, h => by
    simp only [eqBools, Bool.and_eq_true, beq_iff_eq] at h
    rw [h.1, eqBools_eq h.2]

mutual
theorem eqA_eq : ∀ (a b : AVal), eqA a b = true → a = b
  | .bool _, b, h => by cases b <;> simp [eqA] at h; simp [h]
  | .int _ _, b, h => by cases b <;> simp [eqA] at h; simp [h]
  | .str _, b, h => by cases b <;> simp [eqA] at h; rw [eqBytes_eq.1 h]
  | .nilp, b, h => by cases b <;> simp [eqA] at h; rfl
  | .ptr _ _, b, h => by cases b <;> simp [eqA] at h; simp [h]
  | .rptr xs, b, h => by
    cases b <;> simp [eqA] at h
    rename_i ys; rw [eqAs_eq xs ys h]
  | .nils, b, h => by cases b <;> simp [eqA] at h; rfl
  | .slice _ _ _ _, b, h => by cases b <;> simp [eqA] at h; simp [h]
  | .rslice _ xs, b, h => by
    cases b <;> simp [eqA] at h
    rename_i m ys; rw [h.1, eqAs_eq xs ys h.2]
  | .func _ xs ys, b, h => by
    cases b <;> simp [eqA] at h
    rename_i g us vs; rw [h.1.1, eqAs_eq xs us h.1.2, eqAs_eq ys vs h.2]
  | .nilf, b, h => by cases b <;> simp [eqA] at h; rfl
  | .iface _ x, b, h => by
    cases b <;> simp [eqA] at h
    rename_i u y; rw [h.1, eqA_eq x y h.2]
  | .nili, b, h => by cases b <;> simp [eqA] at h; rfl
  | .agg xs, b, h => by
    cases b <;> simp [eqA] at h
    rename_i ys; rw [eqAs_eq xs ys h]
  | .tuple xs, b, h => by
    cases b <;> simp [eqA] at h
    rename_i ys; rw [eqAs_eq xs ys h]
theorem eqAs_eq : ∀ (a b : List AVal), eqAs a b = true → a = b
  | [], [], _ => rfl
  | [], _ :: _, h => by simp [eqAs] at h
  | _ :: _, [], h => by simp [eqAs] at h
  | x :: xs, y :: ys, h => by
    simp only [eqAs, Bool.and_eq_true] at h
    rw [eqA_eq x y h.1, eqAs_eq xs ys h.2]
end

/-! ## What an operation gives -/
def Gives (P : Program) (w0 : World) (ν : List Place) (σ' : St) (v : AVal) (s : Sem Value) (w : World) : Prop :=
  ∃ ν' x w', ν <+: ν' ∧ VR w0 ν' v x ∧ Rel w0 ν' σ' w' ∧ s.run P w = .ok x w'

section
variable {P : Program} {w0 w : World} {ν : List Place} {σ : St}

theorem Gives.same {v : AVal} {x : Value} {s : Sem Value} (hrel : Rel w0 ν σ w) (hv : VR w0 ν v x) (h : s.run P w = .ok x w) : Gives P w0 ν σ v s w :=
  ⟨ν, x, w, List.prefix_refl _, hv, hrel, h⟩

theorem VR_undef : VR w0 ν undefA undef := by unfold undefA undef; simp only [VR]; exact ⟨[], rfl, by simp [VRs]⟩

theorem VR_cells {v : AVal} {x : Value} (h : VR w0 ν v x) : VRs w0 ν v.cells x.cells.toList := by
  cases v with
  | agg cs =>
    simp only [VR] at h
    obtain ⟨xs, rfl, hxs⟩ := h
    simpa [AVal.cells, Value.cells] using hxs
  | _ =>
    have hx : x.cells = #[x] := by
      cases x <;> first | rfl | (simp only [VR] at h; simp at h)
    rw [hx]
    simp only [AVal.cells, VRs]
    exact ⟨x, [], rfl, h, rfl⟩

theorem VR_one {v : AVal} {x : Value} (h : VR w0 ν v x) (h1 : v.one = true) : x.oneCell' = true := by
  cases v <;> simp [AVal.one] at h1 <;> simp only [VR] at h
  all_goals first
    | (subst h; rfl)
    | (obtain ⟨_, rfl, _⟩ := h; rfl)
    | (obtain ⟨_, _, rfl⟩ := h; rfl)
    | (obtain ⟨_, _, rfl, _⟩ := h; rfl)
    | (obtain ⟨_, _, _, rfl, _⟩ := h; rfl)
    | (obtain ⟨_, _, _, _, rfl, _⟩ := h; rfl)

/-- A new row of cells. -/
theorem Rel.new_row (hrel : Rel w0 ν σ w) (t : TypeId) (c : Array Value) (as : List AVal) (fix : Bool) (hc : ∀ (j : Nat) (a : AVal), as[j]? = some a → ∃ x, c[j]? = some x ∧ VR w0 ν a x)
    (hl : as.length ≤ c.size) (hf : fix = true → c.size = as.length) : Rel w0 (ν ++ [⟨w.heap.size, 0, c.size⟩]) (σ.new (.cells fix t as)) (w.alloc (.cells c t)) := by
  refine hrel.new _ _ ⟨w.heap.size, 0, c.size⟩ rfl ((Below.refl _ _).alloc hrel.below.size _) (fun k hk => Below.heap_alloc _ _ _ hk) ?_
  refine ⟨hl, c, (0, 0), by show (w.heap.push _)[w.heap.size]? = _; simp, by simp, fun j _ => by simp, fun j a ha => ?_, fun h => ⟨rfl, hf h, hf h, .inl rfl⟩⟩
  obtain ⟨x, hx, hax⟩ := hc j a ha
  exact ⟨x, by simpa using hx, VR_mono (List.prefix_append _ _) a x hax⟩

theorem Rel.new_vals (hrel : Rel w0 ν σ w) (t : TypeId) (c : Array Value) (as : List AVal) (h : VRs w0 ν as c.toList) : Rel w0 (ν ++ [⟨w.heap.size, 0, c.size⟩]) (σ.new (.cells true t as)) (w.alloc (.cells c t)) := by
  have hl : c.size = as.length := by rw [← VRs_length h]; simp
  refine hrel.new_row t c as true (fun j a ha => ?_) (Nat.le_of_eq hl.symm) (fun _ => hl)
  obtain ⟨x, hx, hax⟩ := VRs_get h ha
  exact ⟨x, by simpa using hx, hax⟩

theorem new_get (hrel : Rel w0 ν σ w) (p : Place) : (ν ++ [p])[σ.next]? = some p := by rw [hrel.next]; simp

theorem VR_newptr (hrel : Rel w0 ν σ w) (n : Nat) : VR w0 (ν ++ [⟨w.heap.size, 0, n⟩]) (.ptr σ.next 0) (.pointer (some ⟨w.heap.size, 0, none⟩)) := by
  simp only [VR]; exact ⟨_, new_get hrel _, rfl⟩

theorem VR_newslice (hrel : Rel w0 ν σ w) (n cap s ext : Nat) (h1 : n ≤ cap) (h2 : cap * s ≤ ext) (hs : 0 < s) : VR w0 (ν ++ [⟨w.heap.size, 0, ext⟩]) (.slice σ.next 0 n s) (.slice (some ⟨w.heap.size, 0, none⟩) n cap) := by
  simp only [VR]; exact ⟨_, _, cap, new_get hrel _, rfl, h1, hs, by simpa using h2, .inr rfl⟩

theorem sim_alloc (hrel : Rel w0 ν σ w) {t : TypeId} {ti : TI} (ht : OkTI P t ti) : Gives P w0 ν (σ.new (.cells true t ti.zero)) (.ptr σ.next 0) (Instr.alloc t true (.tuple #[])) w := by
  obtain ⟨z, hz, ha⟩ := ht.zero w
  refine ⟨_, .pointer (some ⟨w.heap.size, 0, none⟩), w.alloc (.cells z.cells t), List.prefix_append _ _, VR_newptr hrel _, hrel.new_vals t z.cells ti.zero (avals_VRs ha), ?_⟩
  simp [Instr.alloc, hz, newVar, newRow]

theorem sim_box (hrel : Rel w0 ν σ w) (t : TypeId) {v : AVal} {x : Value} (hx : VR w0 ν v x) : Gives P w0 ν (σ.new (.cells true t v.cells)) (.ptr σ.next 0) (Instr.box t x) w := by
  refine ⟨_, .pointer (some ⟨w.heap.size, 0, none⟩), w.alloc (.cells x.cells t), List.prefix_append _ _, VR_newptr hrel _, hrel.new_vals t x.cells v.cells (VR_cells hx), ?_⟩
  simp [Instr.box, newVar, newRow]

/-! ## Loads -/
theorem sim_load_ptr (hrel : Rel w0 ν σ w) {t : TypeId} {ti : TI} (ht : OkTI P t ti) {b i : Nat} {f : Bool} {e : TypeId} {cs l : List AVal} (hb : σ.get b = some (.cells f e cs)) (hd : dropX i cs = some l)
    {v : AVal} (hl : loadL ti.aggN l = some v) {x : Value} (hx : VR w0 ν (.ptr b i) x) : Gives P w0 ν σ v (Instr.loadAt t x) w := by
  simp only [VR] at hx
  obtain ⟨p, hp, rfl⟩ := hx
  obtain ⟨_, rfl⟩ := dropX_eq.1 hd
  obtain ⟨y, hy, hvy⟩ := load_sim (P := P) ht ((hrel.cellsAt hb hp).drop i) hl
  exact .same hrel hvy (by simp [Instr.loadAt, Instr.sureAddr, hy])

theorem sim_load_rptr (hrel : Rel w0 ν σ w) {t : TypeId} {ti : TI} (ht : OkTI P t ti) {cs : List AVal} {v : AVal} (hl : loadL ti.aggN cs = some v) {x : Value} (hx : VR w0 ν (.rptr cs) x) : Gives P w0 ν σ v (Instr.loadAt t x) w := by
  simp only [VR] at hx
  obtain ⟨r, o, rfl, hro⟩ := hx
  obtain ⟨y, hy, hvy⟩ := load_sim (P := P) ht (hro.at hrel.below) hl
  exact .same hrel hvy (by simp [Instr.loadAt, Instr.sureAddr, hy])

/-! ## Stores -/
/-- Values written one behind the other. -/
def wr (w : World) (r o : Nat) : List Value → World
  | [] => w
  | v :: vs => wr (w.setCell ⟨r, o, none⟩ v) r (o + 1) vs

theorem wr_block (r : Nat) : ∀ (vs : List Value) (w : World) (o : Nat) (c : Array Value) (e : TypeId) (fr : Nat × Nat), w.heap[r]? = some (.cells c e fr) → o + vs.length ≤ c.size →
    ∃ c', (wr w r o vs).heap[r]? = some (.cells c' e fr) ∧ c'.size = c.size ∧ (∀ j, j < o → c'[j]? = c[j]?) ∧ (∀ (j : Nat) (v : Value), vs[j]? = some v → c'[o + j]? = some v) ∧ (∀ j, o + vs.length ≤ j → c'[j]? = c[j]?)
  | [], w, o, c, e, fr, h, _ => ⟨c, h, rfl, fun _ _ => rfl, by simp, fun _ _ => rfl⟩
  | v :: vs, w, o, c, e, fr, h, hl => by
    have h1 : (w.setCell ⟨r, o, none⟩ v).heap[r]? = some (.cells (c.setIfInBounds o v) e fr) := by
      simp [World.setCell, Array.getElem?_modify, h]
    have hlen : (v :: vs).length = vs.length + 1 := rfl
    obtain ⟨c', hc, hs, ha, hb, hd⟩ := wr_block r vs (w.setCell ⟨r, o, none⟩ v) (o + 1) _ e fr h1 (by simp; omega)
    refine ⟨c', hc, by simpa using hs, fun j hj => ?_, fun j u hu => ?_, fun j hj => ?_⟩
    · rw [ha j (by omega), Array.getElem?_setIfInBounds, if_neg (by omega)]
    · cases j with
      | zero =>
        simp at hu; subst hu
        rw [Nat.add_zero, ha o (by omega), Array.getElem?_setIfInBounds, if_pos rfl, if_pos (by omega)]
      | succ j =>
        rw [show o + (j + 1) = o + 1 + j by omega]
        exact hb j u (by simpa using hu)
    · rw [hd j (by omega), Array.getElem?_setIfInBounds, if_neg (by omega)]

theorem wr_other (r : Nat) : ∀ (vs : List Value) (w : World) (o k : Nat), k ≠ r → (wr w r o vs).heap[k]? = w.heap[k]?
  | [], _, _, _, _ => rfl
  | v :: vs, w, o, k, h => by
    show (wr (w.setCell ⟨r, o, none⟩ v) r (o + 1) vs).heap[k]? = _
    rw [wr_other r vs _ _ k h, Below.heap_setCell _ _ _ _ h]

theorem wr_below {B r : Nat} (hr : B ≤ r) : ∀ (vs : List Value) (w : World) (o : Nat), Below B w (wr w r o vs)
  | [], _, _ => Below.refl _ _
  | v :: vs, w, o => (Below.setCell (Below.refl B w) (p := ⟨r, o, none⟩) hr v).trans (wr_below hr vs _ _)

theorem run_storeCells_wr (P : Program) (r : Nat) : ∀ (vs : List Value) (w : World) (o i : Nat) (c : Array Value) (e : TypeId) (fr : Nat × Nat), w.heap[r]? = some (.cells c e fr) → o + i + vs.length ≤ c.size →
    (∀ j, j < vs.length → ¬ (fr.1 ≤ o + i + j ∧ o + i + j < fr.2)) → (∀ v ∈ vs, v.oneCell' = true) → (storeCells ⟨r, o, none⟩ vs i).run P w = .ok () (wr w r (o + i) vs)
  | [], w, o, i, c, e, fr, _, _, _, _ => by simp [storeCells, wr]
  | v :: vs, w, o, i, c, e, fr, h, hl, hfr, h1 => by
    have hlen : (v :: vs).length = vs.length + 1 := rfl
    have hlt : o + i < c.size := by omega
    have hcell : w.cell? ⟨r, o + i, none⟩ = some c[o + i] := by simp [World.cell?, h, hlt]
    have hfz : w.frozen? ⟨r, o + i, none⟩ = false := by
      have := hfr 0 (by omega)
      simp only [World.frozen?, h]
      simp only [Nat.add_zero] at this
      rw [Bool.and_eq_false_iff]
      by_cases ha : fr.1 ≤ o + i
      · right; simp; omega
      · left; simp; omega
    have hset : (w.setCell ⟨r, o + i, none⟩ v).heap[r]? = some (.cells (c.setIfInBounds (o + i) v) e fr) := by
      simp [World.setCell, Array.getElem?_modify, h]
    have ih := run_storeCells_wr P r vs (w.setCell ⟨r, o + i, none⟩ v) o (i + 1) _ e fr hset (by simp; omega) (fun j hj => by
      have := hfr (j + 1) (by omega)
      rwa [show o + i + (j + 1) = o + (i + 1) + j by omega] at this) (fun u hu => h1 u (List.mem_cons_of_mem _ hu))
    simp only [storeCells, Sem.run_bind, add_plain]
    rw [run_store P w _ v _ (h1 v (List.mem_cons_self ..)), hcell]
    simp only [hfz, Bool.false_eq_true, if_false, Result.andThen_ok]
    rw [ih]
    rfl

theorem allOne_mem : ∀ {cs : List AVal}, allOne cs = true → ∀ c ∈ cs, c.one = true
  | [], _, c, hc => by simp at hc
  | d :: cs, h, c, hc => by
    simp only [allOne, Bool.and_eq_true] at h
    rcases List.mem_cons.1 hc with rfl | hc
    · exact h.1
    · exact allOne_mem h.2 c hc

theorem VRs_one {as : List AVal} {vs : List Value} (h : VRs w0 ν as vs) (h1 : allOne as = true) : ∀ v ∈ vs, v.oneCell' = true := by
  intro v hv
  obtain ⟨j, hj⟩ := List.getElem?_of_mem hv
  obtain ⟨hl, hg⟩ := VRs_iff.1 h
  have hjl : j < as.length := by rw [← hl]; exact (List.getElem?_eq_some_iff.1 hj).1
  have ha : as[j]? = some as[j] := by simp [hjl]
  exact VR_one (hg j _ v ha hj) (allOne_mem h1 _ (List.getElem_mem hjl))

theorem sim_store (hrel : Rel w0 ν σ w) {t : TypeId} {ti : TI} (ht : OkTI P t ti) {b i : Nat} {f : Bool} {e : TypeId} {cs cs' : List AVal} (hb : σ.get b = some (.cells f e cs)) {v : AVal} {u : Value}
    (hv : VR w0 ν v u) (hn : lenL v.cells = ti.size) (h1 : allOne v.cells = true) (hp : putX i cs v.cells = some cs') {x : Value} (hx : VR w0 ν (.ptr b i) x) :
    ∃ w', (Instr.storeAt t x u).run P w = .ok () w' ∧ Rel w0 ν (σ.put b (.cells f e cs')) w' := by
  simp only [VR] at hx
  obtain ⟨p, hp', rfl⟩ := hx
  have hcells := VR_cells hv
  have hlen := VRs_length hcells
  obtain ⟨q, hq, hq0, ho⟩ := hrel.live b _ hb
  rw [hp'] at hq; cases hq
  obtain ⟨hcl, c, fr, hc, hext, hfr, hcv, hfix⟩ := ho
  rw [lenL_eq] at hn
  have hsz : u.cells.size = ti.size := by
    have : u.cells.toList.length = u.cells.size := by simp
    omega
  rcases putX_eq hp with ⟨h0, hr⟩ | ⟨hle, hr⟩
  · -- nothing is written
    subst hr
    rw [h0] at hcells hn
    simp only [VRs] at hcells
    refine ⟨w, ?_, ?_⟩
    · simp [Instr.storeAt, Instr.sureAddr, storeVar, ht.sizeOf, hsz, hcells, storeCells]
    · refine hrel.put hb hp' (Below.refl _ _) (fun _ _ => rfl) ⟨hcl, c, fr, hc, hext, hfr, hcv, hfix⟩
  · subst hr
    have hbound : p.off + i + u.cells.toList.length ≤ c.size := by omega
    have hrun := run_storeCells_wr P p.block u.cells.toList w (p.off + i) 0 c e fr hc (by simpa using hbound) (fun j hj => by
      have := hfr (i + j) (by omega)
      simpa [Nat.add_assoc] using this) (VRs_one hcells h1)
    obtain ⟨c', hc', hs', ha, hbd, hd⟩ := wr_block p.block u.cells.toList w (p.off + i) c e fr hc hbound
    refine ⟨wr w p.block (p.off + i) u.cells.toList, ?_, ?_⟩
    · simp only [Instr.storeAt, Instr.sureAddr, storeVar, Sem.run_bind, Sem.run_pure, Result.andThen_ok, ht.sizeOf, hsz, ne_eq, not_true_eq_false, if_false]
      exact hrun
    · have hll : (cs.take i ++ v.cells ++ cs.drop (i + v.cells.length)).length = cs.length := by
        simp only [List.length_append, List.length_take, List.length_drop]; omega
      refine hrel.put hb hp' (wr_below (by omega) _ _ _) (fun k hk => wr_other _ _ _ _ _ hk) ⟨by rw [hll]; exact hcl, c', fr, hc', by omega, hfr, fun j a hja => ?_, fun hf => ?_⟩
      · by_cases hj1 : j < i
        · rw [List.append_assoc, List.getElem?_append_left (by simp; omega), List.getElem?_take, if_pos hj1] at hja
          obtain ⟨y, hy, hay⟩ := hcv j a hja
          exact ⟨y, by rw [ha _ (by omega)]; exact hy, hay⟩
        · by_cases hj2 : j < i + v.cells.length
          · have hmin : min i cs.length = i := by omega
            rw [List.append_assoc, List.getElem?_append_right (by simp; omega), List.length_take, hmin, List.getElem?_append_left (by omega)] at hja
            obtain ⟨y, hy, hay⟩ := VRs_get hcells hja
            refine ⟨y, ?_, hay⟩
            have := hbd (j - i) y hy
            rwa [show p.off + i + (j - i) = p.off + j by omega] at this
          · have hmin : min i cs.length = i := by omega
            rw [List.getElem?_append_right (by simp; omega)] at hja
            simp only [List.length_append, List.length_take, hmin, List.getElem?_drop] at hja
            rw [show i + v.cells.length + (j - (i + v.cells.length)) = j by omega] at hja
            obtain ⟨y, hy, hay⟩ := hcv j a hja
            exact ⟨y, by rw [hd _ (by omega)]; exact hy, hay⟩
      · obtain ⟨h1, h2, h3, h4⟩ := hfix hf
        exact ⟨h1, by omega, by omega, by rw [hs']; exact h4⟩
end
end Go.Ab
