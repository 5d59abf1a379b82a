/- DirsSays: what its trees are. -/
import Derived.Test.YthbanbnmomcohaaGreatDoorP27
import Derived.Test.YthbanbnmomcohaaGreatDoorP25b
set_option maxRecDepth 10000
noncomputable section
namespace Go.Ab.Dirs
open Go Go.Ab

theorem nmS_getD (t : List ND) (p : Nat) : nmS t p = (t.getD p dN).name := by
  unfold nmS
  rw [List.getD_eq_getElem?_getD]
  cases t[p]? <;> rfl
theorem kdS_getD (t : List ND) (z : Int) : kdS t z = (t.getD z.toNat dN).kind := by
  unfold kdS
  rw [List.getD_eq_getElem?_getD]
  cases t[z.toNat]? <;> rfl

/-- The same but for attributes. -/
structure SameA (t t' : List ND) : Prop where
  len : t'.length = t.length
  kind : ∀ j, (t'.getD j dN).kind = (t.getD j dN).kind
  name : ∀ j, (t'.getD j dN).name = (t.getD j dN).name
  data : ∀ j, (t'.getD j dN).data = (t.getD j dN).data
  up : ∀ j, (t'.getD j dN).up = (t.getD j dN).up
  kids : ∀ j, (t'.getD j dN).kids = (t.getD j dN).kids

section
variable {t t' : List ND}
theorem SameA.nest (h : SameA t t') (k : Nat) (path : List Nat) : ∀ (i : Nat) (fr : Bool), nestG t' k path i fr = nestG t k path i fr
  | 0, _ => rfl
  | i + 1, fr => by
    rw [nestG, nestG, nmS_getD, nmS_getD, h.name, h.nest k path i]
theorem SameA.nested (h : SameA t t') (path name : List Nat) : nestedS t' path name = nestedS t path name := by
  unfold nestedS
  rw [nmS_getD, nmS_getD, h.name, h.nest]

/-- Where each node may stand as well, a tree is as right. -/
theorem SameA.step (h : SameA t t') (hf : ∀ q j, fitsS t q j (t.getD j dN) = true → fitsS t' q j (t'.getD j dN) = true) {i : Nat} {p c : List Nat} {x : List Nat × List Nat} (hs : stepR t i p c = some x) : stepR t' i p c = some x := by
  unfold stepR at hs ⊢
  rw [h.up, h.kids]
  split at hs
  · rename_i h0
    rw [if_pos h0]
    split at hs
    · rename_i h1; rw [if_pos (hf _ _ h1)]; exact hs
    · simp at hs
  · rename_i h0
    rw [if_neg h0]
    split at hs
    · rename_i h1
      rw [if_pos h1]
      split at hs
      · rename_i h2; rw [if_pos (hf _ _ h2)]; exact hs
      · simp at hs
    · simp at hs
theorem SameA.go (h : SameA t t') (hf : ∀ q j, fitsS t q j (t.getD j dN) = true → fitsS t' q j (t'.getD j dN) = true) : ∀ (m i : Nat) (p c cnt : List Nat), rightG t m i p c = some cnt → rightG t' m i p c = some cnt
  | 0, _, _, _, _, hg => hg
  | m + 1, i, p, c, cnt, hg => by
    rw [rightG] at hg ⊢
    cases hs : stepR t i p c with
    | none => rw [hs] at hg; simp at hg
    | some x =>
      rw [hs] at hg
      rw [h.step hf hs]
      exact h.go hf m (i + 1) x.1 x.2 cnt hg
theorem SameA.fin (h : SameA t t') (cnt : List Nat) : ∀ (m i : Nat), finS t' cnt m i = finS t cnt m i
  | 0, _ => rfl
  | m + 1, i => by rw [finS, finS, h.kids, h.fin cnt m]
theorem SameA.right (h : SameA t t') (hf : ∀ q j, fitsS t q j (t.getD j dN) = true → fitsS t' q j (t'.getD j dN) = true) (hr : rightS t = true) : rightS t' = true := by
  unfold rightS at hr ⊢
  have hh : headS t' = headS t := by unfold headS; rw [h.len, h.kind, h.up]
  rw [hh, h.len]
  rw [Bool.and_eq_true] at hr ⊢
  refine ⟨hr.1, ?_⟩
  cases hg : rightG t t.length 0 [0] (List.replicate t.length 0) with
  | none => rw [hg] at hr; simp at hr
  | some cnt =>
    rw [hg] at hr
    rw [h.go hf _ _ _ _ _ hg]
    simp only at hr ⊢
    rw [h.fin]
    exact hr.2
end

/-- A tree with one node's attributes changed. -/
def withA (t : List ND) (i : Nat) (w : List Nat) : List ND := t.set i { t.getD i dN with attrs := [([100, 105, 114], w)] }
theorem withA_len (t : List ND) (i : Nat) (w : List Nat) : (withA t i w).length = t.length := List.length_set
theorem withA_at {t : List ND} {i : Nat} (hi : i < t.length) (w : List Nat) : (withA t i w).getD i dN = { t.getD i dN with attrs := [([100, 105, 114], w)] } := by
  unfold withA
  rw [List.getD_eq_getElem?_getD, List.getElem?_set_self hi]; rfl
theorem withA_ne {t : List ND} {i j : Nat} (h : j ≠ i) (w : List Nat) : (withA t i w).getD j dN = t.getD j dN := by
  unfold withA
  rw [List.getD_eq_getElem?_getD, List.getElem?_set_ne (Ne.symm h), ← List.getD_eq_getElem?_getD]
theorem withA_same {t : List ND} {i : Nat} (hi : i < t.length) (w : List Nat) : SameA t (withA t i w) := by
  have key : ∀ {α : Type} (f : ND → α) (j : Nat), (∀ n a, f { n with attrs := a } = f n) → f ((withA t i w).getD j dN) = f (t.getD j dN) := by
    intro α f j hf
    by_cases h : j = i
    · subst h; rw [withA_at hi, hf]
    · rw [withA_ne h]
  exact ⟨withA_len _ _ _, fun j => key _ j fun _ _ => rfl, fun j => key _ j fun _ _ => rfl, fun j => key _ j fun _ _ => rfl, fun j => key _ j fun _ _ => rfl, fun j => key _ j fun _ _ => rfl⟩

theorem withA_right {t : List ND} {i : Nat} (hi : i < t.length) {w : List Nat} (ha : attrsS [([100, 105, 114], w)] = true) (hk : (t.getD i dN).kind = 1) (hr : rightS t = true) : rightS (withA t i w) = true := by
  have hS := withA_same hi w
  refine hS.right (fun q j hq => ?_) hr
  have hup : ∀ q, upBad (upOf (withA t i w) q) = upBad (upOf t q) := by
    intro q
    show upBad ((withA t i w).getD _ dN) = upBad (t.getD _ dN)
    unfold upBad
    rw [hS.kind, hS.name]
  have hpr : ∀ q j, prevS (withA t i w) (upOf (withA t i w) q) j = prevS t (upOf t q) j := by
    intro q j
    show prevS (withA t i w) ((withA t i w).getD _ dN) j = prevS t (t.getD _ dN) j
    unfold prevS
    rw [hS.kids, kdS_getD, kdS_getD, hS.kind]
  unfold fitsS at hq ⊢
  by_cases h0 : j = 0
  · rw [if_pos h0] at hq ⊢
    have hji : j ≠ i := by
      intro e
      have := head_kind hr
      rw [← e, h0] at hk; omega
    rw [withA_ne hji]; exact hq
  · rw [if_neg h0] at hq ⊢
    rw [hup, hpr, hS.kind, hS.data]
    split at hq
    · simp at hq
    · rename_i hub
      rw [if_neg hub]
      split at hq
      · rename_i h2
        rw [if_pos h2]
        have hji : j ≠ i := by intro e; rw [e] at h2; omega
        rw [withA_ne hji]; exact hq
      · rename_i h2
        rw [if_neg h2]
        split at hq
        · rename_i h1
          rw [if_pos h1, hS.name, hS.nested]
          by_cases e : j = i
          · subst e
            rw [withA_at hi]
            simp only [Bool.and_eq_true] at hq ⊢
            exact ⟨hq.1, hq.2.1, ha, hq.2.2.2.1, hq.2.2.2.2⟩
          · rw [withA_ne e]; exact hq
        · simp at hq

/-- A child's parent is its parent. -/
def InvU (t : List ND) (cnt : List Nat) : Prop := cnt.length = t.length ∧ ∀ u, u < t.length → ∀ j, j < cnt.getD u 0 → ∃ z : Nat, (t.getD u dN).kids.getD j 0 = (z : Int) ∧ (t.getD z dN).up = (u : Int)
theorem InvU.step {t : List ND} {i : Nat} {path cnt : List Nat} (h : InvU t cnt) (hp : ∀ p ∈ path, p < t.length) {p c : List Nat} (hs : stepR t i path cnt = some (p, c)) : InvU t c := by
  unfold stepR at hs
  split at hs
  · split at hs
    · cases hs; exact h
    · simp at hs
  · split at hs
    · rename_i h0 hc
      split at hs
      · cases hs
        obtain ⟨c1, c2, c3⟩ := hc
        obtain ⟨l, q, e1, e2⟩ := popS_last _ _ c1
        obtain ⟨k, hk⟩ := popS_take (t.getD i dN).up path
        have hq : q < t.length := by
          have : q ∈ popS (t.getD i dN).up path := by rw [e1]; simp
          rw [hk] at this; exact hp q (List.mem_of_mem_take this)
        refine ⟨by simp [h.1], fun u hu j hj => ?_⟩
        by_cases e : u = (t.getD i dN).up.toNat
        · have hg : (cnt.set (t.getD i dN).up.toNat (cnt.getD (t.getD i dN).up.toNat 0 + 1)).getD u 0 = cnt.getD (t.getD i dN).up.toNat 0 + 1 := by
            rw [← e, List.getD_eq_getElem?_getD, List.getElem?_set_self (by rw [h.1]; exact hu)]; rfl
          rw [hg] at hj
          by_cases ej : j = cnt.getD (t.getD i dN).up.toNat 0
          · refine ⟨i, ?_, ?_⟩
            · rw [e, ej]; exact c3
            · omega
          · have := h.2 u hu j (by rw [e]; omega)
            exact this
        · have hg : (cnt.set (t.getD i dN).up.toNat (cnt.getD (t.getD i dN).up.toNat 0 + 1)).getD u 0 = cnt.getD u 0 := by
            rw [List.getD_eq_getElem?_getD, List.getElem?_set_ne (Ne.symm e), ← List.getD_eq_getElem?_getD]
          rw [hg] at hj
          exact h.2 u hu j hj
      · simp at hs
    · simp at hs
theorem rightG_kidup (t : List ND) : ∀ (m i : Nat) (path cnt cnt' : List Nat), i + m = t.length → InvF t i path cnt → InvU t cnt → (∀ p ∈ path, p < t.length) → rightG t m i path cnt = some cnt' → InvU t cnt'
  | 0, i, path, cnt, cnt', hm, hv, hu, hp, hg => by
    simp only [rightG, Option.some.injEq] at hg
    subst hg; exact hu
  | m + 1, i, path, cnt, cnt', hm, hv, hu, hp, hg => by
    rw [rightG] at hg
    cases hs : stepR t i path cnt with
    | none => rw [hs] at hg; simp at hg
    | some pc =>
      obtain ⟨p, c⟩ := pc
      rw [hs] at hg
      obtain ⟨hv', -⟩ := hv.step (by omega) hs
      refine rightG_kidup t m (i + 1) p c cnt' (by omega) hv' (hu.step hp hs) (fun q hq => ?_) hg
      rcases hv'.pos q hq with h | h <;> omega
theorem right_kidup {t : List ND} (h : rightS t = true) {i j : Nat} (hi : i < t.length) (hz : (j : Int) ∈ t[i].kids) : (t.getD j dN).up = (i : Int) := by
  unfold rightS at h
  rw [Bool.and_eq_true] at h
  obtain ⟨h1, h2⟩ := h
  have hpos : 0 < t.length := by omega
  cases hg : rightG t t.length 0 [0] (List.replicate t.length 0) with
  | none => rw [hg] at h2; simp at h2
  | some cnt =>
    rw [hg] at h2
    simp only at h2
    have h0 : ∀ u, u < t.length → (List.replicate t.length 0).getD u 0 = 0 := fun u hu => by rw [getD_at (by simpa using hu)]; simp
    have hv : InvF t 0 [0] (List.replicate t.length 0) := ⟨fun p hp => by simp at hp; exact .inr hp, by simp, fun u hu j hj => by have := h0 u hu; omega⟩
    have hU : InvU t (List.replicate t.length 0) := ⟨by simp, fun u hu j hj => by have := h0 u hu; omega⟩
    have hU' := rightG_kidup t t.length 0 [0] _ cnt (by omega) hv hU (fun p hp => by simp at hp; omega) hg
    have hf := finS_all t cnt t.length 0 h2 i (Nat.zero_le _) (by omega)
    obtain ⟨c, hc, e⟩ := List.getElem_of_mem hz
    rw [getD_at hi] at hf
    obtain ⟨z, k1, k2⟩ := hU'.2 i hi c (by omega)
    rw [getD_at hi, getD_at hc, e] at k1
    have : z = j := by omega
    subst this
    exact k2

/-! The ways. -/
theorem allStep_ne {t : List ND} {i j : Nat} {out : List Nat} (h : j ≠ i) : (allStep t i out).getD j 0 = out.getD j 0 := by
  unfold allStep
  have e : ∀ (l : List Nat) (w : Nat), (l.set i w).getD j 0 = l.getD j 0 := fun l w => by rw [List.getD_eq_getElem?_getD, List.getElem?_set_ne (Ne.symm h), ← List.getD_eq_getElem?_getD]
  split
  · split
    · rw [e, e]
    · rw [e]
  · rw [e]
theorem allG_old (t : List ND) : ∀ (m i j : Nat) (out : List Nat), j < i → (allG t m i out).getD j 0 = out.getD j 0
  | 0, _, _, _, _ => rfl
  | m + 1, i, j, out, h => by rw [allG, allG_old t m (i + 1) j _ (by omega), allStep_ne (by omega)]
theorem allStep_at {t : List ND} {j : Nat} {out : List Nat} (h : j < out.length) : (allStep t j out).getD j 0 = (if (t.getD j dN).kind = 1 then (match sheetD t j with | some w => w | none => out.getD (t.getD j dN).up.toNat 0) else out.getD (t.getD j dN).up.toNat 0) := by
  have hs : ∀ (l : List Nat) (w : Nat), j < l.length → (l.set j w).getD j 0 = w := fun l w h => by rw [List.getD_eq_getElem?_getD, List.getElem?_set_self h]; rfl
  unfold allStep
  by_cases hk : (t.getD j dN).kind = 1
  · rw [if_pos hk, if_pos hk]
    cases sheetD t j with
    | some w => exact hs _ _ (by rw [List.length_set]; exact h)
    | none => exact hs _ _ h
  · rw [if_neg hk, if_neg hk]
    exact hs _ _ h
/-- What a node's way is: its own, or its parent's. -/
theorem allG_at (t : List ND) : ∀ (m i j : Nat) (out : List Nat), i + m ≤ out.length → i ≤ j → j < i + m → (t.getD j dN).up.toNat < j →
    (allG t m i out).getD j 0 = (if (t.getD j dN).kind = 1 then (match sheetD t j with | some w => w | none => (allG t m i out).getD (t.getD j dN).up.toNat 0) else (allG t m i out).getD (t.getD j dN).up.toNat 0)
  | 0, i, j, out, _, h1, h2, _ => by omega
  | m + 1, i, j, out, hl, h1, h2, hu => by
    rw [allG]
    by_cases e : j = i
    · subst e
      have e1 : (allG t m (j + 1) (allStep t j out)).getD (t.getD j dN).up.toNat 0 = out.getD (t.getD j dN).up.toNat 0 := by
        rw [allG_old t m (j + 1) _ _ (by omega), allStep_ne (by omega)]
      rw [e1, allG_old t m (j + 1) j _ (by omega)]
      exact allStep_at (by omega)
    · exact allG_at t m (i + 1) j _ (by rw [allStep_len]; omega) (by omega) (by omega) hu
theorem allS_at {t : List ND} (h : rightS t = true) {j : Nat} (hj : 0 < j) (hjt : j < t.length) :
    (allS t).getD j 0 = (if (t.getD j dN).kind = 1 then (match sheetD t j with | some w => w | none => (allS t).getD (t.getD j dN).up.toNat 0) else (allS t).getD (t.getD j dN).up.toNat 0) := by
  obtain ⟨u, hu, hui⟩ := right_up h hj hjt
  unfold allS
  refine allG_at t (t.length - 1) 1 j _ (by simp; omega) (by omega) (by omega) ?_
  rw [getD_at hjt, hu]; simpa using hui
end Go.Ab.Dirs
end
