/- tree.Right: its main loop. -/
import Derived.Test.YthbanbnmomcohaaGreatDoorP13
set_option maxRecDepth 10000
noncomputable section
namespace Go.Ab.Dirs
open Go Go.Ab

def bsS (σ : St) (e : TypeId) (s len : Nat) (z : List AVal) (parts : List (Nat × Nat × AVal)) : Option (AVal × St) :=
  match fillL parts 0 z with
  | some cs => some (.slice σ.next 0 len s, σ.new (.cells true e cs))
  | none => none
theorem opBuildSlice_s {T : Tab} {q : Bool} {e : TypeId} {s len : Nat} {z : List AVal} {parts : List (Nat × Nat × Opd)} {env : Env} {σ : St} : opBuildSlice T q e s len z parts env σ = (if q then none else bsS σ e s len z (parts.map fun p => (p.1, p.2.1, p.2.2.ev T env))) := by
  unfold opBuildSlice bsS
  simp only [St.newK_eq]
  rfl
theorem fillL_int1 {k : IntKind} {n : Int} {z : AVal} : fillL [(0, 1, .int k n)] 0 [z] = some [.int k n] := by
  simp [fillL, cells_int, lenL_eq, takeX_zero, dropX_1]
def apS (σ : St) (e : TypeId) (s bytes : Nat) (x y : AVal) : Option (AVal × St) :=
    (match cellsIn σ s y with
    | some (0, _) => (match x with | .nils => some (.nils, σ) | .slice b i n s' => some (.slice b i n s', σ) | _ => none)
    | some (m + 1, new) =>
      (match x with
      | .nils => if (m + 1) * bytes ≤ 1099511627776 ∧ allOne new = true then some (.slice σ.next 0 (m + 1) s, σ.new (.cells false e new)) else none
      | .slice b i n s' =>
        if s = s' ∧ (n + (m + 1)) * bytes ≤ 1099511627776 ∧ allOne new = true then
          match σ.get b with
          | some (.cells _ e' cs) =>
            if e = e' then
              match sub cs i (n * s) with
              | some old => some (.slice σ.next 0 (n + (m + 1)) s, (σ.kill b).new (.cells false e (old ++ new)))
              | none => none
            else none
          | _ => none
        else none
      | _ => none)
    | none => none)
theorem opAppend_s {T : Tab} {q : Bool} {e : TypeId} {s bytes : Nat} {x y : Opd} {env : Env} {σ : St} : opAppend T q e s bytes x y env σ = (if q then none else apS σ e s bytes (x.ev T env) (y.ev T env)) := by
  unfold opAppend apS
  simp only [St.newK_eq, St.killK_eq]
  rfl

theorem ap_own {σ : St} {b c : Nat} {l : List Nat} {i : Nat} (h : OwnI σ b l) (hc : σ.get c = some (.cells true 3 [.int .i64 (i : Int)])) (hb : l.length < 1000000000) :
    ∃ σ', apS σ 3 1 8 (.slice b 0 l.length 1) (.slice c 0 1 1) = some (.slice σ.next 0 (l ++ [i]).length 1, σ') ∧ σ'.next = σ.next + 1 ∧ (∀ d, d < σ.next → d ≠ b → σ'.get d = σ.get d) ∧ OwnI σ' σ.next (l ++ [i]) ∧ (∀ σ0, Fr σ0 σ → σ0.next ≤ b → Fr σ0 σ') := by
  obtain ⟨h1, f, cs, h2, h3, h4⟩ := h
  have hci : cellsIn σ 1 (.slice c 0 1 1) = some (0 + 1, [.int .i64 (i : Int)]) := by
    simp only [cellsIn, hc, if_true]
    rw [sub_eq.2 ⟨by simp, rfl⟩]; rfl
  have hsub : sub cs 0 (l.length * 1) = some (l.map fun x : Nat => AVal.int .i64 (x : Int)) := by
    rw [sub_eq.2 ⟨by omega, rfl⟩]; simp [h4]
  refine ⟨(σ.kill b).new (.cells false 3 ((l.map fun x : Nat => AVal.int .i64 (x : Int)) ++ [.int .i64 (i : Int)])), ?_, rfl, ?_, ?_, ?_⟩
  · unfold apS
    simp only [hci, h2, hsub, if_true, allOne, one_int, Bool.and_true, and_true, true_and, Nat.zero_add, List.length_append, List.length_cons, List.length_nil]
    rw [if_pos (by omega)]
  · intro d hd hdb
    rw [St.get_new_other _ _ (by rw [St.kill_next]; omega), St.get_kill_other _ hdb]
  · refine ⟨Nat.lt_succ_self _, false, _, by rw [show σ.next = (σ.kill b).next from rfl, St.get_new_same], ?_, ?_⟩
    · simp
    · rw [List.take_of_length_le (by simp)]; simp
  · intro σ0 hf hb
    exact (hf.kill hb).trans (Fr.new _ _)

theorem popS_last (u : Int) (path : List Nat) (h : popS u path ≠ []) : ∃ (l : List Nat) (p : Nat), popS u path = l ++ [p] ∧ (p : Int) = u := by
  have key : ∀ (m : Nat) (path : List Nat), path.length = m → popS u path ≠ [] → ∃ (l : List Nat) (p : Nat), popS u path = l ++ [p] ∧ (p : Int) = u := by
    intro m
    induction m with
    | zero => intro path hm h; rw [List.eq_nil_of_length_eq_zero hm] at h; exact absurd rfl h
    | succ m ih =>
      intro path hm h
      rcases List.eq_nil_or_concat path with hh | ⟨l, p, hh⟩
      · subst hh; simp at hm
      · rw [List.concat_eq_append] at hh
        subst hh
        rw [popS_snoc] at h ⊢
        by_cases hp : (p : Int) = u
        · rw [if_pos hp]; exact ⟨l, p, rfl, hp⟩
        · rw [if_neg hp] at h ⊢
          exact ih l (by simp at hm; omega) h
  exact key _ path rfl h

theorem popS_take (u : Int) (path : List Nat) : ∃ k, popS u path = path.take k := by
  have key : ∀ (m : Nat) (path : List Nat), path.length = m → ∃ k, popS u path = path.take k := by
    intro m
    induction m with
    | zero => intro path hm; rw [List.eq_nil_of_length_eq_zero hm]; exact ⟨0, rfl⟩
    | succ m ih =>
      intro path hm
      rcases List.eq_nil_or_concat path with hh | ⟨l, p, hh⟩
      · subst hh; simp at hm
      · rw [List.concat_eq_append] at hh
        subst hh
        rw [popS_snoc]
        by_cases hp : (p : Int) = u
        · rw [if_pos hp]; exact ⟨l.length + 1, by rw [List.take_of_length_le (by simp)]⟩
        · rw [if_neg hp]
          obtain ⟨k, hk⟩ := ih l (by simp at hm; omega)
          refine ⟨min k l.length, ?_⟩
          rw [hk, List.take_append_of_le_length (Nat.min_le_right _ _)]
          rcases Nat.le_total k l.length with h | h
          · rw [Nat.min_eq_left h]
          · rw [Nat.min_eq_right h, List.take_of_length_le h, List.take_length]
  exact key _ path rfl

theorem idxS_le (x : Int) : ∀ (l : List Int) (k i : Nat), l[k]? = some x → ∃ j, i ≤ j ∧ j ≤ i + k ∧ idxS x l i = ((j : Nat) : Int)
  | [], k, i, h => by simp at h
  | y :: l, 0, i, h => by
    simp at h; subst h
    exact ⟨i, Nat.le_refl _, Nat.le_refl _, by simp [idxS]⟩
  | y :: l, k + 1, i, h => by
    unfold idxS
    by_cases hy : x = y
    · rw [if_pos hy]; exact ⟨i, Nat.le_refl _, by omega, rfl⟩
    · rw [if_neg hy]
      obtain ⟨j, h1, h2, h3⟩ := idxS_le x l k (i + 1) (by simpa using h)
      exact ⟨j, by omega, by omega, h3⟩

abbrev dN : ND := ⟨0, [], [], [], 0, []⟩
/-- One turn. -/
def stepR (t : List ND) (i : Nat) (path cnt : List Nat) : Option (List Nat × List Nat) :=
  if i = 0 then (if fitsS t path i (t.getD i dN) = true then some (path, cnt) else none)
  else
    if popS (t.getD i dN).up path ≠ [] ∧ cnt.getD (t.getD i dN).up.toNat 0 < (t.getD (t.getD i dN).up.toNat dN).kids.length ∧ (t.getD (t.getD i dN).up.toNat dN).kids.getD (cnt.getD (t.getD i dN).up.toNat 0) 0 = (i : Int) then
      if fitsS t (popS (t.getD i dN).up path) i (t.getD i dN) = true then some (popS (t.getD i dN).up path ++ [i], cnt.set (t.getD i dN).up.toNat (cnt.getD (t.getD i dN).up.toNat 0 + 1)) else none
    else none
def rightG (t : List ND) : Nat → Nat → List Nat → List Nat → Option (List Nat)
  | 0, _, _, cnt => some cnt
  | m + 1, i, path, cnt => match stepR t i path cnt with | some pc => rightG t m (i + 1) pc.1 pc.2 | none => none

/-- What holds from turn to turn. -/
structure InvR (t : List ND) (i : Nat) (path cnt : List Nat) : Prop where
  pos : 0 < path.length
  mem : ∀ p ∈ path, p < t.length
  len : path.length ≤ i + 1
  clen : cnt.length = t.length
  cnt : ∀ u, u < t.length → cnt.getD u 0 ≤ (t.getD u dN).kids.length ∧ ∀ j, j < cnt.getD u 0 → ∃ z : Nat, (t.getD u dN).kids.getD j 0 = (z : Int) ∧ z < t.length

theorem getD_at {α : Type} {l : List α} {i : Nat} (h : i < l.length) (d : α) : l.getD i d = l[i] := by
  rw [List.getD_eq_getElem?_getD, List.getElem?_eq_getElem h, Option.getD_some]

theorem InvR.step {t : List ND} {i : Nat} {path cnt : List Nat} (h : InvR t i path cnt) (hi : i < t.length) {p c : List Nat} (hs : stepR t i path cnt = some (p, c)) : InvR t (i + 1) p c := by
  unfold stepR at hs
  split at hs
  · split at hs
    · cases hs; exact ⟨h.pos, h.mem, Nat.le_succ_of_le h.len, h.clen, h.cnt⟩
    · simp at hs
  · split at hs
    · rename_i h0 hc
      split at hs
      · cases hs
        obtain ⟨c1, c2, c3⟩ := hc
        obtain ⟨l, q, e1, e2⟩ := popS_last _ _ c1
        have hsub := popS_take (t.getD i dN).up path
        obtain ⟨k, hk⟩ := hsub
        have hu : (t.getD i dN).up.toNat < t.length := by
          have : q ∈ path := by
            have : q ∈ popS (t.getD i dN).up path := by rw [e1]; simp
            rw [hk] at this; exact List.mem_of_mem_take this
          have := h.mem q this
          omega
        refine ⟨by simp, ?_, ?_, by simp [h.clen], ?_⟩
        · intro p hp
          rw [List.mem_append] at hp
          rcases hp with hp | hp
          · rw [hk] at hp; exact h.mem p (List.mem_of_mem_take hp)
          · simp at hp; omega
        · rw [hk]; have := h.len; simp; omega
        · intro u hu'
          by_cases e : u = (t.getD i dN).up.toNat
          · subst e
            have hg : (cnt.set (t.getD i dN).up.toNat (cnt.getD (t.getD i dN).up.toNat 0 + 1)).getD (t.getD i dN).up.toNat 0 = cnt.getD (t.getD i dN).up.toNat 0 + 1 := by
              rw [List.getD_eq_getElem?_getD, List.getElem?_set_self (by rw [h.clen]; exact hu)]; rfl
            rw [hg]
            refine ⟨by omega, ?_⟩
            intro j hj
            by_cases ej : j = cnt.getD (t.getD i dN).up.toNat 0
            · subst ej; exact ⟨i, c3, hi⟩
            · exact (h.cnt _ hu).2 j (by omega)
          · have hg : (cnt.set (t.getD i dN).up.toNat (cnt.getD (t.getD i dN).up.toNat 0 + 1)).getD u 0 = cnt.getD u 0 := by
              rw [List.getD_eq_getElem?_getD, List.getElem?_set_ne (Ne.symm e), ← List.getD_eq_getElem?_getD]
            rw [hg]; exact h.cnt u hu'
      · simp at hs
    · simp at hs
end Go.Ab.Dirs
end
