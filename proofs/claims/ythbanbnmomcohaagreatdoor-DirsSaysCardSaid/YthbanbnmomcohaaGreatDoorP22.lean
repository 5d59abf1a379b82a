/- dirs: element, State, Scan. -/
import Derived.Test.YthbanbnmomcohaaGreatDoorP21
set_option maxRecDepth 10000
noncomputable section
namespace Go.Ab.Dirs
open Go Go.Ab

/-- Is a node an element of a right tree? -/
def elemS (t : List ND) (i : Int) : Bool := decide (0 < i) && (decide (i < (t.length : Int)) && (decide ((t.getD i.toNat dN).kind = 1) && rightS t))

theorem element_ok {σ : St} {t : List ND} {tv : AVal} (ht : TreeI σ tv t) (hwf : ∀ n ∈ t, NWF n) (i : Int) :
    ∃ σ', Fr σ σ' ∧ Cw TS false 27 [tv, .int .i64 i] σ = some (.bool (elemS t i), σ') := by
  have hl := ht.len
  rw [Cw_of fn27 false _ σ rfl]
  by_cases c1 : 0 < i
  · by_cases c2 : i < (t.length : Int)
    · obtain ⟨k, rfl⟩ : ∃ k : Nat, i = (k : Int) := ⟨i.toNat, by omega⟩
      have hk : k < t.length := by omega
      obtain ⟨av, kv, x1, x2⟩ := ht.get hk
      have x1 := x1 .i64
      by_cases c3 : (t[k].kind : Int) = 1
      · obtain ⟨σ', hf, hR⟩ := Right_ok ht hwf
        have d3 : decide ((t.getD ((k : Int)).toNat dN).kind = 1) = true := by rw [Int.toNat_natCast, getD_at hk]; simp; omega
        have c3' := eq_true c3
        cases hr : rightS t with
        | true =>
          rw [hr, if_pos rfl] at hR
          have he : elemS t (k : Int) = true := by unfold elemS; rw [d3, hr]; simp [c2]; omega
          simp only [c27, sC, reduceIte, Nat.reduceEqDiff, stepOp, opMov, opPick, opArith, arith, sO, reduceCtorEq, sF, Nat.reduceAdd, opIaSl_s, opFieldAddr_s, opLoad_s, hl, c1, c2, x1, x2.f0, x2.l0, c3', opCall, argsOf, hR, he]
          exact ⟨_, hf, rfl⟩
        | false =>
          rw [hr, if_neg (by decide)] at hR
          have he : elemS t (k : Int) = false := by unfold elemS; rw [hr]; simp
          simp only [c27, sC, reduceIte, Nat.reduceEqDiff, stepOp, opMov, opPick, opArith, arith, sO, Int.reduceEq, reduceCtorEq, sF, Nat.reduceAdd, opIaSl_s, opFieldAddr_s, opLoad_s, hl, c1, c2, x1, x2.f0, x2.l0, c3', opCall, argsOf, hR, he]
          exact ⟨_, hf, rfl⟩
      · have d3 : decide ((t.getD ((k : Int)).toNat dN).kind = 1) = false := by rw [Int.toNat_natCast, getD_at hk]; simp; omega
        have he : elemS t (k : Int) = false := by unfold elemS; rw [d3]; simp
        simp only [c27, sC, reduceIte, Nat.reduceEqDiff, stepOp, undefA, opMov, opPick, opArith, arith, sO, reduceCtorEq, sF, Nat.reduceAdd, opIaSl_s, opFieldAddr_s, opLoad_s, hl, c1, c2, x1, x2.f0, x2.l0, c3, he]
        exact ⟨_, Fr.refl _, rfl⟩
    · have he : elemS t i = false := by unfold elemS; rw [decide_eq_false c2]; simp
      simp only [c27, sC, reduceIte, Nat.reduceEqDiff, stepOp, undefA, opMov, opPick, opArith, arith, sO, reduceCtorEq, sF, Nat.reduceAdd, hl, c1, c2, he]
      exact ⟨_, Fr.refl _, rfl⟩
  · have he : elemS t i = false := by unfold elemS; rw [decide_eq_false c1]; simp
    simp only [c27, sC, reduceIte, Nat.reduceEqDiff, stepOp, undefA, opMov, opPick, opArith, arith, sO, reduceCtorEq, sF, Nat.reduceAdd, c1, he]
    exact ⟨_, Fr.refl _, rfl⟩

/-! A right tree's children. -/
structure InvF (t : List ND) (i : Nat) (path cnt : List Nat) : Prop where
  pos : ∀ p ∈ path, p < i ∨ p = 0
  clen : cnt.length = t.length
  cnt : ∀ u, u < t.length → ∀ j, j < cnt.getD u 0 → ∃ z : Nat, (t.getD u dN).kids.getD j 0 = (z : Int) ∧ u < z ∧ z < i

theorem InvF.step {t : List ND} {i : Nat} {path cnt : List Nat} (h : InvF t i path cnt) (_hi : i < t.length) {p c : List Nat} (hs : stepR t i path cnt = some (p, c)) :
    InvF t (i + 1) p c ∧ ∃ q, fitsS t q i (t.getD i dN) = true ∧ (i ≠ 0 → q = popS (t.getD i dN).up path ∧ q ≠ []) := by
  unfold stepR at hs
  split at hs
  · split at hs
    · rename_i h0 hf
      cases hs
      refine ⟨⟨fun p hp => ?_, h.clen, fun u hu j hj => ?_⟩, _, hf, fun hh => absurd h0 hh⟩
      · rcases h.pos p hp with h1 | h1
        · left; omega
        · right; exact h1
      · obtain ⟨z, h1, h2, h3⟩ := h.cnt u hu j hj
        exact ⟨z, h1, h2, by omega⟩
    · simp at hs
  · split at hs
    · rename_i h0 hc
      split at hs
      · rename_i hf
        cases hs
        obtain ⟨c1, c2, c3⟩ := hc
        refine ⟨?_, _, hf, fun _ => ⟨rfl, c1⟩⟩
        obtain ⟨l, q, e1, e2⟩ := popS_last _ _ c1
        obtain ⟨k, hk⟩ := popS_take (t.getD i dN).up path
        have hqi : (t.getD i dN).up.toNat < i := by
          have : q ∈ popS (t.getD i dN).up path := by rw [e1]; simp
          rw [hk] at this
          rcases h.pos q (List.mem_of_mem_take this) with h1 | h1 <;> omega
        refine ⟨fun p hp => ?_, by simp [h.clen], fun u hu j hj => ?_⟩
        · rw [List.mem_append] at hp
          rcases hp with hp | hp
          · rw [hk] at hp
            rcases h.pos p (List.mem_of_mem_take hp) with h1 | h1
            · left; omega
            · right; exact h1
          · simp at hp; left; omega
        · by_cases e : u = (t.getD i dN).up.toNat
          · subst e
            have hg : (cnt.set (t.getD i dN).up.toNat (cnt.getD (t.getD i dN).up.toNat 0 + 1)).getD (t.getD i dN).up.toNat 0 = cnt.getD (t.getD i dN).up.toNat 0 + 1 := by
              rw [List.getD_eq_getElem?_getD, List.getElem?_set_self (by rw [h.clen]; exact hu)]; rfl
            rw [hg] at hj
            by_cases ej : j = cnt.getD (t.getD i dN).up.toNat 0
            · subst ej; exact ⟨i, c3, hqi, by omega⟩
            · obtain ⟨z, h1, h2, h3⟩ := h.cnt _ hu j (by omega)
              exact ⟨z, h1, h2, by omega⟩
          · have hg : (cnt.set (t.getD i dN).up.toNat (cnt.getD (t.getD i dN).up.toNat 0 + 1)).getD u 0 = cnt.getD u 0 := by
              rw [List.getD_eq_getElem?_getD, List.getElem?_set_ne (Ne.symm e), ← List.getD_eq_getElem?_getD]
            rw [hg] at hj
            obtain ⟨z, h1, h2, h3⟩ := h.cnt u hu j hj
            exact ⟨z, h1, h2, by omega⟩
      · simp at hs
    · simp at hs

theorem rightG_facts (t : List ND) : ∀ (m i : Nat) (path cnt cnt' : List Nat), i + m = t.length → InvF t i path cnt → rightG t m i path cnt = some cnt' →
    (∃ path', InvF t t.length path' cnt') ∧ ∀ j, i ≤ j → j < t.length → ∃ q, fitsS t q j (t.getD j dN) = true
  | 0, i, path, cnt, cnt', hm, hv, hg => by
    simp only [rightG, Option.some.injEq] at hg
    subst hg
    have : i = t.length := by omega
    subst this
    exact ⟨⟨path, hv⟩, fun j h1 h2 => by omega⟩
  | m + 1, i, path, cnt, cnt', hm, hv, hg => by
    rw [rightG] at hg
    cases hs : stepR t i path cnt with
    | none => rw [hs] at hg; simp at hg
    | some pc =>
      obtain ⟨p, c⟩ := pc
      rw [hs] at hg
      obtain ⟨hv', q, hq, -⟩ := hv.step (by omega) hs
      obtain ⟨h1, h2⟩ := rightG_facts t m (i + 1) p c cnt' (by omega) hv' hg
      refine ⟨h1, fun j hj1 hj2 => ?_⟩
      by_cases e : j = i
      · subst e; exact ⟨q, hq⟩
      · exact h2 j (by omega) hj2

theorem finS_all (t : List ND) (cnt : List Nat) : ∀ (m i : Nat), finS t cnt m i = true → ∀ j, i ≤ j → j < i + m → cnt.getD j 0 = (t.getD j dN).kids.length
  | 0, i, _, j, h1, h2 => by omega
  | m + 1, i, h, j, h1, h2 => by
    rw [finS, Bool.and_eq_true, decide_eq_true_eq] at h
    by_cases e : j = i
    · subst e; exact h.1
    · exact finS_all t cnt m (i + 1) h.2 j (by omega) (by omega)

theorem right_facts {t : List ND} (h : rightS t = true) : KidsT t ∧ (∀ j, j < t.length → ∃ q, fitsS t q j (t.getD j dN) = true) ∧ 0 < t.length ∧ t.length ≤ 16384 := by
  unfold rightS at h
  rw [Bool.and_eq_true] at h
  obtain ⟨h1, h2⟩ := h
  have hlen : 0 < t.length ∧ t.length ≤ 16384 := by
    unfold headS at h1
    simp only [Bool.and_eq_true, decide_eq_true_eq] at h1
    omega
  cases hg : rightG t t.length 0 [0] (List.replicate t.length 0) with
  | none => rw [hg] at h2; simp at h2
  | some cnt =>
    rw [hg] at h2
    simp only at h2
    have hv : InvF t 0 [0] (List.replicate t.length 0) := by
      refine ⟨fun p hp => by simp at hp; exact .inr hp, by simp, fun u hu j hj => ?_⟩
      have : (List.replicate t.length 0).getD u 0 = 0 := by rw [getD_at (by simpa using hu)]; simp
      omega
    obtain ⟨⟨path', hv'⟩, hq⟩ := rightG_facts t t.length 0 [0] _ cnt (by omega) hv hg
    refine ⟨?_, fun j hj => hq j (Nat.zero_le _) hj, hlen.1, hlen.2⟩
    intro i hi z hz
    obtain ⟨j, hj, rfl⟩ := List.getElem_of_mem hz
    have hf := finS_all t cnt t.length 0 h2 i (Nat.zero_le _) (by omega)
    obtain ⟨k, k1, k2, k3⟩ := hv'.cnt i hi j (by omega)
    rw [getD_at hj] at k1
    exact ⟨k, k1, k2, k3⟩

theorem elem_facts {t : List ND} {i : Int} (h : elemS t i = true) : ∃ k : Nat, i = (k : Int) ∧ 0 < k ∧ k < t.length ∧ (t.getD k dN).kind = 1 ∧ rightS t = true := by
  unfold elemS at h
  simp only [Bool.and_eq_true, decide_eq_true_eq] at h
  obtain ⟨h1, h2, h3, h4⟩ := h
  exact ⟨i.toNat, by omega, by omega, by omega, h3, h4⟩

/-- State, Scan as they are told. -/
def StateS (t : List ND) (i : Int) : Nat := if elemS t i then stateS (t.getD i.toNat dN).attrs else 0
def ScanS (t : List ND) (i : Int) : Option Nat := if elemS t i then scanS t i.toNat else none

theorem State_ok {σ : St} {t : List ND} {tv : AVal} (ht : TreeI σ tv t) (hwf : ∀ n ∈ t, NWF n) (i : Int) :
    ∃ σ', Fr σ σ' ∧ Cw TS false 15 [tv, .int .i64 i] σ = some (.int .u8 (StateS t i : Int), σ') := by
  obtain ⟨σ1, hf1, hE⟩ := element_ok ht hwf i
  rw [Cw_of fn15 false _ σ rfl]
  cases he : elemS t i with
  | false =>
    rw [he] at hE
    have hs : StateS t i = 0 := by unfold StateS; rw [he]; rfl
    simp only [c15, sC, reduceIte, Nat.reduceEqDiff, stepOp, opMov, opNot, sO, reduceCtorEq, sF, Nat.reduceAdd, opCall, argsOf, hE, hs]
    exact ⟨_, hf1, rfl⟩
  | true =>
    rw [he] at hE
    obtain ⟨k, rfl, hk0, hk, -, -⟩ := elem_facts he
    obtain ⟨av, kv, x1, x2⟩ := (ht.fr hf1).get hk
    have x1 := x1 .i64
    have hn := hwf t[k] (List.getElem_mem _)
    obtain ⟨σ2, hf2, hs⟩ := state_ok (a := .int .u8 (t[k].kind : Int)) (b := .str t[k].name) (c := .str t[k].data) (d := .int .i64 t[k].up) (f := kv) t[k].attrs σ1 hn.alen hn.attrs x2.attrs
    have hS : StateS t (k : Int) = stateS t[k].attrs := by unfold StateS; rw [he, if_pos rfl, Int.toNat_natCast, getD_at hk]
    simp only [c15, sC, reduceIte, Nat.reduceEqDiff, stepOp, opMov, opNot, sO, reduceCtorEq, sF, Nat.reduceAdd, opIaSl_s, opLoad_s, opCall, argsOf, hE, x1, x2.ld, hs, hS]
    exact ⟨_, hf1.trans hf2, rfl⟩

theorem Scan_ok {σ : St} {t : List ND} {tv : AVal} (ht : TreeI σ tv t) (hwf : ∀ n ∈ t, NWF n) (i : Int) :
    ∃ σ', Fr σ σ' ∧ Cw TS false 16 [tv, .int .i64 i] σ = some (wayV (ScanS t i), σ') := by
  obtain ⟨σ1, hf1, hE⟩ := element_ok ht hwf i
  rw [Cw_of fn16 false _ σ rfl]
  cases he : elemS t i with
  | false =>
    rw [he] at hE
    have hs : ScanS t i = none := by unfold ScanS; rw [he]; rfl
    simp only [c16, sC, reduceIte, Nat.reduceEqDiff, stepOp, opMov, opNot, sO, reduceCtorEq, sF, Nat.reduceAdd, opCall, argsOf, hE, hs]
    exact ⟨_, hf1, rfl⟩
  | true =>
    rw [he] at hE
    obtain ⟨k, rfl, hk0, hk, -, hr⟩ := elem_facts he
    obtain ⟨σ2, hf2, hs⟩ := scan_ok (ht.fr hf1) hwf (right_facts hr).1 hk
    have hS : ScanS t (k : Int) = scanS t k := by unfold ScanS; rw [he, if_pos rfl, Int.toNat_natCast]
    rw [hS]
    simp only [c16, sC, reduceIte, Nat.reduceEqDiff, stepOp, opMov, opNot, sO, reduceCtorEq, sF, Nat.reduceAdd, opCall, argsOf, hE, hs, wayV, opExtract, dropX_zero, dropX_1]
    exact ⟨_, hf1.trans hf2, rfl⟩
end Go.Ab.Dirs
end
