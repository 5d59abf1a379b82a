/- The reference's right trees are the program's: nodes. -/
import Derived.Test.YthbanbnmomcohaaGreatDoorM29
import Derived.Test.YthbanbnmomcohaaGreatDoorM12
import Derived.KernelRfl
import Derived.Test.YthbanbnmomcohaaGreatDoorM19
import Derived.Test.YthbanbnmomcohaaGreatDoorM18
set_option linter.all false
set_option linter.unusedSimpArgs false
set_option maxRecDepth 100000
noncomputable section
namespace Go.Ab.Dirs
open Go Go.Ab

theorem nestG_app (t : List ND) (k : Nat) (p q : List Nat) : ∀ (i : Nat) (free : Bool), i < p.length → nestG t k (p ++ q) i free = nestG t k p i free
  | 0, free, h => rfl
  | i + 1, free, h => by
    rw [nestG, nestG]
    have e : (p ++ q).getD (i + 1) 0 = p.getD (i + 1) 0 := by
      rw [List.getD_eq_getElem?_getD, List.getElem?_append_left h, ← List.getD_eq_getElem?_getD]
    rw [e, nestG_app t k p q i _ (by omega)]
theorem nm_nd (t : List ND) (u : Nat) (h : u < t.length) : nmS t u = (t.getD u nd0).name := by rw [nmS_at h, getD_lt h]
theorem badR_S {k : Nat} {w : List Nat} {d : Nat} {free : Bool} (hd : d ≠ 1) : badR k w d free = badS k w free := by
  unfold badR badS
  rw [decide_eq_false (show ¬ ((d : Int) = 1) by omega)]
  have h6 : decide ((k : Int) = 6) = decide (k = 6) := by rw [Bool.eq_iff_iff]; simp; omega
  have h3 : decide ((k : Int) = 3) = decide (k = 3) := by rw [Bool.eq_iff_iff]; simp; omega
  rw [h6, h3]; simp
theorem badR_1 {k : Nat} {w : List Nat} {free : Bool} : badR k w 1 free = (badS k w free || (decide (k = 4) && decide (kindS w = 4))) := by
  unfold badR badS
  have h6 : decide ((k : Int) = 6) = decide (k = 6) := by rw [Bool.eq_iff_iff]; simp; omega
  have h3 : decide ((k : Int) = 3) = decide (k = 3) := by rw [Bool.eq_iff_iff]; simp; omega
  have h4 : decide ((k : Int) = 4) = decide (k = 4) := by rw [Bool.eq_iff_iff]; simp; omega
  have h5 : decide ((kindS w : Int) = 4) = decide (kindS w = 4) := by rw [Bool.eq_iff_iff]; simp; omega
  rw [h6, h3, h4, h5]
  have h7 : decide (((1 : Nat) : Int) = 1) = true := rfl
  rw [h7]
  cases endsS k <;> cases decide (w = [112]) <;> cases decide (k = 6) <;> cases decide (w = [97]) <;> cases decide (k = 4) <;> cases decide (kindS w = 4) <;> cases decide (k = 3) <;> cases decide (w = [108, 105]) <;> cases free <;> rfl
/-- The path to a node. -/
def pth (t : List ND) (u : Nat) : List Nat := (anc t u).reverse
theorem pth_zero (t : List ND) : pth t 0 = [0] := rfl
theorem pth_pos {t : List ND} {i k u : Nat} (hU : UpB t i) (hk : k < i) (h0 : 0 < k) (hu : (t.getD k nd0).up = (u : Int)) (hlt : u < k) : pth t k = pth t u ++ [k] := by
  unfold pth; rw [anc_pos hU hk h0 hu hlt, List.reverse_cons]
theorem pth_len {t : List ND} (u : Nat) : 0 < (pth t u).length := by
  unfold pth anc
  cases u with
  | zero => exact Nat.zero_lt_one
  | succ u => rw [ancR]; split <;> simp
theorem pth_last {t : List ND} {i : Nat} (hU : UpB t i) {u : Nat} (hu : u < i) : (pth t u).getD ((pth t u).length - 1) 0 = u := by
  rcases Nat.eq_zero_or_pos u with h | h
  · subst h; rfl
  · obtain ⟨u', h1, h2⟩ := hU u h hu
    rw [pth_pos hU hu h h1 h2]
    simp
theorem nest_eq {t : List ND} {i : Nat} (hU : UpB t i) (hi : i ≤ t.length) (k : Nat) : ∀ (u : Nat), u < i → ∀ (f d : Nat) (free : Bool), u < f → 0 < d → nestR t k f u d free = (nestG t k (pth t u) ((pth t u).length - 1) free && decide (d + ((pth t u).length - 1) < 200)) := by
  intro u
  induction u using Nat.strongRecOn with
  | ind u ih =>
    intro hu f d free hf hd
    obtain ⟨f, rfl⟩ : ∃ g, f = g + 1 := ⟨f - 1, by omega⟩
    rw [nestR]
    rcases Nat.eq_zero_or_pos u with h | h
    · subst h; rw [if_neg (by omega)]; simp [pth_zero, nestG]
    · obtain ⟨u', h1, h2⟩ := hU u h hu
      have hp := pth_len (t := t) u'
      rw [if_pos h, badR_S (by omega), pth_pos hU hu h h1 h2, List.length_append, List.length_singleton, Nat.add_sub_cancel]
      obtain ⟨m, hm⟩ : ∃ m, (pth t u').length = m + 1 := ⟨(pth t u').length - 1, by omega⟩
      have e : (pth t u' ++ [u]).getD (m + 1) 0 = u := by
        rw [List.getD_eq_getElem?_getD, List.getElem?_append_right (by omega), hm]; simp
      rw [hm, nestG, e, nm_nd t u (by omega)]
      split
      · simp
      · rw [h1, Int.toNat_natCast, ih u' h2 (by omega) f (d + 1) _ (by omega) (by omega), nestG_app t k (pth t u') [u] m _ (by omega), hm, Nat.add_sub_cancel, show d + 1 + m = d + (m + 1) by omega]
theorem nest_top {t : List ND} {i : Nat} (hU : UpB t i) (hi : i ≤ t.length) (h00 : (t.getD 0 nd0).name = []) (w : List Nat) {u : Nat} (hu : u < i) {f : Nat} (hf : u < f) : nestR t (kindS w) f u 0 false = (decide ((pth t u).length ≤ 200) && nestedS t (pth t u) w) := by
  obtain ⟨f, rfl⟩ : ∃ g, f = g + 1 := ⟨f - 1, by omega⟩
  rw [nestR, nestedS, pth_last hU hu, nm_nd t u (by omega)]
  rcases Nat.eq_zero_or_pos u with h | h
  · subst h
    have hk : kindS ([] : List Nat) = 0 := by decide
    rw [if_neg (by omega), h00, hk]; simp [pth_zero, nestG]
  · obtain ⟨u', h1, h2⟩ := hU u h hu
    have hp := pth_len (t := t) u'
    obtain ⟨m, hm⟩ : ∃ m, (pth t u').length = m + 1 := ⟨(pth t u').length - 1, by omega⟩
    have e : (pth t u' ++ [u]).getD (m + 1) 0 = u := by
      rw [List.getD_eq_getElem?_getD, List.getElem?_append_right (by omega), hm]; simp
    rw [if_pos h, badR_1, pth_pos hU hu h h1 h2, List.length_append, List.length_singleton, Nat.add_sub_cancel, hm, nestG, e, nm_nd t u (by omega), h1, Int.toNat_natCast, nest_eq hU hi (kindS w) u' (by omega) f 1 _ (by omega) (by omega), nestG_app t (kindS w) (pth t u') [u] m _ (by omega), hm, Nat.add_sub_cancel]
    have e2 : decide (1 + m < 200) = decide (m + 1 + 1 ≤ 200) := by rw [Bool.eq_iff_iff]; simp; omega
    rw [e2]
    generalize decide (m + 1 + 1 ≤ 200) = a
    generalize badS (kindS w) (t.getD u nd0).name false = b
    generalize nestG t (kindS w) (pth t u') m _ = c
    cases decide (kindS w = 4) <;> cases decide (kindS (t.getD u nd0).name = 4) <;> cases a <;> cases b <;> cases c <;> rfl

theorem popS_pth {t : List ND} {i u : Nat} (hi : i < t.length) (h0 : 0 < i) (hO : ∀ j, 0 < j → j < i → OkU t j) (hu : (t.getD i nd0).up = (u : Int)) :
    (u < i ∧ walkR t u i (i - 1) = u ∧ popS (t.getD i nd0).up (pathAt t i) = pth t u) ∨ (walkR t u i (i - 1) ≠ u ∧ popS (t.getD i nd0).up (pathAt t i) = []) := by
  have hU : UpB t i := fun j h1 h2 => by obtain ⟨u, h3, h4, _⟩ := (hO j h1 h2).up; exact ⟨u, h3, h4⟩
  rw [hu, popS, pathAt_anc i h0 (by omega) hO]
  rcases anc_drop hU u (i - 1) (by omega) i (by omega) with ⟨h1, h2, h3⟩ | ⟨h1, h2, h3⟩
  · left; have := anc_le hU (i - 1) (by omega) u h1; exact ⟨by omega, h2, by rw [h3]; rfl⟩
  · right; exact ⟨h2, by rw [h3]; rfl⟩
theorem popS_int {u : Int} {p : List Nat} (h : popS u p ≠ []) : ∃ v : Nat, u = (v : Int) := by
  obtain ⟨l, q, h1, h2⟩ := popS_last u p h; exact ⟨q, h2.symm⟩
theorem upOf_pth {t : List ND} {i u : Nat} (hU : UpB t i) (hu : u < i) : upOf t (pth t u) = t.getD u nd0 := by
  unfold upOf; rw [pth_last hU hu]

theorem idxS_first {x : Int} : ∀ (l : List Int) (i k : Nat), k < l.length → l.getD k 0 = x → (∀ j, j < k → l.getD j 0 ≠ x) → idxS x l i = ((i + k : Nat) : Int)
  | [], i, k, h, _, _ => by simp at h
  | y :: l, i, 0, h, h1, _ => by
    have : y = x := h1
    rw [idxS, if_pos this.symm]; simp
  | y :: l, i, k + 1, h, h1, h2 => by
    rw [idxS, if_neg (fun e => h2 0 (by omega) e.symm), idxS_first l (i + 1) k (by simpa using h) h1 (fun j hj => h2 (j + 1) (by omega))]
    rw [show i + 1 + k = i + (k + 1) by omega]
theorem kd_nd (t : List ND) (z : Nat) : kdS t (z : Int) = (t.getD z nd0).kind := by
  unfold kdS
  rw [Int.toNat_natCast, List.getD_eq_getElem?_getD]
  cases t[z]? <;> rfl
/-- Where a node stands among its parent's children. -/
theorem kid_idx {t : List ND} (hK : ∀ j, 0 < j → j < t.length → KidOK t j) (hA : ∀ j, j < t.length → (cntAt t t.length).getD j 0 = (t.getD j nd0).kids.length) {i u : Nat} (h0 : 0 < i) (hi : i < t.length) (hu : (t.getD i nd0).up.toNat = u) (hut : u < t.length) : idxS (i : Int) (t.getD u nd0).kids 0 = (((cntAt t i).getD u 0 : Nat) : Int) := by
  obtain ⟨k1, k2⟩ := hK i h0 hi
  rw [hu] at k1 k2
  have := idxS_first (x := (i : Int)) (t.getD u nd0).kids 0 ((cntAt t i).getD u 0) k1 k2 ?_
  · rwa [Nat.zero_add] at this
  · intro j hj he
    have hj2 : j < (cntAt t t.length).getD u 0 := by rw [hA u hut]; omega
    obtain ⟨z, _, _, h3, h4, h5⟩ := cnt_slot t.length hK (Nat.le_refl _) u j hj2
    rw [h5] at he
    have : z = i := by omega
    subst this; omega
theorem prev_iff {t : List ND} (hK : ∀ j, 0 < j → j < t.length → KidOK t j) (hA : ∀ j, j < t.length → (cntAt t t.length).getD j 0 = (t.getD j nd0).kids.length) {i u : Nat} (h0 : 0 < i) (hi : i < t.length) (hu : (t.getD i nd0).up.toNat = u) (hut : u < t.length) :
    prevS t (t.getD u nd0) i = true ↔ ((cntAt t i).getD u 0 = 0 ∨ (t.getD ((t.getD u nd0).kids.getD ((cntAt t i).getD u 0 - 1) 0).toNat nd0).kind ≠ 2) := by
  unfold prevS
  rw [kid_idx hK hA h0 hi hu hut, Bool.or_eq_true, decide_eq_true_eq, decide_eq_true_eq]
  generalize hc : (cntAt t i).getD u 0 = c
  rcases Nat.eq_zero_or_pos c with h | h
  · subst h; simp
  · have hlt : c - 1 < (cntAt t t.length).getD u 0 := by
      rw [hA u hut]; have := (hK i h0 hi).lt; rw [hu, hc] at this; omega
    obtain ⟨z, _, _, _, _, h5⟩ := cnt_slot t.length hK (Nat.le_refl _) u (c - 1) hlt
    rw [show ((c : Int) - 1).toNat = c - 1 by omega, h5, Int.toNat_natCast, kd_nd]
    constructor
    · rintro (h1 | h1)
      · omega
      · exact .inr h1
    · rintro (h1 | h1)
      · omega
      · exact .inr h1
end Go.Ab.Dirs
end

set_option maxRecDepth 100000
noncomputable section
namespace Go.Ab.Dirs
open Go Go.Ab

theorem head_k {t : List ND} (h : headS t = true) : (t.getD 0 nd0).kind = 0 ∧ 0 < t.length ∧ t.length ≤ 16384 := by
  rw [headS_eq] at h
  simp only [Bool.not_eq_true', Bool.not_eq_false', decide_eq_true_eq, Bool.or_eq_false_iff, decide_eq_false_iff_not] at h
  omega
theorem dec_cast0 (n : Nat) : decide ((n : Int) = 0) = decide (n = 0) := by rw [Bool.eq_iff_iff]; simp
theorem dec_pos (n : Nat) : decide ((0 : Int) < n) = decide (0 < n) := by rw [Bool.eq_iff_iff]; simp
theorem fits0_iff {t : List ND} (p : List Nat) (hk : (t.getD 0 nd0).kind = 0) : fitsS t p 0 (t.getD 0 nd0) = nodeR t 0 (t.getD 0 nd0) := by
  unfold fitsS nodeR plainS
  rw [if_pos rfl, if_pos hk, dec_cast0]
  simp
/-- A node below a path. -/
theorem fits_iff {t : List ND} (hK : ∀ j, 0 < j → j < t.length → KidOK t j) (hA : ∀ j, j < t.length → (cntAt t t.length).getD j 0 = (t.getD j nd0).kids.length) (h00 : (t.getD 0 nd0).name = []) {i u : Nat} (h0 : 0 < i) (hi : i < t.length) (hU : UpB t i) (hu : (t.getD i nd0).up = (u : Int)) (hlt : u < i) :
    fitsS t (pth t u) i (t.getD i nd0) = true ↔ upBad (t.getD u nd0) = false ∧ nodeR t i (t.getD i nd0) = true ∧ ((t.getD i nd0).kind = 2 → prevS t (t.getD u nd0) i = true) := by
  unfold fitsS nodeR
  rw [if_neg (by omega), upOf_pth hU hlt]
  cases hB : upBad (t.getD u nd0) with
  | true => simp
  | false =>
    simp only [Bool.false_eq_true, if_false, true_and]
    by_cases k2 : (t.getD i nd0).kind = 2
    · rw [if_pos k2, if_neg (by omega), if_neg (by omega), if_pos k2, dec_cast0]
      unfold plainS
      simp only [Bool.and_eq_true, decide_eq_true_eq, Bool.not_eq_true', decide_eq_false_iff_not, ne_eq]
      constructor
      · rintro ⟨⟨a, b⟩, c, d, e⟩; exact ⟨⟨⟨⟨a, b⟩, c⟩, d⟩, fun _ => e⟩
      · rintro ⟨⟨⟨⟨a, b⟩, c⟩, d⟩, e⟩; exact ⟨⟨a, b⟩, c, d, e k2⟩
    · rw [if_neg k2]
      by_cases k1 : (t.getD i nd0).kind = 1
      · rw [if_pos k1, if_neg (by omega), if_pos k1, hu, Int.toNat_natCast, nest_top hU (by omega) h00 _ hlt hlt, dec_pos]
        simp only [Bool.and_eq_true, decide_eq_true_eq]
        constructor
        · rintro ⟨a, b, c, d, e⟩; exact ⟨⟨⟨⟨b, a⟩, c⟩, d, e⟩, fun h => absurd h k2⟩
        · rintro ⟨⟨⟨⟨b, a⟩, c⟩, d, e⟩, _⟩; exact ⟨a, b, c, d, e⟩
      · rw [if_neg k1, if_neg k1, if_neg k2]
        by_cases k0 : (t.getD i nd0).kind = 0
        · rw [if_pos k0, decide_eq_false (show ¬ (i : Int) = 0 by omega)]; simp
        · rw [if_neg k0]; simp

theorem rightP_iff {t : List ND} : RightP t ↔ rightS t = true := by
  rw [rightS_iff]
  constructor
  · rintro ⟨⟨hH, hO, hK, hA⟩, hn, htt⟩
    obtain ⟨hk, hp, hN⟩ := head_k hH
    have h00 : (t.getD 0 nd0).name = [] := by
      have := hn 0 hp; unfold nodeR at this; rw [if_pos hk] at this
      simp only [Bool.and_eq_true, decide_eq_true_eq] at this; exact this.1.1.2
    refine ⟨hH, fun j hj => ?_, hA⟩
    rcases Nat.eq_zero_or_pos j with h0 | h0
    · subst h0
      exact ⟨fun _ => by rw [fits0_iff _ hk]; exact hn 0 hp, fun h => absurd rfl h, fun h => absurd rfl h, fun h => absurd rfl h⟩
    · obtain ⟨u, hu, hlt, hB, hw⟩ := (hO j h0 hj).up
      have hU : UpB t j := fun k h1 h2 => by obtain ⟨u, h3, h4, _⟩ := (hO k h1 (by omega)).up; exact ⟨u, h3, h4⟩
      rcases popS_pth hj h0 (fun k h1 h2 => hO k h1 (by omega)) hu with ⟨_, _, h3⟩ | ⟨h2, _⟩
      · refine ⟨fun h => absurd h (by omega), fun _ => ?_, fun _ => hK j h0 hj, fun _ => ?_⟩
        · rw [h3]; intro e; have := pth_len (t := t) u; rw [e] at this; exact absurd this (by decide)
        · rw [h3, fits_iff hK hA h00 h0 hj hU hu hlt]
          refine ⟨hB, hn j hj, fun hk2 => ?_⟩
          rw [prev_iff hK hA h0 hj (by rw [hu, Int.toNat_natCast]) (by omega)]
          rcases Nat.eq_zero_or_pos ((cntAt t j).getD u 0) with hc | hc
          · exact .inl hc
          · right; intro h
            obtain ⟨k1, k2⟩ := hK j h0 hj
            rw [hu, Int.toNat_natCast] at k1 k2
            exact htt u (by omega) _ hc k1 ⟨h, by rw [k2, Int.toNat_natCast]; exact hk2⟩
      · exact absurd hw h2
  · rintro ⟨hH, hS, hA⟩
    obtain ⟨hk, hp, hN⟩ := head_k hH
    have hn0 : nodeR t 0 (t.getD 0 nd0) = true := by rw [← fits0_iff _ hk]; exact (hS 0 hp).zero rfl
    have h00 : (t.getD 0 nd0).name = [] := by
      have := hn0; unfold nodeR at this; rw [if_pos hk] at this
      simp only [Bool.and_eq_true, decide_eq_true_eq] at this; exact this.1.1.2
    have hK : ∀ j, 0 < j → j < t.length → KidOK t j := fun j h1 h2 => (hS j h2).kid (by omega)
    have key : ∀ j, 0 < j → j < t.length → OkU t j ∧ nodeR t j (t.getD j nd0) = true ∧ ((t.getD j nd0).kind = 2 → prevS t (t.getD (t.getD j nd0).up.toNat nd0) j = true) := by
      intro j
      induction j using Nat.strongRecOn with
      | ind j ih =>
        intro h0 hj
        have hO : ∀ k, 0 < k → k < j → OkU t k := fun k h1 h2 => (ih k h2 h1 (by omega)).1
        have hU : UpB t j := fun k h1 h2 => by obtain ⟨u, h3, h4, _⟩ := (hO k h1 h2).up; exact ⟨u, h3, h4⟩
        have hpop := (hS j hj).pop (by omega)
        obtain ⟨u, hu⟩ := popS_int hpop
        rcases popS_pth hj h0 hO hu with ⟨h1, h2, h3⟩ | ⟨_, h3⟩
        · have hf := (hS j hj).fits (by omega)
          rw [h3, fits_iff hK hA h00 h0 hj hU hu h1] at hf
          exact ⟨⟨u, hu, h1, hf.1, h2⟩, hf.2.1, by rw [hu, Int.toNat_natCast]; exact hf.2.2⟩
        · exact absurd h3 hpop
    refine ⟨⟨hH, fun j h1 h2 => (key j h1 h2).1, hK, hA⟩, fun i hi => ?_, fun i hi k hk0 hk => ?_⟩
    · rcases Nat.eq_zero_or_pos i with h | h
      · subst h; exact hn0
      · exact (key i h hi).2.1
    · rintro ⟨h1, h2⟩
      rw [← hA i hi] at hk
      obtain ⟨z, z0, zl, z1, z2, z3⟩ := cnt_slot t.length hK (Nat.le_refl _) i k hk
      rw [z3, Int.toNat_natCast] at h2
      have := (key z z0 zl).2.2 h2
      rw [z1, prev_iff hK hA z0 zl z1 hi, z2] at this
      rcases this with h | h
      · omega
      · exact h h1

theorem rRight_ok {σ : St} {t : List ND} {tv : AVal} (ht : TreeI σ tv t) (hwf : ∀ n ∈ t, NWF n) : CW TS false 18 [tv] σ fun v s => v = .int .i64 (if rightS t then 0 else 53) ∧ Fr σ s := by
  refine CW_mono (rRight_ok' ht hwf) ?_
  rintro v s ⟨c, rfl, hf, ⟨rfl, h⟩ | ⟨rfl, h⟩⟩
  · rw [rightP_iff.1 h]; exact ⟨rfl, hf⟩
  · rw [rightP_iff, Bool.not_eq_true] at h
    rw [h]; exact ⟨rfl, hf⟩
end Go.Ab.Dirs
end

set_option maxRecDepth 100000
noncomputable section
namespace Go.Ab.Dirs
open Go Go.Ab

def byteV (l : List Nat) : List AVal := l.map fun x : Nat => AVal.int .u8 (x : Int)
theorem bytesOf_V : ∀ {l : List Nat}, (∀ c ∈ l, c < 256) → bytesOfCells (byteV l) = some l
  | [], _ => rfl
  | a :: l, h => by
    have ih := bytesOf_V (l := l) fun c hc => h c (List.mem_cons_of_mem _ hc)
    have ha := h a List.mem_cons_self
    show (match bytesOfCells (byteV l) with | some r => some (((a : Int)).toNat % 256 :: r) | none => none) = _
    rw [ih]; simp only [Int.toNat_natCast]; rw [Nat.mod_eq_of_lt ha]
def strofS (σ : St) (v : AVal) : Option AVal := match v with
  | .str _ => none
  | v => match cellsIn σ 1 v with
    | some (_, cs) => (match bytesOfCells cs with | some l => some (.str l) | none => none)
    | none => none
theorem opStrOf_s {T : Tab} {x : Opd} {env : Env} {σ : St} : opStrOf T x env σ = (match strofS σ (x.ev T env) with | some v => some (v, σ) | none => none) := by
  unfold opStrOf strofS
  generalize x.ev T env = v
  cases v <;> try rfl
  all_goals
    simp only
    generalize cellsIn _ _ _ = o
    cases o with
    | none => rfl
    | some r => obtain ⟨n, cs⟩ := r; simp only; cases bytesOfCells cs <;> rfl
theorem SlI.strOf {σ : St} {v : AVal} {l : List Nat} {n : Nat} (h : SlI σ 1 v n (byteV l)) (hl : ∀ c ∈ l, c < 256) : strofS σ v = some (.str l) := by
  obtain ⟨h1, h2⟩ := h
  unfold lowV at h1
  unfold strofS
  split at h1
  · simp only [h2, bytesOf_V hl]
  · simp only [h2, bytesOf_V hl]
  · simp only [h2, bytesOf_V hl]
  · exact absurd h1 id
theorem low_lt {c : Nat} (h : c < 256) : low c < 256 := by unfold low; split <;> omega

set_option maxHeartbeats 8000000 in
theorem Small_ok {σ : St} {s : List Nat} (hs : SWF s) (hb : s.length < 1000000000) : CW TS false 35 [.str s] σ fun v s' => v = .str (s.map low) ∧ Fr σ s' := by
  refine CW_of fn35 rfl ?_
  repeat' (first | ((first | apply RG_step | apply DG_step | apply DG_read); focus (intro hgd; have hgd2 := hgd; (try simp only [sB] at hgd); (try simp only [sP] at hgd2); simp (maxSteps := 1000000) (disch := (first | omega | assumption | exact Fr.refl _)) only [hgd, sR, reduceIte, Nat.reduceEqDiff, Int.reduceLT, Int.reduceLE, Int.reduceEq, Int.reduceNeg, reduceCtorEq, Nat.reduceAdd, Int.reduceToNat, c35]; exact StepIs_refl)) | ((first | refine Br_intro ?_ ?_ | refine BrB_intro ?_ ?_) <;> intro hbr hbe <;> simp (maxSteps := 1000000) (disch := (first | omega | assumption | exact Fr.refl _)) only [hbe, sR, reduceIte, Nat.reduceEqDiff, Int.reduceLT, Int.reduceLE, Int.reduceEq, Int.reduceNeg, reduceCtorEq, Nat.reduceAdd, Int.reduceToNat, c35] <;> clear hbe) | simp (maxSteps := 1000000) (disch := (first | omega | assumption | exact Fr.refl _)) only [sR, reduceIte, Nat.reduceEqDiff, Int.reduceLT, Int.reduceLE, Int.reduceEq, Int.reduceNeg, reduceCtorEq, Nat.reduceAdd, Int.reduceToNat, c35])
  refine W_loop (fun n e s' => ∃ (i : Nat) (v : AVal), i + n = s.length ∧ Fr σ s' ∧ V e 0 = .str s ∧ V e 3 = v ∧ V e 4 = .int .i64 (i : Int) ∧ OwnV s' 5 v (byteV ((s.take i).map low)) σ.next) s.length ⟨0, .nils, by omega, Fr.refl _, by simp only [sV, Nat.reduceEqDiff, reduceIte, Nat.reduceAdd], by simp only [sV, Nat.reduceEqDiff, reduceIte, Nat.reduceAdd], by simp only [sV, Nat.reduceEqDiff, reduceIte, Nat.reduceAdd]; rfl, ⟨Nat.le_refl _, .inl ⟨rfl, rfl⟩⟩⟩ ?_
  rintro n e s' ⟨i, v, hin, hf, v0, v3, v4, hO⟩
  have key : i < s.length → ∀ c' : Nat, low (s.getD i 0) = c' → ∀ s2, s2 = s'.new (.cells true 5 [.int .u8 (c' : Int)]) → ∃ v2 s3, apS s2 5 1 1 v (.slice s'.next 0 1 1) = some (v2, s3) ∧ Fr σ s3 ∧ OwnV s3 5 v2 (byteV ((s.take (i + 1)).map low)) σ.next := by
    rintro hi c' rfl s2 rfl
    obtain ⟨v2, s3, h1, h2, h3, _⟩ := ap_v (bytes := 1) (hO.fr (Fr.new s' _)) (x := .int .u8 ((low (s.getD i 0) : Nat) : Int)) rfl (St.get_new_same _ _) (by simp [byteV]; omega)
    refine ⟨v2, s3, h1, h3 σ (hf.news _) (Nat.le_refl _), ?_⟩
    rw [List.take_succ_eq_append_getElem hi, List.map_append, byteV, List.map_append, ← getD_lt hi 0]
    exact h2
  have hc : i < s.length → s.getD i 0 < 256 := fun hi => by rw [getD_lt hi]; exact hs.1 _ (List.getElem_mem _)
  repeat' (first | ((first | apply RG_step | apply DG_step | apply DG_read); focus (intro hgd; have hgd2 := hgd; (try simp only [sB] at hgd); (try simp only [sP] at hgd2); simp (maxSteps := 1000000) (disch := (first | omega | assumption | exact Fr.refl _)) only [hgd, sR, reduceIte, Nat.reduceEqDiff, Int.reduceLT, Int.reduceLE, Int.reduceEq, Int.reduceNeg, reduceCtorEq, Nat.reduceAdd, Int.reduceToNat, L35_1, v0, v3, v4, opIxStr_s, ixC_at]; exact StepIs_refl)) | ((first | refine Br_intro ?_ ?_ | refine BrB_intro ?_ ?_) <;> intro hbr hbe <;> simp (maxSteps := 1000000) (disch := (first | omega | assumption | exact Fr.refl _)) only [hbe, sR, reduceIte, Nat.reduceEqDiff, Int.reduceLT, Int.reduceLE, Int.reduceEq, Int.reduceNeg, reduceCtorEq, Nat.reduceAdd, Int.reduceToNat, L35_1, v0, v3, v4, opIxStr_s, ixC_at] <;> clear hbe) | simp (maxSteps := 1000000) (disch := (first | omega | assumption | exact Fr.refl _)) only [sR, reduceIte, Nat.reduceEqDiff, Int.reduceLT, Int.reduceLE, Int.reduceEq, Int.reduceNeg, reduceCtorEq, Nat.reduceAdd, Int.reduceToNat, L35_1, v0, v3, v4, opIxStr_s, ixC_at])
  · have hi : i < s.length := by omega
    have hc := hc hi
    simp only [Bool.and_eq_true, decide_eq_true_eq] at hbr
    have hl : low (s.getD i 0) = s.getD i 0 + 32 := by unfold low; rw [if_pos (by omega)]
    have hw : wrapI .u8 (((s.getD i 0 : Nat) : Int) + 32) = ((s.getD i 0 + 32 : Nat) : Int) := by rw [wrap_u8 (by omega) (by omega)]; omega
    obtain ⟨v2, s3, h1, h2, h3⟩ := key hi _ hl _ rfl
    repeat' (first | ((first | apply RG_step | apply DG_step | apply DG_read); focus (intro hgd; have hgd2 := hgd; (try simp only [sB] at hgd); (try simp only [sP] at hgd2); simp (maxSteps := 1000000) (disch := (first | omega | assumption | exact Fr.refl _)) only [hgd, sR, reduceIte, Nat.reduceEqDiff, Int.reduceLT, Int.reduceLE, Int.reduceEq, Int.reduceNeg, reduceCtorEq, Nat.reduceAdd, Int.reduceToNat, hw, v3, v4, opBuildSlice_s, List.map_cons, List.map_nil, bsS, fillL_int1, opAppend_s, h1, w_add1]; exact StepIs_refl)) | ((first | refine Br_intro ?_ ?_ | refine BrB_intro ?_ ?_) <;> intro hbr hbe <;> simp (maxSteps := 1000000) (disch := (first | omega | assumption | exact Fr.refl _)) only [hbe, sR, reduceIte, Nat.reduceEqDiff, Int.reduceLT, Int.reduceLE, Int.reduceEq, Int.reduceNeg, reduceCtorEq, Nat.reduceAdd, Int.reduceToNat, hw, v3, v4, opBuildSlice_s, List.map_cons, List.map_nil, bsS, fillL_int1, opAppend_s, h1, w_add1] <;> clear hbe) | simp (maxSteps := 1000000) (disch := (first | omega | assumption | exact Fr.refl _)) only [sR, reduceIte, Nat.reduceEqDiff, Int.reduceLT, Int.reduceLE, Int.reduceEq, Int.reduceNeg, reduceCtorEq, Nat.reduceAdd, Int.reduceToNat, hw, v3, v4, opBuildSlice_s, List.map_cons, List.map_nil, bsS, fillL_int1, opAppend_s, h1, w_add1])
    exact ⟨n - 1, by omega, i + 1, v2, by omega, h2, by simp only [sV, Nat.reduceEqDiff, reduceIte, Nat.reduceAdd, v0], by simp only [sV, Nat.reduceEqDiff, reduceIte, Nat.reduceAdd], by simp only [sV, Nat.reduceEqDiff, reduceIte, Nat.reduceAdd], h3⟩
  · have hi : i < s.length := by omega
    simp only [Bool.and_eq_false_iff, decide_eq_false_iff_not] at hbr
    have hl : low (s.getD i 0) = s.getD i 0 := by unfold low; rw [if_neg (by omega)]
    obtain ⟨v2, s3, h1, h2, h3⟩ := key hi _ hl _ rfl
    repeat' (first | ((first | apply RG_step | apply DG_step | apply DG_read); focus (intro hgd; have hgd2 := hgd; (try simp only [sB] at hgd); (try simp only [sP] at hgd2); simp (maxSteps := 1000000) (disch := (first | omega | assumption | exact Fr.refl _)) only [hgd, sR, reduceIte, Nat.reduceEqDiff, Int.reduceLT, Int.reduceLE, Int.reduceEq, Int.reduceNeg, reduceCtorEq, Nat.reduceAdd, Int.reduceToNat, v3, v4, opBuildSlice_s, List.map_cons, List.map_nil, bsS, fillL_int1, opAppend_s, h1, w_add1]; exact StepIs_refl)) | ((first | refine Br_intro ?_ ?_ | refine BrB_intro ?_ ?_) <;> intro hbr hbe <;> simp (maxSteps := 1000000) (disch := (first | omega | assumption | exact Fr.refl _)) only [hbe, sR, reduceIte, Nat.reduceEqDiff, Int.reduceLT, Int.reduceLE, Int.reduceEq, Int.reduceNeg, reduceCtorEq, Nat.reduceAdd, Int.reduceToNat, v3, v4, opBuildSlice_s, List.map_cons, List.map_nil, bsS, fillL_int1, opAppend_s, h1, w_add1] <;> clear hbe) | simp (maxSteps := 1000000) (disch := (first | omega | assumption | exact Fr.refl _)) only [sR, reduceIte, Nat.reduceEqDiff, Int.reduceLT, Int.reduceLE, Int.reduceEq, Int.reduceNeg, reduceCtorEq, Nat.reduceAdd, Int.reduceToNat, v3, v4, opBuildSlice_s, List.map_cons, List.map_nil, bsS, fillL_int1, opAppend_s, h1, w_add1])
    exact ⟨n - 1, by omega, i + 1, v2, by omega, h2, by simp only [sV, Nat.reduceEqDiff, reduceIte, Nat.reduceAdd, v0], by simp only [sV, Nat.reduceEqDiff, reduceIte, Nat.reduceAdd], by simp only [sV, Nat.reduceEqDiff, reduceIte, Nat.reduceAdd], h3⟩
  · have h1 := SlI.strOf hO.sl (fun c hc => by obtain ⟨a, ha, rfl⟩ := List.mem_map.1 hc; exact low_lt (hs.1 a (List.mem_of_mem_take ha)))
    repeat' (first | ((first | apply RG_step | apply DG_step | apply DG_read); focus (intro hgd; have hgd2 := hgd; (try simp only [sB] at hgd); (try simp only [sP] at hgd2); simp (maxSteps := 1000000) (disch := (first | omega | assumption | exact Fr.refl _)) only [hgd, sR, reduceIte, Nat.reduceEqDiff, Int.reduceLT, Int.reduceLE, Int.reduceEq, Int.reduceNeg, reduceCtorEq, Nat.reduceAdd, Int.reduceToNat, opStrOf_s, h1]; exact StepIs_refl)) | ((first | refine Br_intro ?_ ?_ | refine BrB_intro ?_ ?_) <;> intro hbr hbe <;> simp (maxSteps := 1000000) (disch := (first | omega | assumption | exact Fr.refl _)) only [hbe, sR, reduceIte, Nat.reduceEqDiff, Int.reduceLT, Int.reduceLE, Int.reduceEq, Int.reduceNeg, reduceCtorEq, Nat.reduceAdd, Int.reduceToNat, opStrOf_s, h1] <;> clear hbe) | simp (maxSteps := 1000000) (disch := (first | omega | assumption | exact Fr.refl _)) only [sR, reduceIte, Nat.reduceEqDiff, Int.reduceLT, Int.reduceLE, Int.reduceEq, Int.reduceNeg, reduceCtorEq, Nat.reduceAdd, Int.reduceToNat, opStrOf_s, h1])
    exact ⟨by rw [List.take_of_length_le (by omega)], hf⟩

/-- Texts and values are short. -/
def Short (t : List ND) : Prop := ∀ n ∈ t, n.data.length < 1000000000 ∧ ∀ a ∈ n.attrs, a.2.length < 1000000000

theorem stateS_cons (a : AttrD) (l : List AttrD) : stateS (a :: l) = if a.1 = [100, 105, 114] then
      if a.2.map low = [108, 116, 114] then 1 else if a.2.map low = [114, 116, 108] then 2 else if a.2.map low = [97, 117, 116, 111] then 3 else stateS l
    else stateS l := rfl
set_option maxHeartbeats 8000000 in
theorem rState_ok {σ : St} {t : List ND} {tv : AVal} (ht : TreeI σ tv t) (hwf : ∀ n ∈ t, NWF n) (hsh : Short t) {i : Nat} (hi : i < t.length) : CW TS false 21 [tv, .int .i64 (i : Int)] σ fun v s => v = .int .u8 ((stateS (t.getD i nd0).attrs : Nat) : Int) ∧ Fr σ s := by
  have hn := hwf t[i] (List.getElem_mem _)
  have hn2 := (hsh t[i] (List.getElem_mem _)).2
  rw [← getD_lt hi nd0] at hn hn2
  have hA := ht.as hi
  have hal := hn.alen
  refine CW_of fn21 rfl ?_
  repeat' (first | ((first | apply RG_step | apply DG_step | apply DG_read); focus (intro hgd; have hgd2 := hgd; (try simp only [sB] at hgd); (try simp only [sP] at hgd2); simp (maxSteps := 1000000) (disch := (first | omega | assumption | exact Fr.refl _)) only [hgd, sR, reduceIte, Nat.reduceEqDiff, Int.reduceLT, Int.reduceLE, Int.reduceEq, Int.reduceNeg, reduceCtorEq, Nat.reduceAdd, Int.reduceToNat, c21]; exact StepIs_refl)) | ((first | refine Br_intro ?_ ?_ | refine BrB_intro ?_ ?_) <;> intro hbr hbe <;> simp (maxSteps := 1000000) (disch := (first | omega | assumption | exact Fr.refl _)) only [hbe, sR, reduceIte, Nat.reduceEqDiff, Int.reduceLT, Int.reduceLE, Int.reduceEq, Int.reduceNeg, reduceCtorEq, Nat.reduceAdd, Int.reduceToNat, c21] <;> clear hbe) | simp (maxSteps := 1000000) (disch := (first | omega | assumption | exact Fr.refl _)) only [sR, reduceIte, Nat.reduceEqDiff, Int.reduceLT, Int.reduceLE, Int.reduceEq, Int.reduceNeg, reduceCtorEq, Nat.reduceAdd, Int.reduceToNat, c21])
  refine W_loop (fun n e s => ∃ k : Nat, k + n = (t.getD i nd0).attrs.length ∧ Fr σ s ∧ V e 0 = tv ∧ V e 1 = .int .i64 (i : Int) ∧ V e 5 = .int .i64 (k : Int) ∧ stateS (t.getD i nd0).attrs = stateS ((t.getD i nd0).attrs.drop k)) (t.getD i nd0).attrs.length ⟨0, by omega, Fr.refl _, by simp only [sV, Nat.reduceEqDiff, reduceIte, Nat.reduceAdd], by simp only [sV, Nat.reduceEqDiff, reduceIte, Nat.reduceAdd], by simp only [sV, Nat.reduceEqDiff, reduceIte, Nat.reduceAdd]; rfl, rfl⟩ ?_
  rintro n e s ⟨k, hk, hf, v0, v1, v5, hN⟩
  have hd : k < (t.getD i nd0).attrs.length → (t.getD i nd0).attrs.drop k = (t.getD i nd0).attrs.getD k at0 :: (t.getD i nd0).attrs.drop (k + 1) := fun h => by rw [List.drop_eq_getElem_cons h, getD_lt h]
  repeat' (first | ((first | apply RG_step | apply DG_step | apply DG_read); focus (intro hgd; have hgd2 := hgd; (try simp only [sB] at hgd); (try simp only [sP] at hgd2); simp (maxSteps := 1000000) (disch := (first | omega | assumption | exact Fr.refl _)) only [hgd, sR, reduceIte, Nat.reduceEqDiff, Int.reduceLT, Int.reduceLE, Int.reduceEq, Int.reduceNeg, reduceCtorEq, Nat.reduceAdd, Int.reduceToNat, L21_1, v0, v1, v5, ht.ixz, ht.a2, ht.n2, ht.al, hA.ixz, hA.f0, hA.f1, hA.l0, hA.l1, w_add1]; exact StepIs_refl)) | ((first | refine Br_intro ?_ ?_ | refine BrB_intro ?_ ?_) <;> intro hbr hbe <;> simp (maxSteps := 1000000) (disch := (first | omega | assumption | exact Fr.refl _)) only [hbe, sR, reduceIte, Nat.reduceEqDiff, Int.reduceLT, Int.reduceLE, Int.reduceEq, Int.reduceNeg, reduceCtorEq, Nat.reduceAdd, Int.reduceToNat, L21_1, v0, v1, v5, ht.ixz, ht.a2, ht.n2, ht.al, hA.ixz, hA.f0, hA.f1, hA.l0, hA.l1, w_add1] <;> clear hbe) | simp (maxSteps := 1000000) (disch := (first | omega | assumption | exact Fr.refl _)) only [sR, reduceIte, Nat.reduceEqDiff, Int.reduceLT, Int.reduceLE, Int.reduceEq, Int.reduceNeg, reduceCtorEq, Nat.reduceAdd, Int.reduceToNat, L21_1, v0, v1, v5, ht.ixz, ht.a2, ht.n2, ht.al, hA.ixz, hA.f0, hA.f1, hA.l0, hA.l1, w_add1])
  · have hkl : k < (t.getD i nd0).attrs.length := by omega
    have ha : (t.getD i nd0).attrs.getD k at0 ∈ (t.getD i nd0).attrs := by rw [getD_lt hkl]; exact List.getElem_mem _
    rw [hd hkl, stateS_cons, if_pos hbr] at hN
    refine Bd_call (Small_ok (hn.attrs _ ha).2 (hn2 _ ha)) ?_
    rintro _ s2 ⟨rfl, hf2⟩
    have hf2 := hf.trans hf2
    repeat' (first | ((first | apply RG_step | apply DG_step | apply DG_read); focus (intro hgd; have hgd2 := hgd; (try simp only [sB] at hgd); (try simp only [sP] at hgd2); simp (maxSteps := 1000000) (disch := (first | omega | assumption | exact Fr.refl _)) only [hgd, sR, reduceIte, Nat.reduceEqDiff, Int.reduceLT, Int.reduceLE, Int.reduceEq, Int.reduceNeg, reduceCtorEq, Nat.reduceAdd, Int.reduceToNat, v5, w_add1]; exact StepIs_refl)) | ((first | refine Br_intro ?_ ?_ | refine BrB_intro ?_ ?_) <;> intro hbr hbe <;> simp (maxSteps := 1000000) (disch := (first | omega | assumption | exact Fr.refl _)) only [hbe, sR, reduceIte, Nat.reduceEqDiff, Int.reduceLT, Int.reduceLE, Int.reduceEq, Int.reduceNeg, reduceCtorEq, Nat.reduceAdd, Int.reduceToNat, v5, w_add1] <;> clear hbe) | simp (maxSteps := 1000000) (disch := (first | omega | assumption | exact Fr.refl _)) only [sR, reduceIte, Nat.reduceEqDiff, Int.reduceLT, Int.reduceLE, Int.reduceEq, Int.reduceNeg, reduceCtorEq, Nat.reduceAdd, Int.reduceToNat, v5, w_add1])
    · rw [if_pos ‹_›] at hN; rw [hN]; exact ⟨rfl, hf2⟩
    · rw [if_neg ‹¬ _ = [108, 116, 114]›, if_pos ‹_›] at hN; rw [hN]; exact ⟨rfl, hf2⟩
    · rw [if_neg ‹¬ _ = [108, 116, 114]›, if_neg ‹¬ _ = [114, 116, 108]›, if_pos ‹_›] at hN; rw [hN]; exact ⟨rfl, hf2⟩
    · rw [if_neg ‹¬ _ = [108, 116, 114]›, if_neg ‹¬ _ = [114, 116, 108]›, if_neg ‹¬ _ = [97, 117, 116, 111]›] at hN
      exact ⟨n - 1, by omega, k + 1, by omega, hf2, by simp only [sV, Nat.reduceEqDiff, reduceIte, Nat.reduceAdd, v0], by simp only [sV, Nat.reduceEqDiff, reduceIte, Nat.reduceAdd, v1], by simp only [sV, Nat.reduceEqDiff, reduceIte, Nat.reduceAdd], hN⟩
  · rw [hd (by omega), stateS_cons, if_neg hbr] at hN
    exact ⟨n - 1, by omega, k + 1, by omega, hf, by simp only [sV, Nat.reduceEqDiff, reduceIte, Nat.reduceAdd, v0], by simp only [sV, Nat.reduceEqDiff, reduceIte, Nat.reduceAdd, v1], by simp only [sV, Nat.reduceEqDiff, reduceIte, Nat.reduceAdd], hN⟩
  · rw [List.drop_of_length_le (by omega)] at hN
    rw [hN]; exact ⟨rfl, hf⟩
end Go.Ab.Dirs
end

namespace Go.Ab.Dirs
open Go Go.Ab
set_option maxRecDepth 100000
noncomputable section
/- 4 selvedge/selvedgelaw10.DirsSays -/
theorem fn4 : (TS).fn.get (path 4) = some ⟨2, [.tmp (path 4)], c4⟩ := by kernel_rfl
/- 25 selvedge/dirs.sheet -/
theorem fn25 : (TS).fn.get (path 25) = some ⟨2, [.tmp (path 4), .tmp (path 5), .tmp (path 6)], c25⟩ := by kernel_rfl
/- 11 selvedge/dirs.All -/
theorem fn11 : (TS).fn.get (path 11) = some ⟨1, [.tmp (path 2), .tmp (path 3)], c11⟩ := by kernel_rfl
end
end Go.Ab.Dirs

set_option maxRecDepth 10000
noncomputable section
namespace Go.Ab.Dirs
open Go Go.Ab

section
variable {t : List ND} {tv : AVal} {σ : St}

theorem size_in (ht : TreeI σ tv t) {i : Nat} (hi : i < t.length) (hal : t[i].attrs.length < 9223372036854775808) (top : Int) : ∀ (m k : Nat) (n : Int) (e : Env) (r : Option (Out × Env × St)), k + m = t[i].attrs.length → Ew TS false (.loop L9_1) e σ = r →
    V e 0 = tv → V e 1 = .int .i64 top → V e 5 = .int .i64 n → V e 6 = .int .i64 (i : Int) → V e 7 = .int .i64 (k : Int) →
    ∃ e' n', r = some (.exit 2, e', σ) ∧ V e' 0 = tv ∧ V e' 1 = .int .i64 top ∧ V e' 5 = .int .i64 n' ∧ V e' 6 = .int .i64 (i : Int)
  | 0, k, n, e, r, hk, hr, h0, h1, h5, h6, h7 => by
    obtain ⟨av, kv, x1, x2⟩ := ht.get hi
    have x1 := x1 .i64
    have hl := SlI.len x2.attrs
    have hlt : ¬ ((k : Int) < (t[i].attrs.length : Int)) := by omega
    rw [Ew_loop] at hr
    simp only [L9_1, sA, reduceIte, Nat.reduceEqDiff, Int.reduceLT, Int.reduceLE, Int.reduceEq, Int.reduceNeg, reduceCtorEq, Nat.reduceAdd, opIaSl_s, opFieldAddr_s, opLoad_s, h0, h1, h5, h6, h7, x1, x2.f2, x2.l2, hl, hlt] at hr
    exact ⟨_, n, hr.symm, by simp only [sV, Nat.reduceEqDiff, reduceIte, Nat.reduceAdd, h0], by simp only [sV, Nat.reduceEqDiff, reduceIte, Nat.reduceAdd, h1], by simp only [sV, Nat.reduceEqDiff, reduceIte, Nat.reduceAdd, h5], by simp only [sV, Nat.reduceEqDiff, reduceIte, Nat.reduceAdd, h6]⟩
  | m + 1, k, n, e, r, hk, hr, h0, h1, h5, h6, h7 => by
    obtain ⟨av, kv, x1, x2⟩ := ht.get hi
    have x1 := x1 .i64
    have hl := SlI.len x2.attrs
    have hlt : ((k : Int) < (t[i].attrs.length : Int)) := by omega
    have hw : wrapI .i64 ((k : Int) + 1) = ((k + 1 : Nat) : Int) := by rw [wrap_i64 (by omega) (by omega)]; omega
    obtain ⟨g1, g2⟩ := x2.attrs.get (i := k) (by omega) (k := .i64)
    rw [Ew_loop] at hr
    by_cases hn : n ≤ top
    · simp only [L9_1, sA, reduceIte, Nat.reduceEqDiff, Int.reduceLT, Int.reduceLE, Int.reduceEq, Int.reduceNeg, reduceCtorEq, Nat.reduceAdd, sD, opIaSl_s, opFieldAddr_s, opLoad_s, h0, h1, h5, h6, h7, x1, x2.f2, x2.l2, hl, hlt, hn, g1, g2.f0, g2.l0, g2.f1, g2.l1, hw] at hr
      exact size_in ht hi hal top m (k + 1) _ _ r (by omega) hr (by simp only [sV, Nat.reduceEqDiff, reduceIte, Nat.reduceAdd, h0]) (by simp only [sV, Nat.reduceEqDiff, reduceIte, Nat.reduceAdd, h1]) (by simp only [sV, Nat.reduceEqDiff, reduceIte, Nat.reduceAdd]; rfl) (by simp only [sV, Nat.reduceEqDiff, reduceIte, Nat.reduceAdd, h6]) (by simp only [sV, Nat.reduceEqDiff, reduceIte, Nat.reduceAdd])
    · simp only [L9_1, sA, reduceIte, Nat.reduceEqDiff, Int.reduceLT, Int.reduceLE, Int.reduceEq, Int.reduceNeg, reduceCtorEq, Nat.reduceAdd, opIaSl_s, opFieldAddr_s, opLoad_s, h0, h1, h5, h6, h7, x1, x2.f2, x2.l2, hl, hlt, hn] at hr
      exact ⟨_, n, hr.symm, by simp only [sV, Nat.reduceEqDiff, reduceIte, Nat.reduceAdd, h0], by simp only [sV, Nat.reduceEqDiff, reduceIte, Nat.reduceAdd, h1], by simp only [sV, Nat.reduceEqDiff, reduceIte, Nat.reduceAdd, h5], by simp only [sV, Nat.reduceEqDiff, reduceIte, Nat.reduceAdd, h6]⟩

theorem size_out (ht : TreeI σ tv t) (hal : ∀ n ∈ t, n.attrs.length < 9223372036854775808) (hb : t.length < 9223372036854775808) (top : Int) : ∀ (m i : Nat) (n : Int) (e : Env) (r : Option (Out × Env × St)), i + m = t.length → Ew TS false (.loop L9_2) e σ = r →
    V e 0 = tv → V e 1 = .int .i64 top → V e 5 = .int .i64 n → V e 6 = .int .i64 (i : Int) →
    ∃ e' n', r = some (.exit 0, e', σ) ∧ V e' 1 = .int .i64 top ∧ V e' 5 = .int .i64 n'
  | 0, i, n, e, r, hk, hr, h0, h1, h5, h6 => by
    have hl := ht.len
    have hlt : ¬ ((i : Int) < (t.length : Int)) := by omega
    rw [Ew_loop] at hr
    simp only [L9_2, sA, reduceIte, Nat.reduceEqDiff, Int.reduceLT, Int.reduceLE, Int.reduceEq, Int.reduceNeg, reduceCtorEq, Nat.reduceAdd, h0, h1, h5, h6, hl, hlt] at hr
    exact ⟨_, n, hr.symm, by simp only [sV, Nat.reduceEqDiff, reduceIte, Nat.reduceAdd, h1], by simp only [sV, Nat.reduceEqDiff, reduceIte, Nat.reduceAdd, h5]⟩
  | m + 1, i, n, e, r, hk, hr, h0, h1, h5, h6 => by
    have hl := ht.len
    have hi : i < t.length := by omega
    have hlt : ((i : Int) < (t.length : Int)) := by omega
    have hw : wrapI .i64 ((i : Int) + 1) = ((i + 1 : Nat) : Int) := by rw [wrap_i64 (by omega) (by omega)]; omega
    obtain ⟨av, kv, x1, x2⟩ := ht.get hi
    have x1 := x1 .i64
    have hla := SlI.len x2.attrs
    have hlk := SlI.len x2.kids
    rw [Ew_loop] at hr
    by_cases hn : n ≤ top
    · simp only [L9_2, sA, reduceIte, Nat.reduceEqDiff, Int.reduceLT, Int.reduceLE, Int.reduceEq, Int.reduceNeg, reduceCtorEq, Nat.reduceAdd, sD, opIaSl_s, opFieldAddr_s, opLoad_s, h0, h1, h5, h6, x1, x2.f1, x2.l1, x2.f2, x2.l2, x2.f3, x2.l3, x2.f5, x2.l5, hl, hla, hlk, hlt, hn] at hr
      generalize hr2 : Ew TS false (.loop L9_1) _ _ = r2 at hr
      obtain ⟨e2, n2, rfl, b0, b1, b5, b6⟩ := size_in ht hi (hal _ (List.getElem_mem _)) top t[i].attrs.length 0 _ _ r2 (by omega) hr2 (by simp only [sV, Nat.reduceEqDiff, reduceIte, Nat.reduceAdd, h0]) (by simp only [sV, Nat.reduceEqDiff, reduceIte, Nat.reduceAdd, h1]) (by simp only [sV, Nat.reduceEqDiff, reduceIte, Nat.reduceAdd]; rfl) (by simp only [sV, Nat.reduceEqDiff, reduceIte, Nat.reduceAdd, h6]) (by simp only [sV, Nat.reduceEqDiff, reduceIte, Nat.reduceAdd]; rfl)
      simp only [sA, reduceIte, Nat.reduceEqDiff, Int.reduceLT, Int.reduceLE, Int.reduceEq, Int.reduceNeg, reduceCtorEq, Nat.reduceAdd, b6, hw] at hr
      exact size_out ht hal hb top m (i + 1) n2 _ r (by omega) hr (by simp only [sV, Nat.reduceEqDiff, reduceIte, Nat.reduceAdd, b0]) (by simp only [sV, Nat.reduceEqDiff, reduceIte, Nat.reduceAdd, b1]) (by simp only [sV, Nat.reduceEqDiff, reduceIte, Nat.reduceAdd, b5]) (by simp only [sV, Nat.reduceEqDiff, reduceIte, Nat.reduceAdd])
    · simp only [L9_2, sA, reduceIte, Nat.reduceEqDiff, Int.reduceLT, Int.reduceLE, Int.reduceEq, Int.reduceNeg, reduceCtorEq, Nat.reduceAdd, h0, h1, h5, h6, hl, hlt, hn] at hr
      exact ⟨_, n, hr.symm, by simp only [sV, Nat.reduceEqDiff, reduceIte, Nat.reduceAdd, h1], by simp only [sV, Nat.reduceEqDiff, reduceIte, Nat.reduceAdd, h5]⟩

theorem Size_ok (ht : TreeI σ tv t) (hal : ∀ n ∈ t, n.attrs.length < 9223372036854775808) (hb : t.length < 9223372036854775808) (top : Int) : ∃ n : Int, Cw TS false 9 [tv, .int .i64 top] σ = some (.int .i64 n, σ) := by
  have hl := ht.len
  rw [Cw_of fn9 false _ σ rfl]
  simp only [c9, sA, reduceIte, Nat.reduceEqDiff, Int.reduceLT, Int.reduceLE, Int.reduceEq, Int.reduceNeg, reduceCtorEq, Nat.reduceAdd, hl]
  generalize hr : Ew TS false (.loop L9_2) _ _ = r
  obtain ⟨e, n, rfl, h1, h5⟩ := size_out ht hal hb top t.length 0 _ _ r (by omega) hr (by simp only [sV, Nat.reduceEqDiff, reduceIte, Nat.reduceAdd]) (by simp only [sV, Nat.reduceEqDiff, reduceIte, Nat.reduceAdd]) (by simp only [sV, Nat.reduceEqDiff, reduceIte, Nat.reduceAdd]; rfl) (by simp only [sV, Nat.reduceEqDiff, reduceIte, Nat.reduceAdd]; rfl)
  simp only [sA, reduceIte, Nat.reduceEqDiff, Int.reduceLT, Int.reduceLE, Int.reduceEq, Int.reduceNeg, reduceCtorEq, Nat.reduceAdd, opMn, h1, h5]
  exact ⟨_, rfl⟩
end
end Go.Ab.Dirs
end

set_option maxRecDepth 10000
noncomputable section
namespace Go.Ab.Dirs
open Go Go.Ab

theorem scanL_congr {g g' : Nat → Option Nat} : ∀ {l : List Int}, (∀ z ∈ l, g z.toNat = g' z.toNat) → scanL g l = scanL g' l
  | [], _ => rfl
  | z :: l, h => by
    unfold scanL
    rw [h z (List.mem_cons_self), scanL_congr fun y hy => h y (List.mem_cons_of_mem _ hy)]

theorem scanF_fuel {t : List ND} (hk : KidsT t) : ∀ (f f' i : Nat), i < t.length → t.length - i ≤ f → t.length - i ≤ f' → scanF t f i = scanF t f' i
  | 0, _, i, hi, h, _ => by omega
  | _ + 1, 0, i, hi, _, h => by omega
  | f + 1, f' + 1, i, hi, h, h' => by
    rw [scanF, scanF]
    refine scanL_congr fun z hz => ?_
    obtain ⟨k, rfl, h1, h2⟩ := hk i hi z hz
    rw [Int.toNat_natCast, scanF_fuel hk f f' k h2 (by omega) (by omega)]

/-- A text alone in a paragraph. -/
def t3 (data : List Nat) : List ND := [⟨0, [], [], [], -1, [1]⟩, ⟨1, [112], [], [], 0, [2]⟩, ⟨2, [], [], data, 1, []⟩]
theorem t3_right {data : List Nat} (h1 : data ≠ []) (h2 : wellS data = true) : rightS (t3 data) = true := by
  have e1 : fitsS (t3 data) [0] 0 ⟨0, [], [], [], -1, [1]⟩ = true := by unfold fitsS; rw [if_pos rfl]; rfl
  have e2 : fitsS (t3 data) [0] 1 ⟨1, [112], [], [], 0, [2]⟩ = true := by
    have ha : attrsS [] = true := by decide
    have hn : nestedS (t3 data) [0] [112] = true := by unfold nestedS; kernel_rfl
    have hu : upBad (upOf (t3 data) [0]) = false := by kernel_rfl
    unfold fitsS
    rw [if_neg (by decide), hu]
    simp only [ha, hn]
    rfl
  have e3 : fitsS (t3 data) [0, 1] 2 ⟨2, [], [], data, 1, []⟩ = true := by
    have hu : upBad (upOf (t3 data) [0, 1]) = false := by kernel_rfl
    have hp : prevS (t3 data) (upOf (t3 data) [0, 1]) 2 = true := by
      have : upOf (t3 data) [0, 1] = ⟨1, [112], [], [], 0, [2]⟩ := by kernel_rfl
      rw [this]
      unfold prevS
      have : decide (idxS ((2 : Nat) : Int) [2] 0 < 1) = true := by decide
      simp only [this, Bool.true_or]
    unfold fitsS
    rw [if_neg (by decide), hu]
    simp only [h2, hp]
    have : decide (data ≠ []) = true := by simp [h1]
    simp only [this]
    rfl
  have hs0 : stepR (t3 data) 0 [0] [0, 0, 0] = some ([0], [0, 0, 0]) := by
    unfold stepR
    rw [if_pos rfl, show (t3 data).getD 0 dN = ⟨0, [], [], [], -1, [1]⟩ from rfl, e1]; rfl
  have hs1 : stepR (t3 data) 1 [0] [0, 0, 0] = some ([0, 1], [1, 0, 0]) := by
    unfold stepR
    rw [if_neg (by decide), show (t3 data).getD 1 dN = ⟨1, [112], [], [], 0, [2]⟩ from rfl]
    simp only [show popS 0 [0] = [0] from by decide, e2]
    rw [if_pos ⟨by decide, by show 0 < 1; decide, by rfl⟩]
    rfl
  have hs2 : stepR (t3 data) 2 [0, 1] [1, 0, 0] = some ([0, 1, 2], [1, 1, 0]) := by
    unfold stepR
    rw [if_neg (by decide), show (t3 data).getD 2 dN = ⟨2, [], [], data, 1, []⟩ from rfl]
    simp only [show popS 1 [0, 1] = [0, 1] from by decide, e3]
    rw [if_pos ⟨by decide, by show 0 < 1; decide, by rfl⟩]
    rfl
  have hg : rightG (t3 data) 3 0 [0] [0, 0, 0] = some [1, 1, 0] := by
    simp only [rightG, hs0, hs1, hs2]
  have hh : headS (t3 data) = true := by kernel_rfl
  unfold rightS
  rw [hh, Bool.true_and, show (t3 data).length = 3 from rfl, show List.replicate 3 0 = [0, 0, 0] from rfl, hg]
  show finS (t3 data) [1, 1, 0] 3 0 = true
  rfl

theorem t3_scan {data : List Nat} (h1 : data ≠ []) (h2 : wellS data = true) : ScanS (t3 data) 1 = firstS data := by
  have he : elemS (t3 data) 1 = true := by unfold elemS; rw [t3_right h1 h2]; rfl
  unfold ScanS
  rw [he, if_pos rfl]
  have hk : openS ⟨2, [], [], data, 1, []⟩ = false := by unfold openS; rfl
  show scanF (t3 data) 3 1 = _
  rw [scanF, show ((t3 data).getD 1 dN).kids = [2] from rfl]
  simp only [scanL, show (2 : Int).toNat = 2 from rfl, show (t3 data).getD 2 dN = ⟨2, [], [], data, 1, []⟩ from rfl, hk, Bool.false_eq_true, if_false]
  cases firstS data <;> rfl

/-- A node below another in a right tree: a text or an element. -/
theorem node_facts {t : List ND} (h : rightS t = true) {j : Nat} (hj : 0 < j) (hjt : j < t.length) :
    (t[j].kind = 2 ∧ t[j].data ≠ [] ∧ wellS t[j].data = true) ∨ (t[j].kind = 1 ∧ t[j].data = []) := by
  obtain ⟨-, hf, -, -⟩ := right_facts h
  obtain ⟨q, hq⟩ := hf j hjt
  rw [getD_at hjt] at hq
  unfold fitsS at hq
  rw [if_neg (by omega)] at hq
  split at hq
  · simp at hq
  · split at hq
    · rename_i hk
      simp only [Bool.and_eq_true, decide_eq_true_eq] at hq
      exact .inl ⟨hk, hq.2.1, hq.2.2.1⟩
    · split at hq
      · rename_i hk
        simp only [Bool.and_eq_true, decide_eq_true_eq] at hq
        exact .inr ⟨hk, hq.1⟩
      · simp at hq

theorem head_kind {t : List ND} (h : rightS t = true) : (t.getD 0 dN).kind = 0 := by
  unfold rightS headS at h
  simp only [Bool.and_eq_true, decide_eq_true_eq] at h
  exact h.1.2.2.1

/-- What a child tells. -/
def toldS (t : List ND) (j : Nat) : Option Nat :=
  if (t.getD j dN).kind = 2 then firstS (t.getD j dN).data
  else if (t.getD j dN).name ≠ [98, 100, 105] ∧ StateS t (j : Int) = 0 then ScanS t (j : Int) else none

theorem told_scanK {t : List ND} (h : rightS t = true) {j : Nat} (hj : 0 < j) (hjt : j < t.length) : scanK t (t.length - 1) j = toldS t j := by
  unfold scanK toldS
  rw [getD_at hjt]
  obtain ⟨hk, -, -, -⟩ := right_facts h
  rcases node_facts h hj hjt with ⟨a, b, c⟩ | ⟨a, b⟩
  · have : openS t[j] = false := by unfold openS; rw [a]; rfl
    rw [this, if_pos a]; rfl
  · rw [if_neg (show ¬ t[j].kind = 2 by omega), b, firstS_nil]
    have he : elemS t (j : Int) = true := by
      unfold elemS
      rw [Int.toNat_natCast, getD_at hjt, h, decide_eq_true (show (0 : Int) < (j : Int) by omega), decide_eq_true (show (j : Int) < (t.length : Int) by omega), decide_eq_true a]
      rfl
    have hst : StateS t (j : Int) = stateS t[j].attrs := by unfold StateS; rw [he, if_pos rfl, Int.toNat_natCast, getD_at hjt]
    have hsc : ScanS t (j : Int) = scanF t (t.length - 1) j := by
      unfold ScanS scanS
      rw [he, if_pos rfl, Int.toNat_natCast]
      exact scanF_fuel hk _ _ j hjt (by omega) (by omega)
    rw [hst, hsc]
    by_cases c1 : t[j].name ≠ [98, 100, 105]
    · by_cases c2 : stateS t[j].attrs = 0
      · have : openS t[j] = true := by unfold openS; simp [a, c1, c2]
        rw [this, if_pos rfl, if_pos ⟨c1, c2⟩]
        cases scanF t (t.length - 1) j <;> rfl
      · have : openS t[j] = false := by unfold openS; simp [c2]
        rw [this, if_neg (by decide), if_neg (fun hh => c2 hh.2)]
    · have : openS t[j] = false := by unfold openS; simp at c1; simp [c1]
      rw [this, if_neg (by decide), if_neg (fun hh => c1 hh.1)]

theorem scan_told {t : List ND} (h : rightS t = true) {i : Nat} (hi : i < t.length) : scanS t i = scanL (toldS t) t[i].kids := by
  obtain ⟨hk, -, hl, -⟩ := right_facts h
  unfold scanS
  obtain ⟨m, hm⟩ : ∃ m, t.length = m + 1 := ⟨t.length - 1, by omega⟩
  have : scanF t t.length i = scanL (scanK t (t.length - 1)) t[i].kids := by
    rw [hm, scanF, getD_at hi]; rfl
  rw [this]
  refine scanL_congr fun z hz => ?_
  obtain ⟨k, rfl, h1, h2⟩ := hk i hi z (by rw [getD_at hi]; exact hz)
  rw [Int.toNat_natCast]
  exact told_scanK h (by omega) h2
end Go.Ab.Dirs
end
