/- The reference's right trees are the program's: nodes. -/
import Derived.Test.YthbanbnmomcohaaGreatDoorM29
import Derived.Test.YthbanbnmomcohaaGreatDoorM21
set_option linter.all false
set_option linter.unusedSimpArgs false
set_option maxRecDepth 100000
noncomputable section
namespace Go.Ab.Dirs
open Go Go.Ab

theorem nestG_app (t : List ND) (k : Nat) (p q : List Nat) : ∀ (i : Nat) (free : Bool), i < p.length → nestG t k (p ++ q) i free = nestG t k p i free
  | 0, free, h => rfl
  | i + 1, free, h => by
    rw [nestG, nestG]
    have e : (p ++ q).getD (i + 1) 0 = p.getD (i + 1) 0 := by
      rw [List.getD_eq_getElem?_getD, List.getElem?_append_left h, ← List.getD_eq_getElem?_getD]
    rw [e, nestG_app t k p q i _ (by omega)]
theorem nm_nd (t : List ND) (u : Nat) (h : u < t.length) : nmS t u = (t.getD u nd0).name := by rw [nmS_at h, getD_lt h]
theorem badR_S {k : Nat} {w : List Nat} {d : Nat} {free : Bool} (hd : d ≠ 1) : badR k w d free = badS k w free := by
  unfold badR badS
  rw [decide_eq_false (show ¬ ((d : Int) = 1) by omega)]
  have h6 : decide ((k : Int) = 6) = decide (k = 6) := by rw [Bool.eq_iff_iff]; simp; omega
  have h3 : decide ((k : Int) = 3) = decide (k = 3) := by rw [Bool.eq_iff_iff]; simp; omega
  rw [h6, h3]; simp
theorem badR_1 {k : Nat} {w : List Nat} {free : Bool} : badR k w 1 free = (badS k w free || (decide (k = 4) && decide (kindS w = 4))) := by
  unfold badR badS
  have h6 : decide ((k : Int) = 6) = decide (k = 6) := by rw [Bool.eq_iff_iff]; simp; omega
  have h3 : decide ((k : Int) = 3) = decide (k = 3) := by rw [Bool.eq_iff_iff]; simp; omega
  have h4 : decide ((k : Int) = 4) = decide (k = 4) := by rw [Bool.eq_iff_iff]; simp; omega
  have h5 : decide ((kindS w : Int) = 4) = decide (kindS w = 4) := by rw [Bool.eq_iff_iff]; simp; omega
  rw [h6, h3, h4, h5]
  have h7 : decide (((1 : Nat) : Int) = 1) = true := rfl
  rw [h7]
  cases endsS k <;> cases decide (w = [112]) <;> cases decide (k = 6) <;> cases decide (w = [97]) <;> cases decide (k = 4) <;> cases decide (kindS w = 4) <;> cases decide (k = 3) <;> cases decide (w = [108, 105]) <;> cases free <;> rfl
/-- The path to a node. -/
def pth (t : List ND) (u : Nat) : List Nat := (anc t u).reverse
theorem pth_zero (t : List ND) : pth t 0 = [0] := rfl
theorem pth_pos {t : List ND} {i k u : Nat} (hU : UpB t i) (hk : k < i) (h0 : 0 < k) (hu : (t.getD k nd0).up = (u : Int)) (hlt : u < k) : pth t k = pth t u ++ [k] := by
  unfold pth; rw [anc_pos hU hk h0 hu hlt, List.reverse_cons]
theorem pth_len {t : List ND} (u : Nat) : 0 < (pth t u).length := by
  unfold pth anc
  cases u with
  | zero => exact Nat.zero_lt_one
  | succ u => rw [ancR]; split <;> simp
theorem pth_last {t : List ND} {i : Nat} (hU : UpB t i) {u : Nat} (hu : u < i) : (pth t u).getD ((pth t u).length - 1) 0 = u := by
  rcases Nat.eq_zero_or_pos u with h | h
  · subst h; rfl
  · obtain ⟨u', h1, h2⟩ := hU u h hu
    rw [pth_pos hU hu h h1 h2]
    simp
theorem nest_eq {t : List ND} {i : Nat} (hU : UpB t i) (hi : i ≤ t.length) (k : Nat) : ∀ (u : Nat), u < i → ∀ (f d : Nat) (free : Bool), u < f → 0 < d → nestR t k f u d free = (nestG t k (pth t u) ((pth t u).length - 1) free && decide (d + ((pth t u).length - 1) < 200)) := by
  intro u
  induction u using Nat.strongRecOn with
  | ind u ih =>
    intro hu f d free hf hd
    obtain ⟨f, rfl⟩ : ∃ g, f = g + 1 := ⟨f - 1, by omega⟩
    rw [nestR]
    rcases Nat.eq_zero_or_pos u with h | h
    · subst h; rw [if_neg (by omega)]; simp [pth_zero, nestG]
    · obtain ⟨u', h1, h2⟩ := hU u h hu
      have hp := pth_len (t := t) u'
      rw [if_pos h, badR_S (by omega), pth_pos hU hu h h1 h2, List.length_append, List.length_singleton, Nat.add_sub_cancel]
      obtain ⟨m, hm⟩ : ∃ m, (pth t u').length = m + 1 := ⟨(pth t u').length - 1, by omega⟩
      have e : (pth t u' ++ [u]).getD (m + 1) 0 = u := by
        rw [List.getD_eq_getElem?_getD, List.getElem?_append_right (by omega), hm]; simp
      rw [hm, nestG, e, nm_nd t u (by omega)]
      split
      · simp
      · rw [h1, Int.toNat_natCast, ih u' h2 (by omega) f (d + 1) _ (by omega) (by omega), nestG_app t k (pth t u') [u] m _ (by omega), hm, Nat.add_sub_cancel, show d + 1 + m = d + (m + 1) by omega]
theorem nest_top {t : List ND} {i : Nat} (hU : UpB t i) (hi : i ≤ t.length) (h00 : (t.getD 0 nd0).name = []) (w : List Nat) {u : Nat} (hu : u < i) {f : Nat} (hf : u < f) : nestR t (kindS w) f u 0 false = (decide ((pth t u).length ≤ 200) && nestedS t (pth t u) w) := by
  obtain ⟨f, rfl⟩ : ∃ g, f = g + 1 := ⟨f - 1, by omega⟩
  rw [nestR, nestedS, pth_last hU hu, nm_nd t u (by omega)]
  rcases Nat.eq_zero_or_pos u with h | h
  · subst h
    have hk : kindS ([] : List Nat) = 0 := by decide
    rw [if_neg (by omega), h00, hk]; simp [pth_zero, nestG]
  · obtain ⟨u', h1, h2⟩ := hU u h hu
    have hp := pth_len (t := t) u'
    obtain ⟨m, hm⟩ : ∃ m, (pth t u').length = m + 1 := ⟨(pth t u').length - 1, by omega⟩
    have e : (pth t u' ++ [u]).getD (m + 1) 0 = u := by
      rw [List.getD_eq_getElem?_getD, List.getElem?_append_right (by omega), hm]; simp
    rw [if_pos h, badR_1, pth_pos hU hu h h1 h2, List.length_append, List.length_singleton, Nat.add_sub_cancel, hm, nestG, e, nm_nd t u (by omega), h1, Int.toNat_natCast, nest_eq hU hi (kindS w) u' (by omega) f 1 _ (by omega) (by omega), nestG_app t (kindS w) (pth t u') [u] m _ (by omega), hm, Nat.add_sub_cancel]
    have e2 : decide (1 + m < 200) = decide (m + 1 + 1 ≤ 200) := by rw [Bool.eq_iff_iff]; simp; omega
    rw [e2]
    generalize decide (m + 1 + 1 ≤ 200) = a
    generalize badS (kindS w) (t.getD u nd0).name false = b
    generalize nestG t (kindS w) (pth t u') m _ = c
    cases decide (kindS w = 4) <;> cases decide (kindS (t.getD u nd0).name = 4) <;> cases a <;> cases b <;> cases c <;> rfl

theorem popS_pth {t : List ND} {i u : Nat} (hi : i < t.length) (h0 : 0 < i) (hO : ∀ j, 0 < j → j < i → OkU t j) (hu : (t.getD i nd0).up = (u : Int)) :
    (u < i ∧ walkR t u i (i - 1) = u ∧ popS (t.getD i nd0).up (pathAt t i) = pth t u) ∨ (walkR t u i (i - 1) ≠ u ∧ popS (t.getD i nd0).up (pathAt t i) = []) := by
  have hU : UpB t i := fun j h1 h2 => by obtain ⟨u, h3, h4, _⟩ := (hO j h1 h2).up; exact ⟨u, h3, h4⟩
  rw [hu, popS, pathAt_anc i h0 (by omega) hO]
  rcases anc_drop hU u (i - 1) (by omega) i (by omega) with ⟨h1, h2, h3⟩ | ⟨h1, h2, h3⟩
  · left; have := anc_le hU (i - 1) (by omega) u h1; exact ⟨by omega, h2, by rw [h3]; rfl⟩
  · right; exact ⟨h2, by rw [h3]; rfl⟩
theorem popS_int {u : Int} {p : List Nat} (h : popS u p ≠ []) : ∃ v : Nat, u = (v : Int) := by
  obtain ⟨l, q, h1, h2⟩ := popS_last u p h; exact ⟨q, h2.symm⟩
theorem upOf_pth {t : List ND} {i u : Nat} (hU : UpB t i) (hu : u < i) : upOf t (pth t u) = t.getD u nd0 := by
  unfold upOf; rw [pth_last hU hu]

theorem idxS_first {x : Int} : ∀ (l : List Int) (i k : Nat), k < l.length → l.getD k 0 = x → (∀ j, j < k → l.getD j 0 ≠ x) → idxS x l i = ((i + k : Nat) : Int)
  | [], i, k, h, _, _ => by simp at h
  | y :: l, i, 0, h, h1, _ => by
    have : y = x := h1
    rw [idxS, if_pos this.symm]; simp
  | y :: l, i, k + 1, h, h1, h2 => by
    rw [idxS, if_neg (fun e => h2 0 (by omega) e.symm), idxS_first l (i + 1) k (by simpa using h) h1 (fun j hj => h2 (j + 1) (by omega))]
    rw [show i + 1 + k = i + (k + 1) by omega]
theorem kd_nd (t : List ND) (z : Nat) : kdS t (z : Int) = (t.getD z nd0).kind := by
  unfold kdS
  rw [Int.toNat_natCast, List.getD_eq_getElem?_getD]
  cases t[z]? <;> rfl
/-- Where a node stands among its parent's children. -/
theorem kid_idx {t : List ND} (hK : ∀ j, 0 < j → j < t.length → KidOK t j) (hA : ∀ j, j < t.length → (cntAt t t.length).getD j 0 = (t.getD j nd0).kids.length) {i u : Nat} (h0 : 0 < i) (hi : i < t.length) (hu : (t.getD i nd0).up.toNat = u) (hut : u < t.length) : idxS (i : Int) (t.getD u nd0).kids 0 = (((cntAt t i).getD u 0 : Nat) : Int) := by
  obtain ⟨k1, k2⟩ := hK i h0 hi
  rw [hu] at k1 k2
  have := idxS_first (x := (i : Int)) (t.getD u nd0).kids 0 ((cntAt t i).getD u 0) k1 k2 ?_
  · rwa [Nat.zero_add] at this
  · intro j hj he
    have hj2 : j < (cntAt t t.length).getD u 0 := by rw [hA u hut]; omega
    obtain ⟨z, _, _, h3, h4, h5⟩ := cnt_slot t.length hK (Nat.le_refl _) u j hj2
    rw [h5] at he
    have : z = i := by omega
    subst this; omega
theorem prev_iff {t : List ND} (hK : ∀ j, 0 < j → j < t.length → KidOK t j) (hA : ∀ j, j < t.length → (cntAt t t.length).getD j 0 = (t.getD j nd0).kids.length) {i u : Nat} (h0 : 0 < i) (hi : i < t.length) (hu : (t.getD i nd0).up.toNat = u) (hut : u < t.length) :
    prevS t (t.getD u nd0) i = true ↔ ((cntAt t i).getD u 0 = 0 ∨ (t.getD ((t.getD u nd0).kids.getD ((cntAt t i).getD u 0 - 1) 0).toNat nd0).kind ≠ 2) := by
  unfold prevS
  rw [kid_idx hK hA h0 hi hu hut, Bool.or_eq_true, decide_eq_true_eq, decide_eq_true_eq]
  generalize hc : (cntAt t i).getD u 0 = c
  rcases Nat.eq_zero_or_pos c with h | h
  · subst h; simp
  · have hlt : c - 1 < (cntAt t t.length).getD u 0 := by
      rw [hA u hut]; have := (hK i h0 hi).lt; rw [hu, hc] at this; omega
    obtain ⟨z, _, _, _, _, h5⟩ := cnt_slot t.length hK (Nat.le_refl _) u (c - 1) hlt
    rw [show ((c : Int) - 1).toNat = c - 1 by omega, h5, Int.toNat_natCast, kd_nd]
    constructor
    · rintro (h1 | h1)
      · omega
      · exact .inr h1
    · rintro (h1 | h1)
      · omega
      · exact .inr h1
end Go.Ab.Dirs
end

set_option maxRecDepth 100000
noncomputable section
namespace Go.Ab.Dirs
open Go Go.Ab

theorem head_k {t : List ND} (h : headS t = true) : (t.getD 0 nd0).kind = 0 ∧ 0 < t.length ∧ t.length ≤ 16384 := by
  rw [headS_eq] at h
  simp only [Bool.not_eq_true', Bool.not_eq_false', decide_eq_true_eq, Bool.or_eq_false_iff, decide_eq_false_iff_not] at h
  omega
theorem dec_cast0 (n : Nat) : decide ((n : Int) = 0) = decide (n = 0) := by rw [Bool.eq_iff_iff]; simp
theorem dec_pos (n : Nat) : decide ((0 : Int) < n) = decide (0 < n) := by rw [Bool.eq_iff_iff]; simp
theorem fits0_iff {t : List ND} (p : List Nat) (hk : (t.getD 0 nd0).kind = 0) : fitsS t p 0 (t.getD 0 nd0) = nodeR t 0 (t.getD 0 nd0) := by
  unfold fitsS nodeR plainS
  rw [if_pos rfl, if_pos hk, dec_cast0]
  simp
/-- A node below a path. -/
theorem fits_iff {t : List ND} (hK : ∀ j, 0 < j → j < t.length → KidOK t j) (hA : ∀ j, j < t.length → (cntAt t t.length).getD j 0 = (t.getD j nd0).kids.length) (h00 : (t.getD 0 nd0).name = []) {i u : Nat} (h0 : 0 < i) (hi : i < t.length) (hU : UpB t i) (hu : (t.getD i nd0).up = (u : Int)) (hlt : u < i) :
    fitsS t (pth t u) i (t.getD i nd0) = true ↔ upBad (t.getD u nd0) = false ∧ nodeR t i (t.getD i nd0) = true ∧ ((t.getD i nd0).kind = 2 → prevS t (t.getD u nd0) i = true) := by
  unfold fitsS nodeR
  rw [if_neg (by omega), upOf_pth hU hlt]
  cases hB : upBad (t.getD u nd0) with
  | true => simp
  | false =>
    simp only [Bool.false_eq_true, if_false, true_and]
    by_cases k2 : (t.getD i nd0).kind = 2
    · rw [if_pos k2, if_neg (by omega), if_neg (by omega), if_pos k2, dec_cast0]
      unfold plainS
      simp only [Bool.and_eq_true, decide_eq_true_eq, Bool.not_eq_true', decide_eq_false_iff_not, ne_eq]
      constructor
      · rintro ⟨⟨a, b⟩, c, d, e⟩; exact ⟨⟨⟨⟨a, b⟩, c⟩, d⟩, fun _ => e⟩
      · rintro ⟨⟨⟨⟨a, b⟩, c⟩, d⟩, e⟩; exact ⟨⟨a, b⟩, c, d, e k2⟩
    · rw [if_neg k2]
      by_cases k1 : (t.getD i nd0).kind = 1
      · rw [if_pos k1, if_neg (by omega), if_pos k1, hu, Int.toNat_natCast, nest_top hU (by omega) h00 _ hlt hlt, dec_pos]
        simp only [Bool.and_eq_true, decide_eq_true_eq]
        constructor
        · rintro ⟨a, b, c, d, e⟩; exact ⟨⟨⟨⟨b, a⟩, c⟩, d, e⟩, fun h => absurd h k2⟩
        · rintro ⟨⟨⟨⟨b, a⟩, c⟩, d, e⟩, _⟩; exact ⟨a, b, c, d, e⟩
      · rw [if_neg k1, if_neg k1, if_neg k2]
        by_cases k0 : (t.getD i nd0).kind = 0
        · rw [if_pos k0, decide_eq_false (show ¬ (i : Int) = 0 by omega)]; simp
        · rw [if_neg k0]; simp

theorem rightP_iff {t : List ND} : RightP t ↔ rightS t = true := by
  rw [rightS_iff]
  constructor
  · rintro ⟨⟨hH, hO, hK, hA⟩, hn, htt⟩
    obtain ⟨hk, hp, hN⟩ := head_k hH
    have h00 : (t.getD 0 nd0).name = [] := by
      have := hn 0 hp; unfold nodeR at this; rw [if_pos hk] at this
      simp only [Bool.and_eq_true, decide_eq_true_eq] at this; exact this.1.1.2
    refine ⟨hH, fun j hj => ?_, hA⟩
    rcases Nat.eq_zero_or_pos j with h0 | h0
    · subst h0
      exact ⟨fun _ => by rw [fits0_iff _ hk]; exact hn 0 hp, fun h => absurd rfl h, fun h => absurd rfl h, fun h => absurd rfl h⟩
    · obtain ⟨u, hu, hlt, hB, hw⟩ := (hO j h0 hj).up
      have hU : UpB t j := fun k h1 h2 => by obtain ⟨u, h3, h4, _⟩ := (hO k h1 (by omega)).up; exact ⟨u, h3, h4⟩
      rcases popS_pth hj h0 (fun k h1 h2 => hO k h1 (by omega)) hu with ⟨_, _, h3⟩ | ⟨h2, _⟩
      · refine ⟨fun h => absurd h (by omega), fun _ => ?_, fun _ => hK j h0 hj, fun _ => ?_⟩
        · rw [h3]; intro e; have := pth_len (t := t) u; rw [e] at this; exact absurd this (by decide)
        · rw [h3, fits_iff hK hA h00 h0 hj hU hu hlt]
          refine ⟨hB, hn j hj, fun hk2 => ?_⟩
          rw [prev_iff hK hA h0 hj (by rw [hu, Int.toNat_natCast]) (by omega)]
          rcases Nat.eq_zero_or_pos ((cntAt t j).getD u 0) with hc | hc
          · exact .inl hc
          · right; intro h
            obtain ⟨k1, k2⟩ := hK j h0 hj
            rw [hu, Int.toNat_natCast] at k1 k2
            exact htt u (by omega) _ hc k1 ⟨h, by rw [k2, Int.toNat_natCast]; exact hk2⟩
      · exact absurd hw h2
  · rintro ⟨hH, hS, hA⟩
    obtain ⟨hk, hp, hN⟩ := head_k hH
    have hn0 : nodeR t 0 (t.getD 0 nd0) = true := by rw [← fits0_iff _ hk]; exact (hS 0 hp).zero rfl
    have h00 : (t.getD 0 nd0).name = [] := by
      have := hn0; unfold nodeR at this; rw [if_pos hk] at this
      simp only [Bool.and_eq_true, decide_eq_true_eq] at this; exact this.1.1.2
    have hK : ∀ j, 0 < j → j < t.length → KidOK t j := fun j h1 h2 => (hS j h2).kid (by omega)
    have key : ∀ j, 0 < j → j < t.length → OkU t j ∧ nodeR t j (t.getD j nd0) = true ∧ ((t.getD j nd0).kind = 2 → prevS t (t.getD (t.getD j nd0).up.toNat nd0) j = true) := by
      intro j
      induction j using Nat.strongRecOn with
      | ind j ih =>
        intro h0 hj
        have hO : ∀ k, 0 < k → k < j → OkU t k := fun k h1 h2 => (ih k h2 h1 (by omega)).1
        have hU : UpB t j := fun k h1 h2 => by obtain ⟨u, h3, h4, _⟩ := (hO k h1 h2).up; exact ⟨u, h3, h4⟩
        have hpop := (hS j hj).pop (by omega)
        obtain ⟨u, hu⟩ := popS_int hpop
        rcases popS_pth hj h0 hO hu with ⟨h1, h2, h3⟩ | ⟨_, h3⟩
        · have hf := (hS j hj).fits (by omega)
          rw [h3, fits_iff hK hA h00 h0 hj hU hu h1] at hf
          exact ⟨⟨u, hu, h1, hf.1, h2⟩, hf.2.1, by rw [hu, Int.toNat_natCast]; exact hf.2.2⟩
        · exact absurd h3 hpop
    refine ⟨⟨hH, fun j h1 h2 => (key j h1 h2).1, hK, hA⟩, fun i hi => ?_, fun i hi k hk0 hk => ?_⟩
    · rcases Nat.eq_zero_or_pos i with h | h
      · subst h; exact hn0
      · exact (key i h hi).2.1
    · rintro ⟨h1, h2⟩
      rw [← hA i hi] at hk
      obtain ⟨z, z0, zl, z1, z2, z3⟩ := cnt_slot t.length hK (Nat.le_refl _) i k hk
      rw [z3, Int.toNat_natCast] at h2
      have := (key z z0 zl).2.2 h2
      rw [z1, prev_iff hK hA z0 zl z1 hi, z2] at this
      rcases this with h | h
      · omega
      · exact h h1

theorem rRight_ok {σ : St} {t : List ND} {tv : AVal} (ht : TreeI σ tv t) (hwf : ∀ n ∈ t, NWF n) : CW TS false 18 [tv] σ fun v s => v = .int .i64 (if rightS t then 0 else 53) ∧ Fr σ s := by
  refine CW_mono (rRight_ok' ht hwf) ?_
  rintro v s ⟨c, rfl, hf, ⟨rfl, h⟩ | ⟨rfl, h⟩⟩
  · rw [rightP_iff.1 h]; exact ⟨rfl, hf⟩
  · rw [rightP_iff, Bool.not_eq_true] at h
    rw [h]; exact ⟨rfl, hf⟩
end Go.Ab.Dirs
end

set_option maxRecDepth 100000
noncomputable section
namespace Go.Ab.Dirs
open Go Go.Ab

/-- Texts and values are short. -/
def Short (t : List ND) : Prop := ∀ n ∈ t, n.data.length < 1000000000 ∧ ∀ a ∈ n.attrs, a.2.length < 1000000000

/-- What lies in a process's memory. -/
structure BN (m : Nat) (n : ND) : Prop where
  name : n.name.length ≤ m
  data : n.data.length ≤ m
  alen : n.attrs.length ≤ m
  klen : n.kids.length ≤ m
  a1 : ∀ a ∈ n.attrs, a.1.length ≤ m
  a2 : ∀ a ∈ n.attrs, a.2.length ≤ m
def BT (m : Nat) (t : List ND) : Prop := t.length ≤ m ∧ ∀ n ∈ t, BN m n
theorem BT.at' {m : Nat} {t : List ND} (h : BT m t) {i : Nat} (hi : i < t.length) : BN m (t.getD i nd0) := by rw [getD_lt hi]; exact h.2 _ (List.getElem_mem _)
theorem BT.short {t : List ND} (h : BT 10000 t) : Short t := fun n hn => ⟨by have := (h.2 n hn).data; omega, fun a ha => by have := (h.2 n hn).a2 a ha; omega⟩

set_option maxHeartbeats 8000000 in
theorem Size_sm {σ : St} {t : List ND} {tv : AVal} (ht : TreeI σ tv t) (hB : BT 140737488355328 t) {top : Nat} (htop : top ≤ 1000000) : CW TS false 9 [tv, .int .i64 (top : Int)] σ fun v s => ∃ r : Nat, v = .int .i64 (r : Int) ∧ s = σ ∧ (r ≤ top → BT top t) := by
  have hB0 := hB.1
  refine CW_of fn9 rfl ?_
  repeat' (first | ((first | apply RG_step | apply DG_step | apply DG_read); focus (intro hgd; have hgd2 := hgd; (try simp only [sB] at hgd); (try simp only [sP] at hgd2); simp (maxSteps := 1000000) (disch := (first | omega | assumption | exact Fr.refl _)) only [hgd, sR, reduceIte, Nat.reduceEqDiff, Int.reduceLT, Int.reduceLE, Int.reduceEq, Int.reduceNeg, reduceCtorEq, Nat.reduceAdd, Int.reduceToNat, c9, ht.len]; exact StepIs_refl)) | ((first | refine Br_intro ?_ ?_ | refine BrB_intro ?_ ?_) <;> intro hbr hbe <;> simp (maxSteps := 1000000) (disch := (first | omega | assumption | exact Fr.refl _)) only [hbe, sR, reduceIte, Nat.reduceEqDiff, Int.reduceLT, Int.reduceLE, Int.reduceEq, Int.reduceNeg, reduceCtorEq, Nat.reduceAdd, Int.reduceToNat, c9, ht.len] <;> clear hbe) | simp (maxSteps := 1000000) (disch := (first | omega | assumption | exact Fr.refl _)) only [sR, reduceIte, Nat.reduceEqDiff, Int.reduceLT, Int.reduceLE, Int.reduceEq, Int.reduceNeg, reduceCtorEq, Nat.reduceAdd, Int.reduceToNat, c9, ht.len])
  refine W_loop (fun m e s => ∃ (i n : Nat), i + m = t.length ∧ s = σ ∧ V e 0 = tv ∧ V e 1 = .int .i64 (top : Int) ∧ V e 5 = .int .i64 (n : Int) ∧ V e 6 = .int .i64 (i : Int) ∧ n ≤ top + 10 * 140737488355328 ∧ t.length ≤ n ∧ (n ≤ top → ∀ j, j < i → BN top (t.getD j nd0))) t.length ⟨0, t.length, by omega, rfl, by simp only [sV, Nat.reduceEqDiff, reduceIte, Nat.reduceAdd], by simp only [sV, Nat.reduceEqDiff, reduceIte, Nat.reduceAdd], by simp only [sV, Nat.reduceEqDiff, reduceIte, Nat.reduceAdd], by simp only [sV, Nat.reduceEqDiff, reduceIte, Nat.reduceAdd]; rfl, by omega, by omega, fun _ j h => by omega⟩ ?_
  rintro m e s ⟨i, n, him, rfl, v0, v1, v5, v6, hn, hnl, hI⟩
  repeat' (first | ((first | apply RG_step | apply DG_step | apply DG_read); focus (intro hgd; have hgd2 := hgd; (try simp only [sB] at hgd); (try simp only [sP] at hgd2); simp (maxSteps := 1000000) (disch := (first | omega | assumption | exact Fr.refl _)) only [hgd, sR, reduceIte, Nat.reduceEqDiff, Int.reduceLT, Int.reduceLE, Int.reduceEq, Int.reduceNeg, reduceCtorEq, Nat.reduceAdd, Int.reduceToNat, L9_2, v0, v1, v5, v6, ht.len]; exact StepIs_refl)) | ((first | refine Br_intro ?_ ?_ | refine BrB_intro ?_ ?_) <;> intro hbr hbe <;> simp (maxSteps := 1000000) (disch := (first | omega | assumption | exact Fr.refl _)) only [hbe, sR, reduceIte, Nat.reduceEqDiff, Int.reduceLT, Int.reduceLE, Int.reduceEq, Int.reduceNeg, reduceCtorEq, Nat.reduceAdd, Int.reduceToNat, L9_2, v0, v1, v5, v6, ht.len] <;> clear hbe) | simp (maxSteps := 1000000) (disch := (first | omega | assumption | exact Fr.refl _)) only [sR, reduceIte, Nat.reduceEqDiff, Int.reduceLT, Int.reduceLE, Int.reduceEq, Int.reduceNeg, reduceCtorEq, Nat.reduceAdd, Int.reduceToNat, L9_2, v0, v1, v5, v6, ht.len])
  · simp only [Bool.and_eq_true, decide_eq_true_eq] at hbr
    have hi : i < t.length := by omega
    have hI := hI (by omega)
    obtain ⟨b1, b2, b3, b4, b5, b6⟩ := hB.at' hi
    have hA := ht.as hi
    repeat' (first | ((first | apply RG_step | apply DG_step | apply DG_read); focus (intro hgd; have hgd2 := hgd; (try simp only [sB] at hgd); (try simp only [sP] at hgd2); simp (maxSteps := 1000000) (disch := (first | omega | assumption | exact Fr.refl _)) only [hgd, sR, reduceIte, Nat.reduceEqDiff, Int.reduceLT, Int.reduceLE, Int.reduceEq, Int.reduceNeg, reduceCtorEq, Nat.reduceAdd, Int.reduceToNat, v0, v1, v5, v6, ht.ixz, ht.a1, ht.n1, ht.a2, ht.n2, ht.a3, ht.n3, ht.a5, ht.n5, ht.kl, ht.al, w_add]; exact StepIs_refl)) | ((first | refine Br_intro ?_ ?_ | refine BrB_intro ?_ ?_) <;> intro hbr hbe <;> simp (maxSteps := 1000000) (disch := (first | omega | assumption | exact Fr.refl _)) only [hbe, sR, reduceIte, Nat.reduceEqDiff, Int.reduceLT, Int.reduceLE, Int.reduceEq, Int.reduceNeg, reduceCtorEq, Nat.reduceAdd, Int.reduceToNat, v0, v1, v5, v6, ht.ixz, ht.a1, ht.n1, ht.a2, ht.n2, ht.a3, ht.n3, ht.a5, ht.n5, ht.kl, ht.al, w_add] <;> clear hbe) | simp (maxSteps := 1000000) (disch := (first | omega | assumption | exact Fr.refl _)) only [sR, reduceIte, Nat.reduceEqDiff, Int.reduceLT, Int.reduceLE, Int.reduceEq, Int.reduceNeg, reduceCtorEq, Nat.reduceAdd, Int.reduceToNat, v0, v1, v5, v6, ht.ixz, ht.a1, ht.n1, ht.a2, ht.n2, ht.a3, ht.n3, ht.a5, ht.n5, ht.kl, ht.al, w_add])
    generalize hn0 : n + (t.getD i nd0).name.length + (t.getD i nd0).data.length + (t.getD i nd0).kids.length + (t.getD i nd0).attrs.length = n0
    refine W_loop (fun m' e s' => ∃ (k n' : Nat), k + m' = (t.getD i nd0).attrs.length ∧ s' = s ∧ V e 0 = tv ∧ V e 1 = .int .i64 (top : Int) ∧ V e 5 = .int .i64 (n' : Int) ∧ V e 6 = .int .i64 (i : Int) ∧ V e 7 = .int .i64 (k : Int) ∧ n' ≤ top + 10 * 140737488355328 ∧ n0 ≤ n' ∧ (n' ≤ top → ∀ j, j < k → ((t.getD i nd0).attrs.getD j at0).1.length ≤ top ∧ ((t.getD i nd0).attrs.getD j at0).2.length ≤ top)) (t.getD i nd0).attrs.length ⟨0, n0, by omega, rfl, by simp only [sV, Nat.reduceEqDiff, reduceIte, Nat.reduceAdd, v0], by simp only [sV, Nat.reduceEqDiff, reduceIte, Nat.reduceAdd, v1], by simp only [sV, Nat.reduceEqDiff, reduceIte, Nat.reduceAdd], by simp only [sV, Nat.reduceEqDiff, reduceIte, Nat.reduceAdd, v6], by simp only [sV, Nat.reduceEqDiff, reduceIte, Nat.reduceAdd]; rfl, by omega, by omega, fun _ j h => by omega⟩ ?_
    clear v0 v1 v5 v6
    rintro m' e s' ⟨k, n', hkm, rfl, v0, v1, v5, v6, v7, hn', hnn, hJ⟩
    repeat' (first | ((first | apply RG_step | apply DG_step | apply DG_read); focus (intro hgd; have hgd2 := hgd; (try simp only [sB] at hgd); (try simp only [sP] at hgd2); simp (maxSteps := 1000000) (disch := (first | omega | assumption | exact Fr.refl _)) only [hgd, sR, reduceIte, Nat.reduceEqDiff, Int.reduceLT, Int.reduceLE, Int.reduceEq, Int.reduceNeg, reduceCtorEq, Nat.reduceAdd, Int.reduceToNat, L9_1, v0, v1, v5, v6, v7, ht.ixz, ht.a2, ht.n2, ht.al]; exact StepIs_refl)) | ((first | refine Br_intro ?_ ?_ | refine BrB_intro ?_ ?_) <;> intro hbr hbe <;> simp (maxSteps := 1000000) (disch := (first | omega | assumption | exact Fr.refl _)) only [hbe, sR, reduceIte, Nat.reduceEqDiff, Int.reduceLT, Int.reduceLE, Int.reduceEq, Int.reduceNeg, reduceCtorEq, Nat.reduceAdd, Int.reduceToNat, L9_1, v0, v1, v5, v6, v7, ht.ixz, ht.a2, ht.n2, ht.al] <;> clear hbe) | simp (maxSteps := 1000000) (disch := (first | omega | assumption | exact Fr.refl _)) only [sR, reduceIte, Nat.reduceEqDiff, Int.reduceLT, Int.reduceLE, Int.reduceEq, Int.reduceNeg, reduceCtorEq, Nat.reduceAdd, Int.reduceToNat, L9_1, v0, v1, v5, v6, v7, ht.ixz, ht.a2, ht.n2, ht.al])
    · simp only [Bool.and_eq_true, decide_eq_true_eq] at hbr
      have hk : k < (t.getD i nd0).attrs.length := by omega
      have ha : (t.getD i nd0).attrs.getD k at0 ∈ (t.getD i nd0).attrs := by rw [getD_lt hk]; exact List.getElem_mem _
      have c1 := b5 _ ha
      have c2 := b6 _ ha
      have hJ := hJ (by omega)
      repeat' (first | ((first | apply RG_step | apply DG_step | apply DG_read); focus (intro hgd; have hgd2 := hgd; (try simp only [sB] at hgd); (try simp only [sP] at hgd2); simp (maxSteps := 1000000) (disch := (first | omega | assumption | exact Fr.refl _)) only [hgd, sR, reduceIte, Nat.reduceEqDiff, Int.reduceLT, Int.reduceLE, Int.reduceEq, Int.reduceNeg, reduceCtorEq, Nat.reduceAdd, Int.reduceToNat, v0, v1, v5, v6, v7, ht.ixz, ht.a2, ht.n2, hA.ixz, hA.f0, hA.f1, hA.l0, hA.l1, w_add, w_add1]; exact StepIs_refl)) | ((first | refine Br_intro ?_ ?_ | refine BrB_intro ?_ ?_) <;> intro hbr hbe <;> simp (maxSteps := 1000000) (disch := (first | omega | assumption | exact Fr.refl _)) only [hbe, sR, reduceIte, Nat.reduceEqDiff, Int.reduceLT, Int.reduceLE, Int.reduceEq, Int.reduceNeg, reduceCtorEq, Nat.reduceAdd, Int.reduceToNat, v0, v1, v5, v6, v7, ht.ixz, ht.a2, ht.n2, hA.ixz, hA.f0, hA.f1, hA.l0, hA.l1, w_add, w_add1] <;> clear hbe) | simp (maxSteps := 1000000) (disch := (first | omega | assumption | exact Fr.refl _)) only [sR, reduceIte, Nat.reduceEqDiff, Int.reduceLT, Int.reduceLE, Int.reduceEq, Int.reduceNeg, reduceCtorEq, Nat.reduceAdd, Int.reduceToNat, v0, v1, v5, v6, v7, ht.ixz, ht.a2, ht.n2, hA.ixz, hA.f0, hA.f1, hA.l0, hA.l1, w_add, w_add1])
      refine ⟨m' - 1, by omega, k + 1, n' + ((t.getD i nd0).attrs.getD k at0).1.length + ((t.getD i nd0).attrs.getD k at0).2.length, by omega, rfl, by simp only [sV, Nat.reduceEqDiff, reduceIte, Nat.reduceAdd, v0], by simp only [sV, Nat.reduceEqDiff, reduceIte, Nat.reduceAdd, v1], by simp only [sV, Nat.reduceEqDiff, reduceIte, Nat.reduceAdd], by simp only [sV, Nat.reduceEqDiff, reduceIte, Nat.reduceAdd, v6], by simp only [sV, Nat.reduceEqDiff, reduceIte, Nat.reduceAdd], by omega, by omega, fun h j hj => ?_⟩
      by_cases hjk : j = k
      · subst hjk; omega
      · exact hJ j (by omega)
    · simp only [Bool.and_eq_false_iff, decide_eq_false_iff_not] at hbr
      repeat' (first | ((first | apply RG_step | apply DG_step | apply DG_read); focus (intro hgd; have hgd2 := hgd; (try simp only [sB] at hgd); (try simp only [sP] at hgd2); simp (maxSteps := 1000000) (disch := (first | omega | assumption | exact Fr.refl _)) only [hgd, sR, reduceIte, Nat.reduceEqDiff, Int.reduceLT, Int.reduceLE, Int.reduceEq, Int.reduceNeg, reduceCtorEq, Nat.reduceAdd, Int.reduceToNat, v0, v1, v5, v6, v7, w_add1]; exact StepIs_refl)) | ((first | refine Br_intro ?_ ?_ | refine BrB_intro ?_ ?_) <;> intro hbr hbe <;> simp (maxSteps := 1000000) (disch := (first | omega | assumption | exact Fr.refl _)) only [hbe, sR, reduceIte, Nat.reduceEqDiff, Int.reduceLT, Int.reduceLE, Int.reduceEq, Int.reduceNeg, reduceCtorEq, Nat.reduceAdd, Int.reduceToNat, v0, v1, v5, v6, v7, w_add1] <;> clear hbe) | simp (maxSteps := 1000000) (disch := (first | omega | assumption | exact Fr.refl _)) only [sR, reduceIte, Nat.reduceEqDiff, Int.reduceLT, Int.reduceLE, Int.reduceEq, Int.reduceNeg, reduceCtorEq, Nat.reduceAdd, Int.reduceToNat, v0, v1, v5, v6, v7, w_add1])
      refine ⟨m - 1, by omega, i + 1, n', by omega, rfl, by simp only [sV, Nat.reduceEqDiff, reduceIte, Nat.reduceAdd, v0], by simp only [sV, Nat.reduceEqDiff, reduceIte, Nat.reduceAdd, v1], by simp only [sV, Nat.reduceEqDiff, reduceIte, Nat.reduceAdd, v5], by simp only [sV, Nat.reduceEqDiff, reduceIte, Nat.reduceAdd], by omega, by omega, fun h j hj => ?_⟩
      by_cases hji : j = i
      · subst hji
        have hJ := hJ h
        refine ⟨by omega, by omega, by omega, by omega, fun a ha => ?_, fun a ha => ?_⟩
        · obtain ⟨x, hx, rfl⟩ := List.mem_iff_getElem.1 ha
          rw [← getD_lt hx at0]; exact (hJ x (by omega)).1
        · obtain ⟨x, hx, rfl⟩ := List.mem_iff_getElem.1 ha
          rw [← getD_lt hx at0]; exact (hJ x (by omega)).2
      · exact hI j (by omega)
  · simp only [Bool.and_eq_false_iff, decide_eq_false_iff_not] at hbr
    have hw : wrapI .i64 ((top : Int) + 1) = ((top + 1 : Nat) : Int) := w_add1 (by omega)
    repeat' (first | ((first | apply RG_step | apply DG_step | apply DG_read); focus (intro hgd; have hgd2 := hgd; (try simp only [sB] at hgd); (try simp only [sP] at hgd2); simp (maxSteps := 1000000) (disch := (first | omega | assumption | exact Fr.refl _)) only [hgd, sR, reduceIte, Nat.reduceEqDiff, Int.reduceLT, Int.reduceLE, Int.reduceEq, Int.reduceNeg, reduceCtorEq, Nat.reduceAdd, Int.reduceToNat, opMn, v1, v5, hw]; exact StepIs_refl)) | ((first | refine Br_intro ?_ ?_ | refine BrB_intro ?_ ?_) <;> intro hbr hbe <;> simp (maxSteps := 1000000) (disch := (first | omega | assumption | exact Fr.refl _)) only [hbe, sR, reduceIte, Nat.reduceEqDiff, Int.reduceLT, Int.reduceLE, Int.reduceEq, Int.reduceNeg, reduceCtorEq, Nat.reduceAdd, Int.reduceToNat, opMn, v1, v5, hw] <;> clear hbe) | simp (maxSteps := 1000000) (disch := (first | omega | assumption | exact Fr.refl _)) only [sR, reduceIte, Nat.reduceEqDiff, Int.reduceLT, Int.reduceLE, Int.reduceEq, Int.reduceNeg, reduceCtorEq, Nat.reduceAdd, Int.reduceToNat, opMn, v1, v5, hw])
    refine ⟨if n ≤ top + 1 then n else top + 1, ?_, fun h => ?_⟩
    · split <;> split <;> first | rfl | omega
    · have hnt : n ≤ top := by split at h <;> omega
      refine ⟨by omega, fun x hx => ?_⟩
      obtain ⟨j, hj, rfl⟩ := List.mem_iff_getElem.1 hx
      rw [← getD_lt hj nd0]; exact hI hnt j (by omega)
end Go.Ab.Dirs
end

set_option maxRecDepth 100000
noncomputable section
namespace Go.Ab.Dirs
open Go Go.Ab Go.Proofs Go.RowKit

section
variable {H : Type}
theorem by9 : Tryz.prog.bytesOf 39 = 32 := by kernel_rfl
theorem by36 : Tryz.prog.bytesOf 36 = 96 := by kernel_rfl
theorem by3 : Tryz.prog.bytesOf 3 = 8 := by kernel_rfl
theorem all2_bound {α : Type} {f : DataW H → α → Prop} {e : TypeId} {R : Nat} {B : α → Prop} (hf : ∀ d a, f d a → (∀ w ∈ d.weights Tryz.prog e, w ≤ R) → B a) : ∀ {es : List (DataW H)} {l : List α}, All2 f es l → (∀ w ∈ DataW.weightsAll Tryz.prog e es, w ≤ R) → ∀ a ∈ l, B a
  | _, _, .nil, _ => fun a ha => by simp at ha
  | _, _, .cons hd ht, hw => by
    simp only [DataW.weightsAll, List.mem_append] at hw
    intro a ha
    rcases List.mem_cons.1 ha with rfl | ha
    · exact hf _ _ hd fun w h => hw w (.inl h)
    · exact all2_bound hf ht (fun w h => hw w (.inr h)) a ha
theorem row_bound {α : Type} {f : DataW H → α → Prop} {t e : TypeId} (hu : Tryz.prog.underlying t = some (.slice e)) {b R : Nat} (hb : Tryz.prog.bytesOf e = b) {B : α → Prop} (hf : ∀ d a, f d a → (∀ w ∈ d.weights Tryz.prog e, w ≤ R) → B a) {d : DataW H} {l : List α} (h : RowOf f d l) (hw : ∀ w ∈ d.weights Tryz.prog t, w ≤ R) : l.length * b ≤ R ∧ ∀ a ∈ l, B a := by
  cases h with
  | nil => exact ⟨by simp, fun a ha => by simp at ha⟩
  | slice hl hh =>
    rename_i es rest
    simp only [DataW.weights, hu, hb, List.mem_cons, List.mem_append] at hw
    refine ⟨?_, all2_bound hf hh fun w h => hw w (.inr (.inl h))⟩
    have := hw _ (.inl rfl)
    rw [← hh.len]
    exact Nat.le_trans (Nat.mul_le_mul_right b (Nat.le_add_right _ _)) this
theorem attr_bound {R : Nat} (d : DataW H) (a : AttrD) (h : AttrOf d a) (hw : ∀ w ∈ d.weights Tryz.prog 39, w ≤ R) : a.1.length ≤ R ∧ a.2.length ≤ R := by
  obtain ⟨b1, b2, rfl, rfl, _, _⟩ := h
  simp only [DataW.weights, Tryz.underlying39, DataW.weightsEach, List.map_cons, List.map_nil, List.mem_append, List.mem_singleton, List.not_mem_nil, or_false] at hw
  exact ⟨by simp only [bN, List.length_map]; exact hw _ (.inl rfl), by simp only [bN, List.length_map]; exact hw _ (.inr rfl)⟩
theorem int_bound {R : Nat} (d : DataW H) (n : Int) (_ : IntOf d n) (_ : ∀ w ∈ d.weights Tryz.prog 3, w ≤ R) : True := trivial
theorem node_bound {R : Nat} (d : DataW H) (n : ND) (h : NodeOf d n) (hw : ∀ w ∈ d.weights Tryz.prog 36, w ≤ R) : BN R n := by
  obtain ⟨k, nm, ad, dt, kd, rfl, rfl, h1, h2, h3, h4, h5, h6⟩ := h
  simp only [DataW.weights, Tryz.underlying36, DataW.weightsEach, List.map_cons, List.map_nil, List.mem_append, List.mem_singleton, List.not_mem_nil, or_false, false_or] at hw
  have ha := row_bound (R := R) Tryz.underlying33 by9 attr_bound h5 fun w h => hw w (.inr (.inl h))
  have hk := row_bound (R := R) Tryz.underlying34 by3 int_bound h6 fun w h => hw w (.inr (.inr (.inr h)))
  exact ⟨by rw [h1, bN, List.length_map]; exact hw _ (.inl rfl), by rw [h2, bN, List.length_map]; exact hw _ (.inr (.inr (.inl rfl))), by omega, by omega, fun a h => (ha.2 a h).1, fun a h => (ha.2 a h).2⟩
theorem tree_bound {R : Nat} {d : DataW H} {t : List ND} (h : RowOf NodeOf d t) (hw : ∀ w ∈ d.weights Tryz.prog 23, w ≤ R) : BT R t := by
  have := row_bound (R := R) Tryz.underlying23 by36 node_bound h hw
  exact ⟨by omega, this.2⟩

/-- What is handed to a law as its tree. -/
theorem tree_argW {enc : TypeId × Value → H} {sp : Nat → Bool} {held : Bool} {W : World} {base : Nat} {v : Value} {d : DataW H} {p : List MemPlace} (hv : Value.okWide Tryz.prog W .any base 23 v) (h : DataW.Trod enc Tryz.prog W 0 sp held 23 v d p) (hw : ∀ w ∈ d.weights Tryz.prog 23, w ≤ reachBytes) :
    ∃ a t, VR W [] a v ∧ (∀ σ, TreeI σ a t) ∧ (∀ x ∈ t, NWF x) ∧ t.length < 9223372036854775808 ∧ BT 140737488355328 t := by
  obtain ⟨x, len, cap, rfl⟩ := Go.WideShapes.okWide_slice Tryz.underlying23 hv
  obtain ⟨fuel, hf⟩ := h
  obtain ⟨t, ht⟩ := tree_of hf
  obtain ⟨a, h1, h2, h3, h4⟩ := tree_dav ht
  have hS := OKS.of (P := Tryz.prog) (S := SS) tt_ok
  obtain ⟨hvr, -⟩ := trod_VRs hS fuel 6 23 _ d p [a] hf h1
  refine ⟨a, t, ?_, h2, h3, h4, tree_bound ht fun w hm => Nat.le_trans (hw w hm) (by decide)⟩
  have hc : (Value.slice x len cap).cells.toList = [.slice x len cap] := rfl
  rw [hc] at hvr
  obtain ⟨y, ys, e, hy, -⟩ := hvr
  cases e
  exact hy
end
end Go.Ab.Dirs
end
