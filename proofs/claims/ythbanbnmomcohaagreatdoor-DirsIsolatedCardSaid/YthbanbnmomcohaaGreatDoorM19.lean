/- dirs: words in small letters, kinds. -/
import Derived.Test.YthbanbnmomcohaaGreatDoorM17
import Derived.Test.YthbanbnmomcohaaGreatDoorM18
set_option linter.all false
set_option linter.unusedSimpArgs false
set_option maxRecDepth 10000
noncomputable section
namespace Go.Ab.Dirs
open Go Go.Ab

/-- A letter made small. -/
def low (c : Nat) : Nat := if 65 ≤ c ∧ c ≤ 90 then c + 32 else c

theorem same_loop (q : Bool) (s w : List Nat) (hs : ∀ c ∈ s, c < 256) (hl : s.length = w.length) (hb : s.length < 9223372036854775808) : ∀ (m : Nat) (i : Nat) (env : Env) (σ : St) (r : Option (Out × Env × St)), Ew TS q (.loop L45_1) env σ = r → i + m = s.length →
    V env 0 = .str s → V env 1 = .str w → V env 13 = .int .i64 s.length → V env 14 = .int .i64 i →
    ∃ e, (((s.drop i).map low = w.drop i ∧ r = some (.exit 0, e, σ)) ∨
      (¬ (s.drop i).map low = w.drop i ∧ r = some (.ret, e, σ) ∧ V e 4 = .bool false))
  | 0, i, env, σ, r, hr, hi, h0, h1, h13, h14 => by
    have hlt : ¬ ((i : Int) < (s.length : Int)) := by omega
    rw [Ew_loop] at hr
    simp only [L45_1, sA, reduceIte, Nat.reduceEqDiff, Int.reduceLT, Int.reduceLE, Int.reduceEq, Int.reduceNeg, reduceCtorEq, Nat.reduceAdd, opIxStr, h0, h1, h13, h14, hlt] at hr
    refine ⟨_, .inl ⟨?_, hr.symm⟩⟩
    rw [List.drop_eq_nil_of_le (by omega), List.drop_eq_nil_of_le (by omega)]; rfl
  | m + 1, i, env, σ, r, hr, hi, h0, h1, h13, h14 => by
    have hlt : ((i : Int) < (s.length : Int)) := by omega
    have his : i < s.length := by omega
    have hiw : i < w.length := by omega
    have hc := dropX_get his
    have hd := dropX_get hiw
    have hw : wrapI .i64 ((i : Int) + 1) = ((i + 1 : Nat) : Int) := by rw [wrap_i64 (by omega) (by omega)]; omega
    have hc256 := hs s[i] (List.getElem_mem _)
    have key : (s.drop i).map low = w.drop i ↔ low s[i] = w[i] ∧ (s.drop (i + 1)).map low = w.drop (i + 1) := by
      rw [List.drop_eq_getElem_cons his, List.drop_eq_getElem_cons hiw, List.map_cons, List.cons.injEq]
    rw [key]
    rw [Ew_loop] at hr
    have hlo : (65 ≤ s[i] ∧ s[i] ≤ 90 ∧ low s[i] = s[i] + 32) ∨ (¬ (65 ≤ s[i] ∧ s[i] ≤ 90) ∧ low s[i] = s[i]) := by
      unfold low; split
      · left; omega
      · right; omega
    rcases hlo with ⟨ha, hz, hl2⟩ | ⟨hn, hl2⟩
    · have ha' : (65 : Int) ≤ (s[i] : Int) := by omega
      have hz' : (s[i] : Int) ≤ 90 := by omega
      have hw2 : wrapI .u8 ((s[i] : Int) + 32) = ((s[i] + 32 : Nat) : Int) := by rw [wrap_u8 (by omega) (by omega)]; omega
      by_cases he : ¬ (((s[i] + 32 : Nat) : Int) = (w[i] : Int))
      · simp only [L45_1, sA, reduceIte, Nat.reduceEqDiff, Int.reduceLT, Int.reduceLE, Int.reduceEq, Int.reduceNeg, reduceCtorEq, Nat.reduceAdd, opIxStr, h0, h1, h13, h14, hlt, hc, hd, ha', hz', hw2, he] at hr
        refine ⟨_, .inr ⟨?_, hr.symm, by simp only [sV, Nat.reduceEqDiff, reduceIte, Nat.reduceAdd]⟩⟩
        rw [hl2]; omega
      · have he := Classical.not_not.1 he
        have hE := eq_true he
        simp only [L45_1, sA, reduceIte, Nat.reduceEqDiff, Int.reduceLT, Int.reduceLE, Int.reduceEq, Int.reduceNeg, reduceCtorEq, Nat.reduceAdd, opIxStr, h0, h1, h13, h14, hlt, hc, hd, ha', hz', hw2, hE, hw] at hr
        have hq : low s[i] = w[i] := by rw [hl2]; omega
        simp only [hq, true_and]
        exact same_loop q s w hs hl hb m (i + 1) _ σ r hr (by omega) (by simp only [sV, Nat.reduceEqDiff, reduceIte, Nat.reduceAdd, h0]) (by simp only [sV, Nat.reduceEqDiff, reduceIte, Nat.reduceAdd, h1]) (by simp only [sV, Nat.reduceEqDiff, reduceIte, Nat.reduceAdd, h13]) (by simp only [sV, Nat.reduceEqDiff, reduceIte, Nat.reduceAdd])
    · have hk : (¬ (65 : Int) ≤ (s[i] : Int)) ∨ ((65 : Int) ≤ (s[i] : Int) ∧ ¬ (s[i] : Int) ≤ 90) := by omega
      by_cases he : ¬ ((s[i] : Int) = (w[i] : Int))
      · rcases hk with ha' | ⟨ha', hz'⟩
        · simp only [L45_1, sA, reduceIte, Nat.reduceEqDiff, Int.reduceLT, Int.reduceLE, Int.reduceEq, Int.reduceNeg, reduceCtorEq, Nat.reduceAdd, opIxStr, h0, h1, h13, h14, hlt, hc, hd, ha', he] at hr
          refine ⟨_, .inr ⟨?_, hr.symm, by simp only [sV, Nat.reduceEqDiff, reduceIte, Nat.reduceAdd]⟩⟩
          rw [hl2]; omega
        · simp only [L45_1, sA, reduceIte, Nat.reduceEqDiff, Int.reduceLT, Int.reduceLE, Int.reduceEq, Int.reduceNeg, reduceCtorEq, Nat.reduceAdd, opIxStr, h0, h1, h13, h14, hlt, hc, hd, ha', hz', he] at hr
          refine ⟨_, .inr ⟨?_, hr.symm, by simp only [sV, Nat.reduceEqDiff, reduceIte, Nat.reduceAdd]⟩⟩
          rw [hl2]; omega
      · have he := Classical.not_not.1 he
        have hE := eq_true he
        have hq : low s[i] = w[i] := by rw [hl2]; omega
        rcases hk with ha' | ⟨ha', hz'⟩
        · simp only [L45_1, sA, reduceIte, Nat.reduceEqDiff, Int.reduceLT, Int.reduceLE, Int.reduceEq, Int.reduceNeg, reduceCtorEq, Nat.reduceAdd, opIxStr, h0, h1, h13, h14, hlt, hc, hd, ha', hE, hw] at hr
          simp only [hq, true_and]
          exact same_loop q s w hs hl hb m (i + 1) _ σ r hr (by omega) (by simp only [sV, Nat.reduceEqDiff, reduceIte, Nat.reduceAdd, h0]) (by simp only [sV, Nat.reduceEqDiff, reduceIte, Nat.reduceAdd, h1]) (by simp only [sV, Nat.reduceEqDiff, reduceIte, Nat.reduceAdd, h13]) (by simp only [sV, Nat.reduceEqDiff, reduceIte, Nat.reduceAdd])
        · simp only [L45_1, sA, reduceIte, Nat.reduceEqDiff, Int.reduceLT, Int.reduceLE, Int.reduceEq, Int.reduceNeg, reduceCtorEq, Nat.reduceAdd, opIxStr, h0, h1, h13, h14, hlt, hc, hd, ha', hz', hE, hw] at hr
          simp only [hq, true_and]
          exact same_loop q s w hs hl hb m (i + 1) _ σ r hr (by omega) (by simp only [sV, Nat.reduceEqDiff, reduceIte, Nat.reduceAdd, h0]) (by simp only [sV, Nat.reduceEqDiff, reduceIte, Nat.reduceAdd, h1]) (by simp only [sV, Nat.reduceEqDiff, reduceIte, Nat.reduceAdd, h13]) (by simp only [sV, Nat.reduceEqDiff, reduceIte, Nat.reduceAdd])

theorem same_ok (q : Bool) (s w : List Nat) (σ : St) (hs : ∀ c ∈ s, c < 256) (hb : s.length < 9223372036854775808) :
    Cw TS q 45 [.str s, .str w] σ = some (.bool (decide (s.map low = w)), σ) := by
  rw [Cw_of fn45 q _ σ rfl]
  by_cases hl : s.length = w.length
  · have hne := eq_true (show ((s.length : Int) = (w.length : Int)) by simp [hl])
    simp only [c45, sA, reduceIte, Nat.reduceEqDiff, Int.reduceLT, Int.reduceLE, Int.reduceEq, Int.reduceNeg, reduceCtorEq, Nat.reduceAdd, opIxStr, hne]
    generalize hr : Ew TS q (.loop L45_1) _ σ = r
    obtain ⟨e, ⟨h1, rfl⟩ | ⟨h1, rfl, h3⟩⟩ := same_loop q s w hs hl hb s.length 0 _ σ r hr (by omega) (by simp only [sV, Nat.reduceEqDiff, reduceIte, Nat.reduceAdd]) (by simp only [sV, Nat.reduceEqDiff, reduceIte, Nat.reduceAdd]) (by simp only [sV, Nat.reduceEqDiff, reduceIte, Nat.reduceAdd]) (by simp only [sV, Nat.reduceEqDiff, reduceIte, Nat.reduceAdd]; rfl)
    · simp only [sA, reduceIte, Nat.reduceEqDiff, Int.reduceLT, Int.reduceLE, Int.reduceEq, Int.reduceNeg, reduceCtorEq, Nat.reduceAdd, opIxStr]
      have : s.map low = w := by simpa using h1
      simp [this]
    · simp only [sA, reduceIte, Nat.reduceEqDiff, Int.reduceLT, Int.reduceLE, Int.reduceEq, Int.reduceNeg, reduceCtorEq, Nat.reduceAdd, opIxStr, h3]
      have : ¬ s.map low = w := by simpa using h1
      simp [this]
  · have hne : ¬ ((s.length : Int) = (w.length : Int)) := by omega
    simp only [c45, sA, reduceIte, Nat.reduceEqDiff, Int.reduceLT, Int.reduceLE, Int.reduceEq, Int.reduceNeg, reduceCtorEq, Nat.reduceAdd, opIxStr, hne]
    have : ¬ s.map low = w := fun h => hl (by rw [← h]; simp)
    simp [this]
end Go.Ab.Dirs
end

set_option maxRecDepth 10000
noncomputable section
namespace Go.Ab.Dirs
open Go Go.Ab

/-- The kinds of names. -/
def kindL : List (List Nat × Nat) := [([112], 2), ([108, 105], 3), ([97], 6), ([98, 114], 7), ([119, 98, 114], 7), ([104, 114], 8), ([100, 105, 118], 1), ([117, 108], 1), ([111, 108], 1), ([115, 101, 99, 116, 105, 111, 110], 1), ([97, 114, 116, 105, 99, 108, 101], 1), ([104, 101, 97, 100, 101, 114], 1), ([102, 111, 111, 116, 101, 114], 1), ([109, 97, 105, 110], 1), ([110, 97, 118], 1), ([97, 115, 105, 100, 101], 1), ([98, 108, 111, 99, 107, 113, 117, 111, 116, 101], 1), ([102, 105, 103, 117, 114, 101], 1), ([104, 49], 4), ([104, 50], 4), ([104, 51], 4), ([104, 52], 4), ([104, 53], 4), ([104, 54], 4), ([115, 112, 97, 110], 5), ([98], 5), ([105], 5), ([101, 109], 5), ([115, 116, 114, 111, 110, 103], 5), ([117], 5), ([115], 5), ([115, 109, 97, 108, 108], 5), ([99, 111, 100, 101], 5), ([98, 100, 105], 5), ([98, 100, 111], 5), ([97, 98, 98, 114], 5), ([99, 105, 116, 101], 5), ([113], 5), ([115, 117, 98], 5), ([115, 117, 112], 5), ([109, 97, 114, 107], 5)]
def lookK (s : List Nat) : List (List Nat × Nat) → Nat
  | [] => 0
  | (w, k) :: l => if s = w then k else lookK s l
def kindS (s : List Nat) : Nat := lookK s kindL
theorem kindS_le (s : List Nat) : kindS s ≤ 8 := by
  have : ∀ l : List (List Nat × Nat), (∀ x ∈ l, x.2 ≤ 8) → lookK s l ≤ 8 := by
    intro l
    induction l with
    | nil => intro _; exact Nat.zero_le _
    | cons x l ih =>
      intro h
      unfold lookK
      split
      · exact h _ (List.mem_cons_self)
      · exact ih fun y hy => h y (List.mem_cons_of_mem _ hy)
  exact this _ (by decide)
theorem kind_0 (q : Bool) (σ : St) : Cw TS q 40 [.str [112]] σ = some (.int .u8 2, σ) := Cw_iff.2 ⟨100, by kernel_rfl⟩
theorem kind_1 (q : Bool) (σ : St) : Cw TS q 40 [.str [108, 105]] σ = some (.int .u8 3, σ) := Cw_iff.2 ⟨100, by kernel_rfl⟩
theorem kind_2 (q : Bool) (σ : St) : Cw TS q 40 [.str [97]] σ = some (.int .u8 6, σ) := Cw_iff.2 ⟨100, by kernel_rfl⟩
theorem kind_3 (q : Bool) (σ : St) : Cw TS q 40 [.str [98, 114]] σ = some (.int .u8 7, σ) := Cw_iff.2 ⟨100, by kernel_rfl⟩
theorem kind_4 (q : Bool) (σ : St) : Cw TS q 40 [.str [119, 98, 114]] σ = some (.int .u8 7, σ) := Cw_iff.2 ⟨100, by kernel_rfl⟩
theorem kind_5 (q : Bool) (σ : St) : Cw TS q 40 [.str [104, 114]] σ = some (.int .u8 8, σ) := Cw_iff.2 ⟨100, by kernel_rfl⟩
theorem kind_6 (q : Bool) (σ : St) : Cw TS q 40 [.str [100, 105, 118]] σ = some (.int .u8 1, σ) := Cw_iff.2 ⟨100, by kernel_rfl⟩
theorem kind_7 (q : Bool) (σ : St) : Cw TS q 40 [.str [117, 108]] σ = some (.int .u8 1, σ) := Cw_iff.2 ⟨100, by kernel_rfl⟩
theorem kind_8 (q : Bool) (σ : St) : Cw TS q 40 [.str [111, 108]] σ = some (.int .u8 1, σ) := Cw_iff.2 ⟨100, by kernel_rfl⟩
theorem kind_9 (q : Bool) (σ : St) : Cw TS q 40 [.str [115, 101, 99, 116, 105, 111, 110]] σ = some (.int .u8 1, σ) := Cw_iff.2 ⟨100, by kernel_rfl⟩
theorem kind_10 (q : Bool) (σ : St) : Cw TS q 40 [.str [97, 114, 116, 105, 99, 108, 101]] σ = some (.int .u8 1, σ) := Cw_iff.2 ⟨100, by kernel_rfl⟩
theorem kind_11 (q : Bool) (σ : St) : Cw TS q 40 [.str [104, 101, 97, 100, 101, 114]] σ = some (.int .u8 1, σ) := Cw_iff.2 ⟨100, by kernel_rfl⟩
theorem kind_12 (q : Bool) (σ : St) : Cw TS q 40 [.str [102, 111, 111, 116, 101, 114]] σ = some (.int .u8 1, σ) := Cw_iff.2 ⟨100, by kernel_rfl⟩
theorem kind_13 (q : Bool) (σ : St) : Cw TS q 40 [.str [109, 97, 105, 110]] σ = some (.int .u8 1, σ) := Cw_iff.2 ⟨100, by kernel_rfl⟩
theorem kind_14 (q : Bool) (σ : St) : Cw TS q 40 [.str [110, 97, 118]] σ = some (.int .u8 1, σ) := Cw_iff.2 ⟨100, by kernel_rfl⟩
theorem kind_15 (q : Bool) (σ : St) : Cw TS q 40 [.str [97, 115, 105, 100, 101]] σ = some (.int .u8 1, σ) := Cw_iff.2 ⟨100, by kernel_rfl⟩
theorem kind_16 (q : Bool) (σ : St) : Cw TS q 40 [.str [98, 108, 111, 99, 107, 113, 117, 111, 116, 101]] σ = some (.int .u8 1, σ) := Cw_iff.2 ⟨100, by kernel_rfl⟩
theorem kind_17 (q : Bool) (σ : St) : Cw TS q 40 [.str [102, 105, 103, 117, 114, 101]] σ = some (.int .u8 1, σ) := Cw_iff.2 ⟨100, by kernel_rfl⟩
theorem kind_18 (q : Bool) (σ : St) : Cw TS q 40 [.str [104, 49]] σ = some (.int .u8 4, σ) := Cw_iff.2 ⟨100, by kernel_rfl⟩
theorem kind_19 (q : Bool) (σ : St) : Cw TS q 40 [.str [104, 50]] σ = some (.int .u8 4, σ) := Cw_iff.2 ⟨100, by kernel_rfl⟩
theorem kind_20 (q : Bool) (σ : St) : Cw TS q 40 [.str [104, 51]] σ = some (.int .u8 4, σ) := Cw_iff.2 ⟨100, by kernel_rfl⟩
theorem kind_21 (q : Bool) (σ : St) : Cw TS q 40 [.str [104, 52]] σ = some (.int .u8 4, σ) := Cw_iff.2 ⟨100, by kernel_rfl⟩
theorem kind_22 (q : Bool) (σ : St) : Cw TS q 40 [.str [104, 53]] σ = some (.int .u8 4, σ) := Cw_iff.2 ⟨100, by kernel_rfl⟩
theorem kind_23 (q : Bool) (σ : St) : Cw TS q 40 [.str [104, 54]] σ = some (.int .u8 4, σ) := Cw_iff.2 ⟨100, by kernel_rfl⟩
theorem kind_24 (q : Bool) (σ : St) : Cw TS q 40 [.str [115, 112, 97, 110]] σ = some (.int .u8 5, σ) := Cw_iff.2 ⟨100, by kernel_rfl⟩
theorem kind_25 (q : Bool) (σ : St) : Cw TS q 40 [.str [98]] σ = some (.int .u8 5, σ) := Cw_iff.2 ⟨100, by kernel_rfl⟩
theorem kind_26 (q : Bool) (σ : St) : Cw TS q 40 [.str [105]] σ = some (.int .u8 5, σ) := Cw_iff.2 ⟨100, by kernel_rfl⟩
theorem kind_27 (q : Bool) (σ : St) : Cw TS q 40 [.str [101, 109]] σ = some (.int .u8 5, σ) := Cw_iff.2 ⟨100, by kernel_rfl⟩
theorem kind_28 (q : Bool) (σ : St) : Cw TS q 40 [.str [115, 116, 114, 111, 110, 103]] σ = some (.int .u8 5, σ) := Cw_iff.2 ⟨100, by kernel_rfl⟩
theorem kind_29 (q : Bool) (σ : St) : Cw TS q 40 [.str [117]] σ = some (.int .u8 5, σ) := Cw_iff.2 ⟨100, by kernel_rfl⟩
theorem kind_30 (q : Bool) (σ : St) : Cw TS q 40 [.str [115]] σ = some (.int .u8 5, σ) := Cw_iff.2 ⟨100, by kernel_rfl⟩
theorem kind_31 (q : Bool) (σ : St) : Cw TS q 40 [.str [115, 109, 97, 108, 108]] σ = some (.int .u8 5, σ) := Cw_iff.2 ⟨100, by kernel_rfl⟩
theorem kind_32 (q : Bool) (σ : St) : Cw TS q 40 [.str [99, 111, 100, 101]] σ = some (.int .u8 5, σ) := Cw_iff.2 ⟨100, by kernel_rfl⟩
theorem kind_33 (q : Bool) (σ : St) : Cw TS q 40 [.str [98, 100, 105]] σ = some (.int .u8 5, σ) := Cw_iff.2 ⟨100, by kernel_rfl⟩
theorem kind_34 (q : Bool) (σ : St) : Cw TS q 40 [.str [98, 100, 111]] σ = some (.int .u8 5, σ) := Cw_iff.2 ⟨100, by kernel_rfl⟩
theorem kind_35 (q : Bool) (σ : St) : Cw TS q 40 [.str [97, 98, 98, 114]] σ = some (.int .u8 5, σ) := Cw_iff.2 ⟨100, by kernel_rfl⟩
theorem kind_36 (q : Bool) (σ : St) : Cw TS q 40 [.str [99, 105, 116, 101]] σ = some (.int .u8 5, σ) := Cw_iff.2 ⟨100, by kernel_rfl⟩
theorem kind_37 (q : Bool) (σ : St) : Cw TS q 40 [.str [113]] σ = some (.int .u8 5, σ) := Cw_iff.2 ⟨100, by kernel_rfl⟩
theorem kind_38 (q : Bool) (σ : St) : Cw TS q 40 [.str [115, 117, 98]] σ = some (.int .u8 5, σ) := Cw_iff.2 ⟨100, by kernel_rfl⟩
theorem kind_39 (q : Bool) (σ : St) : Cw TS q 40 [.str [115, 117, 112]] σ = some (.int .u8 5, σ) := Cw_iff.2 ⟨100, by kernel_rfl⟩
theorem kind_40 (q : Bool) (σ : St) : Cw TS q 40 [.str [109, 97, 114, 107]] σ = some (.int .u8 5, σ) := Cw_iff.2 ⟨100, by kernel_rfl⟩

set_option maxHeartbeats 4000000 in
theorem Kind_ok (q : Bool) (s : List Nat) (σ : St) : Cw TS q 40 [.str s] σ = some (.int .u8 (kindS s : Int), σ) := by
  by_cases h0 : s = [112]
  · subst h0; exact kind_0 q σ
  by_cases h1 : s = [108, 105]
  · subst h1; exact kind_1 q σ
  by_cases h2 : s = [97]
  · subst h2; exact kind_2 q σ
  by_cases h3 : s = [98, 114]
  · subst h3; exact kind_3 q σ
  by_cases h4 : s = [119, 98, 114]
  · subst h4; exact kind_4 q σ
  by_cases h5 : s = [104, 114]
  · subst h5; exact kind_5 q σ
  by_cases h6 : s = [100, 105, 118]
  · subst h6; exact kind_6 q σ
  by_cases h7 : s = [117, 108]
  · subst h7; exact kind_7 q σ
  by_cases h8 : s = [111, 108]
  · subst h8; exact kind_8 q σ
  by_cases h9 : s = [115, 101, 99, 116, 105, 111, 110]
  · subst h9; exact kind_9 q σ
  by_cases h10 : s = [97, 114, 116, 105, 99, 108, 101]
  · subst h10; exact kind_10 q σ
  by_cases h11 : s = [104, 101, 97, 100, 101, 114]
  · subst h11; exact kind_11 q σ
  by_cases h12 : s = [102, 111, 111, 116, 101, 114]
  · subst h12; exact kind_12 q σ
  by_cases h13 : s = [109, 97, 105, 110]
  · subst h13; exact kind_13 q σ
  by_cases h14 : s = [110, 97, 118]
  · subst h14; exact kind_14 q σ
  by_cases h15 : s = [97, 115, 105, 100, 101]
  · subst h15; exact kind_15 q σ
  by_cases h16 : s = [98, 108, 111, 99, 107, 113, 117, 111, 116, 101]
  · subst h16; exact kind_16 q σ
  by_cases h17 : s = [102, 105, 103, 117, 114, 101]
  · subst h17; exact kind_17 q σ
  by_cases h18 : s = [104, 49]
  · subst h18; exact kind_18 q σ
  by_cases h19 : s = [104, 50]
  · subst h19; exact kind_19 q σ
  by_cases h20 : s = [104, 51]
  · subst h20; exact kind_20 q σ
  by_cases h21 : s = [104, 52]
  · subst h21; exact kind_21 q σ
  by_cases h22 : s = [104, 53]
  · subst h22; exact kind_22 q σ
  by_cases h23 : s = [104, 54]
  · subst h23; exact kind_23 q σ
  by_cases h24 : s = [115, 112, 97, 110]
  · subst h24; exact kind_24 q σ
  by_cases h25 : s = [98]
  · subst h25; exact kind_25 q σ
  by_cases h26 : s = [105]
  · subst h26; exact kind_26 q σ
  by_cases h27 : s = [101, 109]
  · subst h27; exact kind_27 q σ
  by_cases h28 : s = [115, 116, 114, 111, 110, 103]
  · subst h28; exact kind_28 q σ
  by_cases h29 : s = [117]
  · subst h29; exact kind_29 q σ
  by_cases h30 : s = [115]
  · subst h30; exact kind_30 q σ
  by_cases h31 : s = [115, 109, 97, 108, 108]
  · subst h31; exact kind_31 q σ
  by_cases h32 : s = [99, 111, 100, 101]
  · subst h32; exact kind_32 q σ
  by_cases h33 : s = [98, 100, 105]
  · subst h33; exact kind_33 q σ
  by_cases h34 : s = [98, 100, 111]
  · subst h34; exact kind_34 q σ
  by_cases h35 : s = [97, 98, 98, 114]
  · subst h35; exact kind_35 q σ
  by_cases h36 : s = [99, 105, 116, 101]
  · subst h36; exact kind_36 q σ
  by_cases h37 : s = [113]
  · subst h37; exact kind_37 q σ
  by_cases h38 : s = [115, 117, 98]
  · subst h38; exact kind_38 q σ
  by_cases h39 : s = [115, 117, 112]
  · subst h39; exact kind_39 q σ
  by_cases h40 : s = [109, 97, 114, 107]
  · subst h40; exact kind_40 q σ
  rw [Cw_of fn40 q _ σ rfl]
  have hk : kindS s = 0 := by simp only [kindS, kindL, lookK, h0, h1, h2, h3, h4, h5, h6, h7, h8, h9, h10, h11, h12, h13, h14, h15, h16, h17, h18, h19, h20, h21, h22, h23, h24, h25, h26, h27, h28, h29, h30, h31, h32, h33, h34, h35, h36, h37, h38, h39, h40, if_false]
  rw [hk]
  simp only [c40, sA, reduceIte, Nat.reduceEqDiff, Int.reduceLT, Int.reduceLE, Int.reduceEq, Int.reduceNeg, reduceCtorEq, Nat.reduceAdd, opIxStr, h0, h1, h2, h3, h4, h5, h6, h7, h8, h9, h10, h11, h12, h13, h14, h15, h16, h17, h18, h19, h20, h21, h22, h23, h24, h25, h26, h27, h28, h29, h30, h31, h32, h33, h34, h35, h36, h37, h38, h39, h40]
  rfl

theorem int_le_cast {a b : Nat} : ((a : Int) ≤ (b : Int)) = (a ≤ b) := propext Int.ofNat_le

/-- What ends a paragraph. -/
def endsS (k : Nat) : Bool := decide (1 ≤ k ∧ k ≤ 4 ∨ k = 8)
theorem ends_ok (q : Bool) (k : Nat) (σ : St) : Cw TS q 68 [.int .u8 (k : Int)] σ = some (.bool (endsS k), σ) := by
  rw [Cw_of fn68 q _ σ rfl]
  by_cases h1 : (1 : Int) ≤ (k : Int)
  · by_cases h2 : (k : Int) ≤ 4
    · have : endsS k = true := by unfold endsS; simp; omega
      simp only [c68, sA, reduceIte, Nat.reduceEqDiff, Int.reduceLT, Int.reduceLE, Int.reduceEq, Int.reduceNeg, reduceCtorEq, Nat.reduceAdd, opIxStr, h1, h2, this]
    · by_cases h3 : (k : Int) = 8
      · have : endsS k = true := by unfold endsS; simp; omega
        have h3 := eq_true h3
        simp only [c68, sA, reduceIte, Nat.reduceEqDiff, Int.reduceLT, Int.reduceLE, Int.reduceEq, Int.reduceNeg, reduceCtorEq, Nat.reduceAdd, opIxStr, h1, h2, h3, this]
      · have : endsS k = false := by unfold endsS; simp; omega
        simp only [c68, sA, reduceIte, Nat.reduceEqDiff, Int.reduceLT, Int.reduceLE, Int.reduceEq, Int.reduceNeg, reduceCtorEq, Nat.reduceAdd, opIxStr, h1, h2, h3, this]
  · have h3 : ¬ (k : Int) = 8 := by omega
    have : endsS k = false := by unfold endsS; simp; omega
    simp only [c68, sA, reduceIte, Nat.reduceEqDiff, Int.reduceLT, Int.reduceLE, Int.reduceEq, Int.reduceNeg, reduceCtorEq, Nat.reduceAdd, opIxStr, h1, h3, this]

/-- What keeps items apart. -/
def wallS (s : List Nat) : Bool := decide (kindS s = 4 ∨ kindS s = 1 ∧ ¬ s = [100, 105, 118])
theorem wall_ok (q : Bool) (s : List Nat) (σ : St) : Cw TS q 69 [.str s] σ = some (.bool (wallS s), σ) := by
  rw [Cw_of fn69 q _ σ rfl]
  by_cases h1 : (kindS s : Int) = 4
  · have : wallS s = true := by unfold wallS; simp; omega
    have h1 := eq_true h1
    simp only [c69, sA, reduceIte, Nat.reduceEqDiff, Int.reduceLT, Int.reduceLE, Int.reduceEq, Int.reduceNeg, reduceCtorEq, Nat.reduceAdd, opIxStr, opCall, argsOf, Kind_ok, h1, this]
  · by_cases h2 : (kindS s : Int) = 1
    · have h2' := eq_true h2
      by_cases h3 : s = [100, 105, 118]
      · have : wallS s = false := by unfold wallS; simp [h3]; decide
        have h3 := eq_true h3
        simp only [c69, sA, reduceIte, Nat.reduceEqDiff, Int.reduceLT, Int.reduceLE, Int.reduceEq, Int.reduceNeg, reduceCtorEq, Nat.reduceAdd, opIxStr, opCall, argsOf, Kind_ok, h1, h2', h3, this]
      · have : wallS s = true := by unfold wallS; simp; right; exact ⟨by omega, h3⟩
        simp only [c69, sA, reduceIte, Nat.reduceEqDiff, Int.reduceLT, Int.reduceLE, Int.reduceEq, Int.reduceNeg, reduceCtorEq, Nat.reduceAdd, opIxStr, opCall, argsOf, Kind_ok, h1, h2', h3, this]
    · have : wallS s = false := by unfold wallS; simp; omega
      simp only [c69, sA, reduceIte, Nat.reduceEqDiff, Int.reduceLT, Int.reduceLE, Int.reduceEq, Int.reduceNeg, reduceCtorEq, Nat.reduceAdd, opIxStr, opCall, argsOf, Kind_ok, h1, h2, this]

/-- The letters of an attribute's name. -/
def namC (c : Nat) : Bool := decide (97 ≤ c ∧ c ≤ 122 ∨ 48 ≤ c ∧ c ≤ 57 ∨ c = 45 ∨ c = 95)
def namedS (s : List Nat) : Bool := s.all namC && decide (¬ s = [])

theorem named_loop (q : Bool) (s : List Nat) (hs : ∀ c ∈ s, c < 256) (hb : s.length < 9223372036854775808) : ∀ (m i : Nat) (env : Env) (σ : St) (r : Option (Out × Env × St)), Ew TS q (.loop L65_1) env σ = r → i + m = s.length →
    V env 0 = .str s → V env 6 = .int .i64 s.length → V env 7 = .int .i64 i →
    ∃ e, ((s.drop i).all namC = true ∧ r = some (.exit 0, e, σ) ∧ V e 0 = .str s) ∨ ((s.drop i).all namC = false ∧ r = some (.ret, e, σ) ∧ V e 2 = .bool false)
  | 0, i, env, σ, r, hr, hi, h0, h6, h7 => by
    have hlt : ¬ ((i : Int) < (s.length : Int)) := by omega
    rw [Ew_loop] at hr
    simp only [L65_1, sA, reduceIte, Nat.reduceEqDiff, Int.reduceLT, Int.reduceLE, Int.reduceEq, Int.reduceNeg, reduceCtorEq, Nat.reduceAdd, opIxStr, h0, h6, h7, hlt] at hr
    refine ⟨_, .inl ⟨?_, hr.symm, by simp only [sV, Nat.reduceEqDiff, reduceIte, Nat.reduceAdd, h0]⟩⟩
    rw [List.drop_eq_nil_of_le (by omega)]; rfl
  | m + 1, i, env, σ, r, hr, hi, h0, h6, h7 => by
    have hlt : ((i : Int) < (s.length : Int)) := by omega
    have his : i < s.length := by omega
    have hc := dropX_get his
    have hw : wrapI .i64 ((i : Int) + 1) = ((i + 1 : Nat) : Int) := by rw [wrap_i64 (by omega) (by omega)]; omega
    have key : (s.drop i).all namC = (namC s[i] && (s.drop (i + 1)).all namC) := by
      rw [List.drop_eq_getElem_cons his, List.all_cons]
    rw [key]
    rw [Ew_loop] at hr
    by_cases hn : namC s[i] = true
    · rw [hn, Bool.true_and]
      have hn' : 97 ≤ s[i] ∧ s[i] ≤ 122 ∨ 48 ≤ s[i] ∧ s[i] ≤ 57 ∨ s[i] = 45 ∨ s[i] = 95 := by simpa [namC] using hn
      rcases hn' with ⟨a, b⟩ | ⟨a, b⟩ | a | a
      · have a1 : ¬ (s[i] : Int) < 97 := by omega
        have a2 : ¬ 122 < (s[i] : Int) := by omega
        simp only [L65_1, sA, reduceIte, Nat.reduceEqDiff, Int.reduceLT, Int.reduceLE, Int.reduceEq, Int.reduceNeg, reduceCtorEq, Nat.reduceAdd, opIxStr, h0, h6, h7, hlt, hc, hw, a1, a2] at hr
        exact named_loop q s hs hb m (i + 1) _ σ r hr (by omega) (by simp only [sV, Nat.reduceEqDiff, reduceIte, Nat.reduceAdd, h0]) (by simp only [sV, Nat.reduceEqDiff, reduceIte, Nat.reduceAdd, h6]) (by simp only [sV, Nat.reduceEqDiff, reduceIte, Nat.reduceAdd])
      · have a1 : (s[i] : Int) < 97 := by omega
        have a3 : ¬ (s[i] : Int) < 48 := by omega
        have a4 : ¬ 57 < (s[i] : Int) := by omega
        simp only [L65_1, sA, reduceIte, Nat.reduceEqDiff, Int.reduceLT, Int.reduceLE, Int.reduceEq, Int.reduceNeg, reduceCtorEq, Nat.reduceAdd, opIxStr, h0, h6, h7, hlt, hc, hw, a1, a3, a4] at hr
        exact named_loop q s hs hb m (i + 1) _ σ r hr (by omega) (by simp only [sV, Nat.reduceEqDiff, reduceIte, Nat.reduceAdd, h0]) (by simp only [sV, Nat.reduceEqDiff, reduceIte, Nat.reduceAdd, h6]) (by simp only [sV, Nat.reduceEqDiff, reduceIte, Nat.reduceAdd])
      · have a1 : (s[i] : Int) < 97 := by omega
        have a3 : (s[i] : Int) < 48 := by omega
        have a5 := eq_true (show (s[i] : Int) = 45 by omega)
        simp only [L65_1, sA, reduceIte, Nat.reduceEqDiff, Int.reduceLT, Int.reduceLE, Int.reduceEq, Int.reduceNeg, reduceCtorEq, Nat.reduceAdd, opIxStr, h0, h6, h7, hlt, hc, hw, a1, a3, a5] at hr
        exact named_loop q s hs hb m (i + 1) _ σ r hr (by omega) (by simp only [sV, Nat.reduceEqDiff, reduceIte, Nat.reduceAdd, h0]) (by simp only [sV, Nat.reduceEqDiff, reduceIte, Nat.reduceAdd, h6]) (by simp only [sV, Nat.reduceEqDiff, reduceIte, Nat.reduceAdd])
      · have a1 : (s[i] : Int) < 97 := by omega
        have a3 : ¬ (s[i] : Int) < 48 := by omega
        have a4 : 57 < (s[i] : Int) := by omega
        have a5 : ¬ (s[i] : Int) = 45 := by omega
        have a6 := eq_true (show (s[i] : Int) = 95 by omega)
        simp only [L65_1, sA, reduceIte, Nat.reduceEqDiff, Int.reduceLT, Int.reduceLE, Int.reduceEq, Int.reduceNeg, reduceCtorEq, Nat.reduceAdd, opIxStr, h0, h6, h7, hlt, hc, hw, a1, a3, a4, a5, a6] at hr
        exact named_loop q s hs hb m (i + 1) _ σ r hr (by omega) (by simp only [sV, Nat.reduceEqDiff, reduceIte, Nat.reduceAdd, h0]) (by simp only [sV, Nat.reduceEqDiff, reduceIte, Nat.reduceAdd, h6]) (by simp only [sV, Nat.reduceEqDiff, reduceIte, Nat.reduceAdd])
    · have hn2 : namC s[i] = false := by simpa using hn
      rw [hn2, Bool.false_and]
      have hn' : ¬ (97 ≤ s[i] ∧ s[i] ≤ 122 ∨ 48 ≤ s[i] ∧ s[i] ≤ 57 ∨ s[i] = 45 ∨ s[i] = 95) := by simpa [namC] using hn
      have a5 : ¬ (s[i] : Int) = 45 := by omega
      have a6 : ¬ (s[i] : Int) = 95 := by omega
      by_cases b1 : (s[i] : Int) < 97
      · by_cases b2 : (s[i] : Int) < 48
        · simp only [L65_1, sA, reduceIte, Nat.reduceEqDiff, Int.reduceLT, Int.reduceLE, Int.reduceEq, Int.reduceNeg, reduceCtorEq, Nat.reduceAdd, opIxStr, h0, h6, h7, hlt, hc, hw, b1, b2, a5, a6] at hr
          exact ⟨_, .inr ⟨rfl, hr.symm, by simp only [sV, Nat.reduceEqDiff, reduceIte, Nat.reduceAdd]⟩⟩
        · have b3 : 57 < (s[i] : Int) := by omega
          simp only [L65_1, sA, reduceIte, Nat.reduceEqDiff, Int.reduceLT, Int.reduceLE, Int.reduceEq, Int.reduceNeg, reduceCtorEq, Nat.reduceAdd, opIxStr, h0, h6, h7, hlt, hc, hw, b1, b2, b3, a5, a6] at hr
          exact ⟨_, .inr ⟨rfl, hr.symm, by simp only [sV, Nat.reduceEqDiff, reduceIte, Nat.reduceAdd]⟩⟩
      · have b2 : ¬ (s[i] : Int) < 48 := by omega
        have b3 : 57 < (s[i] : Int) := by omega
        have b4 : 122 < (s[i] : Int) := by omega
        simp only [L65_1, sA, reduceIte, Nat.reduceEqDiff, Int.reduceLT, Int.reduceLE, Int.reduceEq, Int.reduceNeg, reduceCtorEq, Nat.reduceAdd, opIxStr, h0, h6, h7, hlt, hc, hw, b1, b2, b3, b4, a5, a6] at hr
        exact ⟨_, .inr ⟨rfl, hr.symm, by simp only [sV, Nat.reduceEqDiff, reduceIte, Nat.reduceAdd]⟩⟩

theorem named_ok (q : Bool) (s : List Nat) (σ : St) (hs : ∀ c ∈ s, c < 256) (hb : s.length < 9223372036854775808) :
    Cw TS q 65 [.str s] σ = some (.bool (namedS s), σ) := by
  rw [Cw_of fn65 q _ σ rfl]
  simp only [c65, sA, reduceIte, Nat.reduceEqDiff, Int.reduceLT, Int.reduceLE, Int.reduceEq, Int.reduceNeg, reduceCtorEq, Nat.reduceAdd, opIxStr]
  generalize hr : Ew TS q (.loop L65_1) _ σ = r
  obtain ⟨e, ⟨h1, rfl, h3⟩ | ⟨h1, rfl, h3⟩⟩ := named_loop q s hs hb s.length 0 _ σ r hr (by omega) (by simp only [sV, Nat.reduceEqDiff, reduceIte, Nat.reduceAdd]) (by simp only [sV, Nat.reduceEqDiff, reduceIte, Nat.reduceAdd]) (by simp only [sV, Nat.reduceEqDiff, reduceIte, Nat.reduceAdd]; rfl)
  · rw [List.drop_zero] at h1
    simp only [sA, reduceIte, Nat.reduceEqDiff, Int.reduceLT, Int.reduceLE, Int.reduceEq, Int.reduceNeg, reduceCtorEq, Nat.reduceAdd, opIxStr, h3, namedS, h1, Bool.true_and, decide_not]
  · rw [List.drop_zero] at h1
    simp only [sA, reduceIte, Nat.reduceEqDiff, Int.reduceLT, Int.reduceLE, Int.reduceEq, Int.reduceNeg, reduceCtorEq, Nat.reduceAdd, opIxStr, h3, namedS, h1, Bool.false_and]

/-- The place of a number. -/
def idxS (x : Int) : List Int → Nat → Int
  | [], _ => -1
  | y :: l, i => if x = y then (i : Int) else idxS x l (i + 1)

theorem index_loop (q : Bool) (v : AVal) (l : List Int) (x : Int) (hb : l.length < 9223372036854775808) : ∀ (m i : Nat) (env : Env) (σ : St) (r : Option (Out × Env × St)), Ew TS q (.loop L41_1) env σ = r → i + m = l.length → IntsI σ v l →
    V env 0 = v → V env 1 = .int .i64 x → V env 7 = .int .i64 l.length → V env 8 = .int .i64 i →
    ∃ e, (idxS x (l.drop i) i = -1 ∧ r = some (.exit 0, e, σ)) ∨ (r = some (.ret, e, σ) ∧ V e 4 = .int .i64 (idxS x (l.drop i) i))
  | 0, i, env, σ, r, hr, hi, hv, h0, h1, h7, h8 => by
    have hlt : ¬ ((i : Int) < (l.length : Int)) := by omega
    rw [Ew_loop] at hr
    simp only [L41_1, sA, reduceIte, Nat.reduceEqDiff, Int.reduceLT, Int.reduceLE, Int.reduceEq, Int.reduceNeg, reduceCtorEq, Nat.reduceAdd, opIxStr, h0, h1, h7, h8, hlt] at hr
    refine ⟨_, .inl ⟨?_, hr.symm⟩⟩
    rw [List.drop_eq_nil_of_le (by omega)]; rfl
  | m + 1, i, env, σ, r, hr, hi, hv, h0, h1, h7, h8 => by
    have hlt : ((i : Int) < (l.length : Int)) := by omega
    have his : i < l.length := by omega
    obtain ⟨g1, g2⟩ := hv.get his (k := .i64)
    have hw : wrapI .i64 ((i : Int) + 1) = ((i + 1 : Nat) : Int) := by rw [wrap_i64 (by omega) (by omega)]; omega
    rw [List.drop_eq_getElem_cons his, idxS]
    rw [Ew_loop] at hr
    by_cases hx : x = l[i]
    · rw [if_pos hx]
      have hx := eq_true hx
      simp only [L41_1, sA, reduceIte, Nat.reduceEqDiff, Int.reduceLT, Int.reduceLE, Int.reduceEq, Int.reduceNeg, reduceCtorEq, Nat.reduceAdd, opIxStr, h0, h1, h7, h8, hlt, opIaSl_s, opLoad_s, g1, g2, hx] at hr
      exact ⟨_, .inr ⟨hr.symm, by simp only [sV, Nat.reduceEqDiff, reduceIte, Nat.reduceAdd]⟩⟩
    · rw [if_neg hx]
      simp only [L41_1, sA, reduceIte, Nat.reduceEqDiff, Int.reduceLT, Int.reduceLE, Int.reduceEq, Int.reduceNeg, reduceCtorEq, Nat.reduceAdd, opIxStr, h0, h1, h7, h8, hlt, opIaSl_s, opLoad_s, g1, g2, hx, hw] at hr
      exact index_loop q v l x hb m (i + 1) _ σ r hr (by omega) hv (by simp only [sV, Nat.reduceEqDiff, reduceIte, Nat.reduceAdd, h0]) (by simp only [sV, Nat.reduceEqDiff, reduceIte, Nat.reduceAdd, h1]) (by simp only [sV, Nat.reduceEqDiff, reduceIte, Nat.reduceAdd, h7]) (by simp only [sV, Nat.reduceEqDiff, reduceIte, Nat.reduceAdd])

theorem Index_ok (q : Bool) (v : AVal) (l : List Int) (x : Int) (σ : St) (hv : IntsI σ v l) (hb : l.length < 9223372036854775808) :
    Cw TS q 41 [v, .int .i64 x] σ = some (.int .i64 (idxS x l 0), σ) := by
  rw [Cw_of fn41 q _ σ rfl]
  have hl := SlI.len hv
  simp only [c41, sA, reduceIte, Nat.reduceEqDiff, Int.reduceLT, Int.reduceLE, Int.reduceEq, Int.reduceNeg, reduceCtorEq, Nat.reduceAdd, opIxStr, hl]
  generalize hr : Ew TS q (.loop L41_1) _ σ = r
  obtain ⟨e, ⟨h1, rfl⟩ | ⟨rfl, h3⟩⟩ := index_loop q v l x hb l.length 0 _ σ r hr (by omega) hv (by simp only [sV, Nat.reduceEqDiff, reduceIte, Nat.reduceAdd]) (by simp only [sV, Nat.reduceEqDiff, reduceIte, Nat.reduceAdd]) (by simp only [sV, Nat.reduceEqDiff, reduceIte, Nat.reduceAdd]) (by simp only [sV, Nat.reduceEqDiff, reduceIte, Nat.reduceAdd]; rfl)
  · rw [List.drop_zero] at h1
    simp only [sA, reduceIte, Nat.reduceEqDiff, Int.reduceLT, Int.reduceLE, Int.reduceEq, Int.reduceNeg, reduceCtorEq, Nat.reduceAdd, opIxStr, h1]
  · rw [List.drop_zero] at h3
    simp only [sA, reduceIte, Nat.reduceEqDiff, Int.reduceLT, Int.reduceLE, Int.reduceEq, Int.reduceNeg, reduceCtorEq, Nat.reduceAdd, opIxStr, h3]

theorem Pick_ok (q : Bool) (a b : Int) (σ : St) (ha : -9223372036854775808 ≤ a ∧ a < 9223372036854775808) (hb : b < 4611686018427387904) :
    Cw TS q 14 [.int .i64 a, .int .i64 b] σ = some (.int .i64 (if b ≤ 0 then 0 else (a.tmod b + b).tmod b), σ) := by
  rw [Cw_of fn14 q _ σ rfl]
  by_cases h : b ≤ 0
  · simp only [c14, sA, reduceIte, Nat.reduceEqDiff, Int.reduceLT, Int.reduceLE, Int.reduceEq, Int.reduceNeg, reduceCtorEq, Nat.reduceAdd, opIxStr, h]
  · have hb0 : ¬ b = 0 := by omega
    have h1 : a.tmod b < b := by
      have := Int.tmod_lt_of_pos a (show 0 < b by omega); exact this
    have h2 : -b < a.tmod b := by
      have := Int.lt_tmod_of_pos a (show 0 < b by omega); exact this
    have hw : wrapI .i64 (a.tmod b + b) = a.tmod b + b := wrap_i64 (by omega) (by omega)
    simp only [c14, sA, reduceIte, Nat.reduceEqDiff, Int.reduceLT, Int.reduceLE, Int.reduceEq, Int.reduceNeg, reduceCtorEq, Nat.reduceAdd, opIxStr, h, hb0, hw]
end Go.Ab.Dirs
end

set_option maxRecDepth 10000
noncomputable section
namespace Go.Ab.Dirs
open Go Go.Ab

/-! Bits. -/
def tb (x : Int) (k : Nat) : Bool := (BitVec.ofInt 64 x).getLsbD k
theorem wrap_toNat (v : BitVec 64) : wrapI .u64 ((v.toNat : Nat) : Int) = (v.toNat : Int) := wrap_u64 (by omega) (by have := v.isLt; omega)
theorem ofInt_toNat (v : BitVec 64) : BitVec.ofInt 64 (v.toNat : Int) = v := by
  rw [BitVec.ofInt_natCast, BitVec.ofNat_toNat, BitVec.setWidth_eq]
theorem tb_or (x y : Int) (k : Nat) : tb (wrapI .u64 (((BitVec.ofInt 64 x ||| BitVec.ofInt 64 y).toNat : Nat) : Int)) k = (tb x k || tb y k) := by
  unfold tb; rw [wrap_toNat, ofInt_toNat, BitVec.getLsbD_or]
theorem tb_and (x y : Int) (k : Nat) : tb (wrapI .u64 (((BitVec.ofInt 64 x &&& BitVec.ofInt 64 y).toNat : Nat) : Int)) k = (tb x k && tb y k) := by
  unfold tb; rw [wrap_toNat, ofInt_toNat, BitVec.getLsbD_and]
theorem tb_zero (k : Nat) : tb 0 k = false := by unfold tb; simp
theorem tb_nat (c k : Nat) (h : k < 64) : tb (c : Int) k = c.testBit k := by
  unfold tb; rw [BitVec.ofInt_natCast, BitVec.getLsbD_ofNat]; simp [h]
theorem tb_shl (c n : Nat) (h : n + 7 < 64) : tb ((c * 2 ^ n : Nat) : Int) (n + 7) = c.testBit 7 := by
  rw [tb_nat _ _ h, Nat.testBit_mul_two_pow]; simp
theorem bit7 {c : Nat} (hc : c < 256) (h : c.testBit 7 = false) : c < 128 := by
  have : ∀ c, c < 256 → c.testBit 7 = false → c < 128 := by decide
  exact this c hc h

/-- Eight bytes as a number. -/
def wOr (x y : Int) : Int := wrapI .u64 (((BitVec.ofInt 64 x ||| BitVec.ofInt 64 y).toNat : Nat) : Int)
def wordS (s : List Nat) : Int := wOr (wOr (wOr (wOr (wOr (wOr (wOr ((s.getD 0 0 : Nat) : Int) ((s.getD 1 0 * 2 ^ 8 : Nat) : Int)) ((s.getD 2 0 * 2 ^ 16 : Nat) : Int)) ((s.getD 3 0 * 2 ^ 24 : Nat) : Int)) ((s.getD 4 0 * 2 ^ 32 : Nat) : Int)) ((s.getD 5 0 * 2 ^ 40 : Nat) : Int)) ((s.getD 6 0 * 2 ^ 48 : Nat) : Int)) ((s.getD 7 0 * 2 ^ 56 : Nat) : Int)
def hiAnd (x : Int) : Int := wrapI .u64 (((BitVec.ofInt 64 x &&& BitVec.ofInt 64 9259542123273814144).toNat : Nat) : Int)

theorem tb_wOr (x y : Int) (k : Nat) : tb (wOr x y) k = (tb x k || tb y k) := tb_or x y k
/-- A number whose high bits are none. -/
def NoHi (x : Int) : Prop := ∀ n, n < 8 → tb x (n * 8 + 7) = false
theorem hi_zero {x : Int} (h : hiAnd x = 0) : NoHi x := by
  intro n hn
  have h1 : tb (hiAnd x) (n * 8 + 7) = false := by rw [h]; exact tb_zero _
  have h2 := tb_and x 9259542123273814144 (n * 8 + 7)
  have h3 : tb 9259542123273814144 (n * 8 + 7) = true := by
    have : ∀ n, n < 8 → tb 9259542123273814144 (n * 8 + 7) = true := by decide +kernel
    exact this n hn
  rw [h3, Bool.and_true] at h2
  rw [← h2]; exact h1
theorem NoHi.or {x y : Int} (h : NoHi (wOr x y)) : NoHi x ∧ NoHi y := by
  constructor <;> intro n hn <;> have := h n hn <;> rw [tb_wOr, Bool.or_eq_false_iff] at this
  · exact this.1
  · exact this.2
theorem word_ascii {s : List Nat} (hs : ∀ c ∈ s, c < 256) (hl : 8 ≤ s.length) (h : NoHi (wordS s)) : ∀ i, i < 8 → s.getD i 0 < 128 := by
  have hb : ∀ i, i < 8 → s.getD i 0 < 256 := by
    intro i hi
    rw [List.getD_eq_getElem?_getD, List.getElem?_eq_getElem (by omega)]
    exact hs _ (List.getElem_mem _)
  have key : ∀ n, n < 8 → tb (wordS s) (n * 8 + 7) = false → ∀ i, i = n → s.getD i 0 < 128 := by
    intro n hn h0 i hi
    subst hi
    unfold wordS at h0
    simp only [tb_wOr, Bool.or_eq_false_iff] at h0
    obtain ⟨⟨⟨⟨⟨⟨⟨a0, a1⟩, a2⟩, a3⟩, a4⟩, a5⟩, a6⟩, a7⟩ := h0
    have hcases : i = 0 ∨ i = 1 ∨ i = 2 ∨ i = 3 ∨ i = 4 ∨ i = 5 ∨ i = 6 ∨ i = 7 := by omega
    rcases hcases with rfl | rfl | rfl | rfl | rfl | rfl | rfl | rfl
    · rw [show 0 * 8 + 7 = 7 from rfl, tb_nat _ _ (by omega)] at a0; exact bit7 (hb 0 (by omega)) a0
    · rw [show 1 * 8 + 7 = 8 + 7 from rfl, tb_shl _ _ (by omega)] at a1; exact bit7 (hb 1 (by omega)) a1
    · rw [show 2 * 8 + 7 = 16 + 7 from rfl, tb_shl _ _ (by omega)] at a2; exact bit7 (hb 2 (by omega)) a2
    · rw [show 3 * 8 + 7 = 24 + 7 from rfl, tb_shl _ _ (by omega)] at a3; exact bit7 (hb 3 (by omega)) a3
    · rw [show 4 * 8 + 7 = 32 + 7 from rfl, tb_shl _ _ (by omega)] at a4; exact bit7 (hb 4 (by omega)) a4
    · rw [show 5 * 8 + 7 = 40 + 7 from rfl, tb_shl _ _ (by omega)] at a5; exact bit7 (hb 5 (by omega)) a5
    · rw [show 6 * 8 + 7 = 48 + 7 from rfl, tb_shl _ _ (by omega)] at a6; exact bit7 (hb 6 (by omega)) a6
    · rw [show 7 * 8 + 7 = 56 + 7 from rfl, tb_shl _ _ (by omega)] at a7; exact bit7 (hb 7 (by omega)) a7
  intro i hi
  exact key i hi (h i hi) i rfl

theorem ixStr_nat {x i : Opd} {T : Tab} {env : Env} {σ : St} {s : List Nat} {k : IntKind} {n : Nat} (hx : x.ev T env = .str s) (hi : i.ev T env = .int k (n : Int)) (hn : n < s.length) : opIxStr T x i env σ = some (.int .u8 ((s.getD n 0 : Nat) : Int), σ) := by
  unfold opIxStr
  simp only [hx, hi, Int.toNat_natCast, if_pos (Int.natCast_nonneg n), dropX_get hn, List.getD_eq_getElem?_getD, List.getElem?_eq_getElem hn, Option.getD_some, Int.ofNat_eq_natCast]

/-- A byte at a place of a string. -/
def ixC (v i : AVal) : Option AVal := match v, i with
  | .str s, .int _ i => if 0 ≤ i then (match dropX i.toNat s with | some (c :: _) => some (.int .u8 (Int.ofNat c)) | _ => none) else none
  | _, _ => none
theorem opIxStr_s {T : Tab} {x i : Opd} {env : Env} {σ : St} : opIxStr T x i env σ = (match ixC (x.ev T env) (i.ev T env) with | some v => some (v, σ) | none => none) := by
  unfold opIxStr ixC
  cases x.ev T env <;> try rfl
  rename_i s
  cases i.ev T env <;> try rfl
  rename_i k n
  simp only
  split
  · generalize dropX n.toNat s = o
    cases o with
    | none => rfl
    | some l => cases l <;> rfl
  · rfl
theorem ixC_at {s : List Nat} {k : IntKind} {n : Nat} (hn : n < s.length) : ixC (.str s) (.int k (n : Int)) = some (.int .u8 ((s.getD n 0 : Nat) : Int)) := by
  unfold ixC
  simp only [Int.toNat_natCast, if_pos (Int.natCast_nonneg n), dropX_get hn, List.getD_eq_getElem?_getD, List.getElem?_eq_getElem hn, Option.getD_some, Int.ofNat_eq_natCast]

theorem word_ok (q : Bool) (s : List Nat) (σ : St) (hs : ∀ c ∈ s, c < 256) (hl : 8 ≤ s.length) : Cw TS q 92 [.str s] σ = some (.int .u64 (wordS s), σ) := by
  have hb : ∀ i, s.getD i 0 < 256 := by
    intro i
    rw [List.getD_eq_getElem?_getD]
    by_cases h : i < s.length
    · rw [List.getElem?_eq_getElem h]; exact hs _ (List.getElem_mem _)
    · rw [List.getElem?_eq_none (by omega)]; decide
  have c0 := ixC_at (s := s) (k := .i64) (n := 0) (by omega)
  have c1 := ixC_at (s := s) (k := .i64) (n := 1) (by omega)
  have c2 := ixC_at (s := s) (k := .i64) (n := 2) (by omega)
  have c3 := ixC_at (s := s) (k := .i64) (n := 3) (by omega)
  have c4 := ixC_at (s := s) (k := .i64) (n := 4) (by omega)
  have c5 := ixC_at (s := s) (k := .i64) (n := 5) (by omega)
  have c6 := ixC_at (s := s) (k := .i64) (n := 6) (by omega)
  have c7 := ixC_at (s := s) (k := .i64) (n := 7) (by omega)
  have w : ∀ i, wrapI .u64 ((s.getD i 0 : Nat) : Int) = ((s.getD i 0 : Nat) : Int) := fun i => wrap_u64 (by omega) (by have := hb i; omega)
  have sh : ∀ i (n : Nat), n ≤ 56 → shiftI .shl .u64 ((s.getD i 0 : Nat) : Int) (n : Int) = some (.int .u64 ((s.getD i 0 * 2 ^ n : Nat) : Int)) := by
    intro i n hn
    unfold shiftI
    rw [if_neg (by omega)]
    simp only [Int.toNat_natCast]
    have : min n (IntKind.bits .u64) = n := by simp only [IntKind.bits]; omega
    rw [this]
    have h2 : s.getD i 0 * 2 ^ n < 256 * 2 ^ 56 := by
      apply Nat.lt_of_lt_of_le (Nat.mul_lt_mul_of_pos_right (hb i) (Nat.two_pow_pos n))
      exact Nat.mul_le_mul_left _ (Nat.pow_le_pow_right (by omega) hn)
    have e : ((s.getD i 0 : Nat) : Int) * 2 ^ n = ((s.getD i 0 * 2 ^ n : Nat) : Int) := by
      rw [Int.natCast_mul, Int.natCast_pow]; rfl
    rw [e, wrap_u64 (by omega) (by have : (256 * 2 ^ 56 : Nat) = 18446744073709551616 := by decide
                                   omega)]
  have s1 := sh 1 8 (by omega)
  have s2 := sh 2 16 (by omega)
  have s3 := sh 3 24 (by omega)
  have s4 := sh 4 32 (by omega)
  have s5 := sh 5 40 (by omega)
  have s6 := sh 6 48 (by omega)
  have s7 := sh 7 56 (by omega)
  simp only [Int.cast_ofNat_Int, Int.natCast_zero, Int.natCast_one] at c0 c1 c2 c3 c4 c5 c6 c7 s1 s2 s3 s4 s5 s6 s7
  rw [Cw_of fn92 q _ σ rfl]
  simp only [c92, sC, reduceIte, Nat.reduceEqDiff, sD, sF, Nat.reduceAdd, opMov, opIxStr_s, opToInt, opArith, arith, intArith, c0, c1, c2, c3, c4, c5, c6, c7, s1, s2, s3, s4, s5, s6, s7, w, IntKind.bits]
  rfl
end Go.Ab.Dirs
end

set_option maxRecDepth 10000
noncomputable section
namespace Go.Ab.Dirs
open Go Go.Ab

/-- What a first byte asks: how many bytes, and where the second one lies. -/
def accS (a : Nat) : Option (Nat × Nat × Nat) :=
  if a < 194 then none else if a ≤ 223 then some (2, 128, 191) else if a = 224 then some (3, 160, 191) else if a ≤ 236 then some (3, 128, 191)
  else if a = 237 then some (3, 128, 159) else if a ≤ 239 then some (3, 128, 191) else if a = 240 then some (4, 144, 191) else if a ≤ 243 then some (4, 128, 191)
  else if a = 244 then some (4, 128, 143) else none
/-- How many bytes the first character has, if it is well-formed. -/
def cutS (s : List Nat) : Option Nat :=
  if s.getD 0 0 < 128 then some 1 else
  match accS (s.getD 0 0) with
  | none => none
  | some (n, lo, hi) => if n ≤ s.length ∧ lo ≤ s.getD 1 0 ∧ s.getD 1 0 ≤ hi ∧ (3 ≤ n → 128 ≤ s.getD 2 0 ∧ s.getD 2 0 ≤ 191) ∧ (4 ≤ n → 128 ≤ s.getD 3 0 ∧ s.getD 3 0 ≤ 191) then some n else none
def validS : List Nat → Bool
  | [] => true
  | a :: l => match cutS (a :: l) with
    | none => false
    | some n => validS (l.drop (n - 1))
  termination_by s => s.length
  decreasing_by simp; omega

theorem validS_nil : validS [] = true := by unfold validS; rfl
theorem validS_none {s : List Nat} (hs : 0 < s.length) (h : cutS s = none) : validS s = false := by
  cases s with
  | nil => simp at hs
  | cons a l => unfold validS; rw [h]
theorem validS_some {s : List Nat} {n : Nat} (hs : 0 < s.length) (hn : 0 < n) (h : cutS s = some n) : validS s = validS (s.drop n) := by
  cases s with
  | nil => simp at hs
  | cons a l =>
    rw [validS, h]
    simp only
    obtain ⟨m, rfl⟩ : ∃ m, n = m + 1 := ⟨n - 1, by omega⟩
    simp
theorem validS_ascii {s : List Nat} (hs : 0 < s.length) (h : s.getD 0 0 < 128) : validS s = validS (s.drop 1) :=
  validS_some hs (by omega) (by unfold cutS; rw [if_pos h])
theorem validS_asciis : ∀ (k : Nat) (s : List Nat), k ≤ s.length → (∀ i, i < k → s.getD i 0 < 128) → validS s = validS (s.drop k)
  | 0, s, _, _ => by simp
  | k + 1, s, hk, h => by
    rw [validS_ascii (by omega) (h 0 (by omega)), validS_asciis k (s.drop 1) (by simp; omega) ?_, List.drop_drop, Nat.add_comm]
    intro i hi
    have := h (i + 1) (by omega)
    rw [List.getD_eq_getElem?_getD] at this ⊢
    rw [List.getElem?_drop, Nat.add_comm]
    exact this

theorem drop_bytes {s : List Nat} (hs : ∀ c ∈ s, c < 256) (n : Nat) : ∀ c ∈ s.drop n, c < 256 := fun c hc => hs c (List.mem_of_mem_drop hc)

theorem sfrom_nat {s : List Nat} {k : IntKind} {n : Nat} (hn : n ≤ s.length) : sfrom (.str s) (.int k (n : Int)) = some (.str (s.drop n)) := by
  unfold sfrom; simp only [Int.toNat_natCast]; rw [if_pos ⟨by omega, by omega⟩]

theorem word_valid {s : List Nat} (hs : ∀ c ∈ s, c < 256) (hl : 8 ≤ s.length) (h : NoHi (wordS s)) : validS s = validS (s.drop 8) :=
  validS_asciis 8 s hl (word_ascii hs hl h)

theorem ia_or64 (x y : Int) : intArith .or .u64 x y = some (.int .u64 (wOr x y)) := rfl
theorem ia_hi64 (x : Int) : intArith .and .u64 x 9259542123273814144 = some (.int .u64 (hiAnd x)) := rfl

/-- The inner loop passes over bytes below 128. -/
theorem valid_in : ∀ (m : Nat) (s : List Nat) (env : Env) (σ : St) (r : Option (Out × Env × St)), s.length ≤ m → (∀ c ∈ s, c < 256) → s.length < 9223372036854775808 → Ew TS false (.loop L64_1) env σ = r → V env 0 = .str s →
    ∃ e s', r = some (.exit 2, e, σ) ∧ V e 0 = .str s' ∧ validS s' = validS s ∧ s'.length ≤ s.length ∧ (∀ c ∈ s', c < 256)
  | 0, s, env, σ, r, hm, hs, hb, hr, h0 => by
    have hlt : ¬ ((32 : Int) < (s.length : Int)) := by omega
    rw [Ew_loop] at hr
    simp only [L64_1, sA, reduceIte, Nat.reduceEqDiff, Int.reduceLT, Int.reduceLE, Int.reduceEq, Int.reduceNeg, reduceCtorEq, Nat.reduceAdd, sD, h0, hlt] at hr
    exact ⟨_, s, hr.symm, by simp only [sV, Nat.reduceEqDiff, reduceIte, Nat.reduceAdd, h0], rfl, Nat.le_refl _, hs⟩
  | m + 1, s, env, σ, r, hm, hs, hb, hr, h0 => by
    rw [Ew_loop] at hr
    by_cases hlt : (32 : Int) < (s.length : Int)
    · have f8 := sfrom_nat (s := s) (k := .i64) (n := 8) (by omega)
      have f16 := sfrom_nat (s := s) (k := .i64) (n := 16) (by omega)
      have f24 := sfrom_nat (s := s) (k := .i64) (n := 24) (by omega)
      have f32 := sfrom_nat (s := s) (k := .i64) (n := 32) (by omega)
      have w0 := word_ok true s σ hs (by omega)
      have w8 := word_ok true (s.drop 8) σ (drop_bytes hs 8) (by simp; omega)
      have w16 := word_ok true (s.drop 16) σ (drop_bytes hs 16) (by simp; omega)
      have w24 := word_ok true (s.drop 24) σ (drop_bytes hs 24) (by simp; omega)
      simp only [Int.cast_ofNat_Int] at f8 f16 f24 f32
      by_cases hz : hiAnd (wOr (wOr (wordS s) (wordS (s.drop 8))) (wOr (wordS (s.drop 16)) (wordS (s.drop 24)))) = 0
      · have hz' := eq_true hz
        simp only [L64_1, sA, reduceIte, Nat.reduceEqDiff, Int.reduceLT, Int.reduceLE, Int.reduceEq, Int.reduceNeg, reduceCtorEq, Nat.reduceAdd, sD, h0, hlt, opCall, argsOf, opSlStr_from, f8, f16, f24, f32, w0, w8, w16, w24, ia_or64, ia_hi64, hz'] at hr
        have hn := hi_zero hz
        obtain ⟨n1, n2⟩ := hn.or
        obtain ⟨a, b⟩ := n1.or
        obtain ⟨c, d⟩ := n2.or
        have v1 := word_valid hs (by omega) a
        have v2 := word_valid (drop_bytes hs 8) (by simp; omega) b
        have v3 := word_valid (drop_bytes hs 16) (by simp; omega) c
        have v4 := word_valid (drop_bytes hs 24) (by simp; omega) d
        simp only [List.drop_drop, Nat.reduceAdd] at v2 v3 v4
        obtain ⟨e, s', g1, g2, g3, g4, g5⟩ := valid_in m (s.drop 32) _ σ r (by simp; omega) (drop_bytes hs 32) (by simp; omega) hr (by simp only [sV, Nat.reduceEqDiff, reduceIte, Nat.reduceAdd])
        exact ⟨e, s', g1, g2, by rw [g3, v1, v2, v3, v4], Nat.le_trans g4 (by simp), g5⟩
      · simp only [L64_1, sA, reduceIte, Nat.reduceEqDiff, Int.reduceLT, Int.reduceLE, Int.reduceEq, Int.reduceNeg, reduceCtorEq, Nat.reduceAdd, sD, h0, hlt, opCall, argsOf, opSlStr_from, f8, f16, f24, f32, w0, w8, w16, w24, ia_or64, ia_hi64, hz] at hr
        exact ⟨_, s, hr.symm, by simp only [sV, Nat.reduceEqDiff, reduceIte, Nat.reduceAdd, h0], rfl, Nat.le_refl _, hs⟩
    · simp only [L64_1, sA, reduceIte, Nat.reduceEqDiff, Int.reduceLT, Int.reduceLE, Int.reduceEq, Int.reduceNeg, reduceCtorEq, Nat.reduceAdd, sD, h0, hlt] at hr
      exact ⟨_, s, hr.symm, by simp only [sV, Nat.reduceEqDiff, reduceIte, Nat.reduceAdd, h0], rfl, Nat.le_refl _, hs⟩
end Go.Ab.Dirs
end
