/- selvedgeref05: Kind, ends, wall. -/
import Derived.Test.YthbanbnmomcohaaGreatDoorM24
import Derived.Test.YthbanbnmomcohaaGreatDoorM22
import Derived.Test.YthbanbnmomcohaaGreatDoorM26
set_option linter.all false
set_option linter.unusedSimpArgs false
set_option maxRecDepth 100000
noncomputable section
namespace Go.Ab.Dirs
open Go Go.Ab

def kl1 : List Nat := [100, 105, 118, 32, 117, 108, 32, 111, 108, 32, 115, 101, 99, 116, 105, 111, 110, 32, 97, 114, 116, 105, 99, 108, 101, 32, 104, 101, 97, 100, 101, 114, 32, 102, 111, 111, 116, 101, 114, 32, 109, 97, 105, 110, 32, 110, 97, 118, 32, 97, 115, 105, 100, 101, 32, 98, 108, 111, 99, 107, 113, 117, 111, 116, 101, 32, 102, 105, 103, 117, 114, 101]
def kw1 : List (List Nat) := [[100, 105, 118], [117, 108], [111, 108], [115, 101, 99, 116, 105, 111, 110], [97, 114, 116, 105, 99, 108, 101], [104, 101, 97, 100, 101, 114], [102, 111, 111, 116, 101, 114], [109, 97, 105, 110], [110, 97, 118], [97, 115, 105, 100, 101], [98, 108, 111, 99, 107, 113, 117, 111, 116, 101], [102, 105, 103, 117, 114, 101]]
theorem kl1_split : splitG kl1.length kl1 = kw1 := by decide +kernel
theorem kl1_ok (w : List Nat) (σ : St) : Cw TS false 48 [.str w, .str kl1] σ = some (.bool (decide (w ∈ kw1)), σ) := by
  rw [← kl1_split]; exact among_ok w kl1 (by decide) σ
def kl2 : List Nat := [104, 49, 32, 104, 50, 32, 104, 51, 32, 104, 52, 32, 104, 53, 32, 104, 54]
def kw2 : List (List Nat) := [[104, 49], [104, 50], [104, 51], [104, 52], [104, 53], [104, 54]]
theorem kl2_split : splitG kl2.length kl2 = kw2 := by decide +kernel
theorem kl2_ok (w : List Nat) (σ : St) : Cw TS false 48 [.str w, .str kl2] σ = some (.bool (decide (w ∈ kw2)), σ) := by
  rw [← kl2_split]; exact among_ok w kl2 (by decide) σ
def kl3 : List Nat := [115, 112, 97, 110, 32, 98, 32, 105, 32, 101, 109, 32, 115, 116, 114, 111, 110, 103, 32, 117, 32, 115, 32, 115, 109, 97, 108, 108, 32, 99, 111, 100, 101, 32, 98, 100, 105, 32, 98, 100, 111, 32, 97, 98, 98, 114, 32, 99, 105, 116, 101, 32, 113, 32, 115, 117, 98, 32, 115, 117, 112, 32, 109, 97, 114, 107]
def kw3 : List (List Nat) := [[115, 112, 97, 110], [98], [105], [101, 109], [115, 116, 114, 111, 110, 103], [117], [115], [115, 109, 97, 108, 108], [99, 111, 100, 101], [98, 100, 105], [98, 100, 111], [97, 98, 98, 114], [99, 105, 116, 101], [113], [115, 117, 98], [115, 117, 112], [109, 97, 114, 107]]
theorem kl3_split : splitG kl3.length kl3 = kw3 := by decide +kernel
theorem kl3_ok (w : List Nat) (σ : St) : Cw TS false 48 [.str w, .str kl3] σ = some (.bool (decide (w ∈ kw3)), σ) := by
  rw [← kl3_split]; exact among_ok w kl3 (by decide) σ

/-- The document's kind of a name. -/
def refKindS (w : List Nat) : Nat :=
  if w = [] then 0 else if w ∈ kw1 then 1 else if w = [112] then 2 else if w = [108, 105] then 3 else if w ∈ kw2 then 4 else if w ∈ kw3 then 5
  else if w = [97] then 6 else if w = [98, 114] then 7 else if w = [119, 98, 114] then 7 else if w = [104, 114] then 8 else 0

theorem lookK_none {s : List Nat} : ∀ {l : List (List Nat × Nat)}, s ∉ l.map (·.1) → lookK s l = 0
  | [], _ => rfl
  | (w, k) :: l, h => by
    simp only [List.map_cons, List.mem_cons, not_or] at h
    unfold lookK
    rw [if_neg h.1]
    exact lookK_none h.2
theorem kind_words : ∀ w ∈ kindL.map (·.1), refKindS w = kindS w := by decide +kernel
theorem kw_words : ∀ w ∈ [] ++ kw1 ++ kw2 ++ kw3 ++ [[112], [108, 105], [97], [98, 114], [119, 98, 114], [104, 114]], w ∈ kindL.map (·.1) := by decide +kernel
theorem refKindS_eq (w : List Nat) : refKindS w = kindS w := by
  by_cases h : w ∈ kindL.map (·.1)
  · exact kind_words w h
  · have e : kindS w = 0 := lookK_none h
    rw [e]
    have k := fun hm => h (kw_words w hm)
    simp only [List.nil_append, List.mem_append, List.mem_cons, List.not_mem_nil, or_false, not_or] at k
    obtain ⟨⟨⟨k1, k2⟩, k3⟩, k4, k5, k6, k7, k8, k9⟩ : ((w ∉ kw1 ∧ w ∉ kw2) ∧ w ∉ kw3) ∧ w ≠ [112] ∧ w ≠ [108, 105] ∧ w ≠ [97] ∧ w ≠ [98, 114] ∧ w ≠ [119, 98, 114] ∧ w ≠ [104, 114] := by
      refine ⟨⟨⟨?_, ?_⟩, ?_⟩, ?_, ?_, ?_, ?_, ?_, ?_⟩ <;> intro hm <;> apply k <;> simp [hm]
    unfold refKindS
    simp only [k1, k2, k3, k4, k5, k6, k7, k8, k9, if_false, ite_self]

set_option maxHeartbeats 2000000 in
theorem RefKind_ok' (w : List Nat) (σ : St) : Cw TS false 31 [.str w] σ = some (.int .u8 (refKindS w : Int), σ) := by
  rw [Cw_of fn31 false _ σ rfl]
  have A1 := kl1_ok w σ
  have A2 := kl2_ok w σ
  have A3 := kl3_ok w σ
  simp only [kl1] at A1
  simp only [kl2] at A2
  simp only [kl3] at A3
  by_cases h0 : w = []
  · have h0' := eq_true h0
    have hk : refKindS w = 0 := by unfold refKindS; simp only [h0', if_true, if_false]
    simp only [c31, sA, reduceIte, Nat.reduceEqDiff, Int.reduceLT, Int.reduceLE, Int.reduceEq, Int.reduceNeg, reduceCtorEq, Nat.reduceAdd, opCall, argsOf, A1, A2, A3, h0', hk]
    rfl
  by_cases h1 : w ∈ kw1
  · have h1' := eq_true h1
    have hk : refKindS w = 1 := by unfold refKindS; simp only [h0, h1', if_true, if_false]
    simp only [c31, sA, reduceIte, Nat.reduceEqDiff, Int.reduceLT, Int.reduceLE, Int.reduceEq, Int.reduceNeg, reduceCtorEq, Nat.reduceAdd, opCall, argsOf, A1, A2, A3, h0, h1', hk]
    rfl
  by_cases h2 : w = [112]
  · have h2' := eq_true h2
    have hk : refKindS w = 2 := by unfold refKindS; simp only [h0, h1, h2', if_true, if_false]
    simp only [c31, sA, reduceIte, Nat.reduceEqDiff, Int.reduceLT, Int.reduceLE, Int.reduceEq, Int.reduceNeg, reduceCtorEq, Nat.reduceAdd, opCall, argsOf, A1, A2, A3, h0, h1, h2', hk]
    rfl
  by_cases h3 : w = [108, 105]
  · have h3' := eq_true h3
    have hk : refKindS w = 3 := by unfold refKindS; simp only [h0, h1, h2, h3', if_true, if_false]
    simp only [c31, sA, reduceIte, Nat.reduceEqDiff, Int.reduceLT, Int.reduceLE, Int.reduceEq, Int.reduceNeg, reduceCtorEq, Nat.reduceAdd, opCall, argsOf, A1, A2, A3, h0, h1, h2, h3', hk]
    rfl
  by_cases h4 : w ∈ kw2
  · have h4' := eq_true h4
    have hk : refKindS w = 4 := by unfold refKindS; simp only [h0, h1, h2, h3, h4', if_true, if_false]
    simp only [c31, sA, reduceIte, Nat.reduceEqDiff, Int.reduceLT, Int.reduceLE, Int.reduceEq, Int.reduceNeg, reduceCtorEq, Nat.reduceAdd, opCall, argsOf, A1, A2, A3, h0, h1, h2, h3, h4', hk]
    rfl
  by_cases h5 : w ∈ kw3
  · have h5' := eq_true h5
    have hk : refKindS w = 5 := by unfold refKindS; simp only [h0, h1, h2, h3, h4, h5', if_true, if_false]
    simp only [c31, sA, reduceIte, Nat.reduceEqDiff, Int.reduceLT, Int.reduceLE, Int.reduceEq, Int.reduceNeg, reduceCtorEq, Nat.reduceAdd, opCall, argsOf, A1, A2, A3, h0, h1, h2, h3, h4, h5', hk]
    rfl
  by_cases h6 : w = [97]
  · have h6' := eq_true h6
    have hk : refKindS w = 6 := by unfold refKindS; simp only [h0, h1, h2, h3, h4, h5, h6', if_true, if_false]
    simp only [c31, sA, reduceIte, Nat.reduceEqDiff, Int.reduceLT, Int.reduceLE, Int.reduceEq, Int.reduceNeg, reduceCtorEq, Nat.reduceAdd, opCall, argsOf, A1, A2, A3, h0, h1, h2, h3, h4, h5, h6', hk]
    rfl
  by_cases h7 : w = [98, 114]
  · have h7' := eq_true h7
    have hk : refKindS w = 7 := by unfold refKindS; simp only [h0, h1, h2, h3, h4, h5, h6, h7', if_true, if_false]
    simp only [c31, sA, reduceIte, Nat.reduceEqDiff, Int.reduceLT, Int.reduceLE, Int.reduceEq, Int.reduceNeg, reduceCtorEq, Nat.reduceAdd, opCall, argsOf, A1, A2, A3, h0, h1, h2, h3, h4, h5, h6, h7', hk]
    rfl
  by_cases h8 : w = [119, 98, 114]
  · have h8' := eq_true h8
    have hk : refKindS w = 7 := by unfold refKindS; simp only [h0, h1, h2, h3, h4, h5, h6, h7, h8', if_true, if_false]
    simp only [c31, sA, reduceIte, Nat.reduceEqDiff, Int.reduceLT, Int.reduceLE, Int.reduceEq, Int.reduceNeg, reduceCtorEq, Nat.reduceAdd, opCall, argsOf, A1, A2, A3, h0, h1, h2, h3, h4, h5, h6, h7, h8', hk]
    rfl
  by_cases h9 : w = [104, 114]
  · have h9' := eq_true h9
    have hk : refKindS w = 8 := by unfold refKindS; simp only [h0, h1, h2, h3, h4, h5, h6, h7, h8, h9', if_true, if_false]
    simp only [c31, sA, reduceIte, Nat.reduceEqDiff, Int.reduceLT, Int.reduceLE, Int.reduceEq, Int.reduceNeg, reduceCtorEq, Nat.reduceAdd, opCall, argsOf, A1, A2, A3, h0, h1, h2, h3, h4, h5, h6, h7, h8, h9', hk]
    rfl
  have hk : refKindS w = 0 := by unfold refKindS; simp only [h0, h1, h2, h3, h4, h5, h6, h7, h8, h9, if_false]
  simp only [c31, sA, reduceIte, Nat.reduceEqDiff, Int.reduceLT, Int.reduceLE, Int.reduceEq, Int.reduceNeg, reduceCtorEq, Nat.reduceAdd, opCall, argsOf, A1, A2, A3, h0, h1, h2, h3, h4, h5, h6, h7, h8, h9, hk]
  rfl
theorem RefKind_ok (w : List Nat) (σ : St) : Cw TS false 31 [.str w] σ = some (.int .u8 (kindS w : Int), σ) := by
  rw [← refKindS_eq]; exact RefKind_ok' w σ

theorem rends_ok (k : Nat) (σ : St) : Cw TS false 49 [.int .u8 (k : Int)] σ = some (.bool (endsS k), σ) := by
  rw [Cw_of fn49 false _ σ rfl]
  by_cases h1 : (1 : Int) ≤ (k : Int)
  · by_cases h2 : (k : Int) ≤ 4
    · have : endsS k = true := by unfold endsS; simp; omega
      simp only [c49, sA, reduceIte, Nat.reduceEqDiff, Int.reduceLT, Int.reduceLE, Int.reduceEq, Int.reduceNeg, reduceCtorEq, Nat.reduceAdd, h1, h2, this]
    · by_cases h3 : (k : Int) = 8
      · have : endsS k = true := by unfold endsS; simp; omega
        have h3 := eq_true h3
        simp only [c49, sA, reduceIte, Nat.reduceEqDiff, Int.reduceLT, Int.reduceLE, Int.reduceEq, Int.reduceNeg, reduceCtorEq, Nat.reduceAdd, h1, h2, h3, this]
      · have : endsS k = false := by unfold endsS; simp; omega
        simp only [c49, sA, reduceIte, Nat.reduceEqDiff, Int.reduceLT, Int.reduceLE, Int.reduceEq, Int.reduceNeg, reduceCtorEq, Nat.reduceAdd, h1, h2, h3, this]
  · have h3 : ¬ (k : Int) = 8 := by omega
    have : endsS k = false := by unfold endsS; simp; omega
    simp only [c49, sA, reduceIte, Nat.reduceEqDiff, Int.reduceLT, Int.reduceLE, Int.reduceEq, Int.reduceNeg, reduceCtorEq, Nat.reduceAdd, h1, h3, this]

theorem rwall_ok (s : List Nat) (σ : St) : Cw TS false 50 [.str s] σ = some (.bool (wallS s), σ) := by
  rw [Cw_of fn50 false _ σ rfl]
  by_cases h1 : (kindS s : Int) = 4
  · have : wallS s = true := by unfold wallS; simp; omega
    have h1 := eq_true h1
    simp only [c50, sA, reduceIte, Nat.reduceEqDiff, Int.reduceLT, Int.reduceLE, Int.reduceEq, Int.reduceNeg, reduceCtorEq, Nat.reduceAdd, opCall, argsOf, RefKind_ok, h1, this]
  · by_cases h2 : (kindS s : Int) = 1
    · have h2' := eq_true h2
      by_cases h3 : s = [100, 105, 118]
      · have : wallS s = false := by unfold wallS; simp [h3]; decide
        have h3 := eq_true h3
        simp only [c50, sA, reduceIte, Nat.reduceEqDiff, Int.reduceLT, Int.reduceLE, Int.reduceEq, Int.reduceNeg, reduceCtorEq, Nat.reduceAdd, opCall, argsOf, RefKind_ok, h1, h2', h3, this]
      · have : wallS s = true := by unfold wallS; simp; right; exact ⟨by omega, h3⟩
        simp only [c50, sA, reduceIte, Nat.reduceEqDiff, Int.reduceLT, Int.reduceLE, Int.reduceEq, Int.reduceNeg, reduceCtorEq, Nat.reduceAdd, opCall, argsOf, RefKind_ok, h1, h2', h3, this]
    · have : wallS s = false := by unfold wallS; simp; omega
      simp only [c50, sA, reduceIte, Nat.reduceEqDiff, Int.reduceLT, Int.reduceLE, Int.reduceEq, Int.reduceNeg, reduceCtorEq, Nat.reduceAdd, opCall, argsOf, RefKind_ok, h1, h2, this]
end Go.Ab.Dirs
end

set_option maxRecDepth 100000
noncomputable section
namespace Go.Ab.Dirs
open Go Go.Ab

def badR (k : Nat) (w : List Nat) (d : Nat) (free : Bool) : Bool :=
  endsS k && decide (w = [112]) || decide ((k : Int) = 6) && decide (w = [97]) || decide ((k : Int) = 4) && decide ((d : Int) = 1) && decide ((kindS w : Int) = 4) || decide ((k : Int) = 3) && decide (w = [108, 105]) && !free
def nestR (t : List ND) (k : Nat) : Nat → Nat → Nat → Bool → Bool
  | 0, _, _, _ => true
  | f + 1, u, d, free => if 0 < u then (if badR k (t.getD u nd0).name (d + 1) free = true then false else nestR t k f (t.getD u nd0).up.toNat (d + 1) (free || wallS (t.getD u nd0).name)) else decide (d < 200)
def UpsR (t : List ND) : Prop := ∀ j, 0 < j → j < t.length → ∃ u : Nat, (t.getD j nd0).up = (u : Int) ∧ u < j

set_option maxHeartbeats 8000000 in
theorem rnested_ok {σ : St} {t : List ND} {tv : AVal} (ht : TreeI σ tv t) (hU : UpsR t) (hb : t.length ≤ 16384) {i : Nat} (h0 : 0 < i) (hi : i < t.length) : CW TS false 33 [tv, .int .i64 (i : Int)] σ fun v s => v = .bool (nestR t (kindS (t.getD i nd0).name) i (t.getD i nd0).up.toNat 0 false) ∧ s = σ := by
  obtain ⟨u0, hu0, hlt0⟩ := hU i h0 hi
  refine CW_of fn33 rfl ?_
  repeat' (first | ((first | apply RG_step | apply DG_step | apply DG_read); focus (intro hgd; have hgd2 := hgd; (try simp only [sB] at hgd); (try simp only [sP] at hgd2); simp (maxSteps := 1000000) (disch := (first | omega | assumption | exact Fr.refl _)) only [hgd, sR, reduceIte, Nat.reduceEqDiff, Int.reduceLT, Int.reduceLE, Int.reduceEq, Int.reduceNeg, reduceCtorEq, Nat.reduceAdd, Int.reduceToNat, c33, RefKind_ok, ht.ixz, ht.n1, ht.a1, ht.n4, ht.a4, hu0]; exact StepIs_refl)) | ((first | refine Br_intro ?_ ?_ | refine BrB_intro ?_ ?_) <;> intro hbr hbe <;> simp (maxSteps := 1000000) (disch := (first | omega | assumption | exact Fr.refl _)) only [hbe, sR, reduceIte, Nat.reduceEqDiff, Int.reduceLT, Int.reduceLE, Int.reduceEq, Int.reduceNeg, reduceCtorEq, Nat.reduceAdd, Int.reduceToNat, c33, RefKind_ok, ht.ixz, ht.n1, ht.a1, ht.n4, ht.a4, hu0] <;> clear hbe) | simp (maxSteps := 1000000) (disch := (first | omega | assumption | exact Fr.refl _)) only [sR, reduceIte, Nat.reduceEqDiff, Int.reduceLT, Int.reduceLE, Int.reduceEq, Int.reduceNeg, reduceCtorEq, Nat.reduceAdd, Int.reduceToNat, c33, RefKind_ok, ht.ixz, ht.n1, ht.a1, ht.n4, ht.a4, hu0])
  generalize kindS (t.getD i nd0).name = k
  refine W_loop (fun n e s => ∃ (u d f : Nat) (free : Bool), n = u ∧ s = σ ∧ u < f ∧ u < t.length ∧ d + u ≤ i ∧ V e 0 = tv ∧ V e 5 = .int .u8 (k : Int) ∧ V e 6 = .int .i64 (d : Int) ∧ V e 7 = .bool free ∧ V e 8 = .int .i64 (u : Int) ∧ nestR t k i u0 0 false = nestR t k f u d free) u0 ⟨u0, 0, i, false, rfl, rfl, hlt0, by omega, by omega, by simp only [sV, Nat.reduceEqDiff, reduceIte, Nat.reduceAdd], by simp only [sV, Nat.reduceEqDiff, reduceIte, Nat.reduceAdd], by simp only [sV, Nat.reduceEqDiff, reduceIte, Nat.reduceAdd]; rfl, by simp only [sV, Nat.reduceEqDiff, reduceIte, Nat.reduceAdd], by simp only [sV, Nat.reduceEqDiff, reduceIte, Nat.reduceAdd], rfl⟩ ?_
  rintro n e s ⟨u, d, f, free, rfl, rfl, huf, hut, hdi, v0, v5, v6, v7, v8, hN⟩
  cases f with
  | zero => omega
  | succ f =>
  rw [nestR] at hN
  repeat' (first | ((first | apply RG_step | apply DG_step | apply DG_read); focus (intro hgd; have hgd2 := hgd; (try simp only [sB] at hgd); (try simp only [sP] at hgd2); simp (maxSteps := 1000000) (disch := (first | omega | assumption | exact Fr.refl _)) only [hgd, sR, reduceIte, Nat.reduceEqDiff, Int.reduceLT, Int.reduceLE, Int.reduceEq, Int.reduceNeg, reduceCtorEq, Nat.reduceAdd, Int.reduceToNat, L33_1, v0, v5, v6, v7, v8, RefKind_ok, rends_ok, rwall_ok, ht.ixz, ht.n1, ht.a1, ht.n4, ht.a4, w_add1]; exact StepIs_refl)) | ((first | refine Br_intro ?_ ?_ | refine BrB_intro ?_ ?_) <;> intro hbr hbe <;> simp (maxSteps := 1000000) (disch := (first | omega | assumption | exact Fr.refl _)) only [hbe, sR, reduceIte, Nat.reduceEqDiff, Int.reduceLT, Int.reduceLE, Int.reduceEq, Int.reduceNeg, reduceCtorEq, Nat.reduceAdd, Int.reduceToNat, L33_1, v0, v5, v6, v7, v8, RefKind_ok, rends_ok, rwall_ok, ht.ixz, ht.n1, ht.a1, ht.n4, ht.a4, w_add1] <;> clear hbe) | simp (maxSteps := 1000000) (disch := (first | omega | assumption | exact Fr.refl _)) only [sR, reduceIte, Nat.reduceEqDiff, Int.reduceLT, Int.reduceLE, Int.reduceEq, Int.reduceNeg, reduceCtorEq, Nat.reduceAdd, Int.reduceToNat, L33_1, v0, v5, v6, v7, v8, RefKind_ok, rends_ok, rwall_ok, ht.ixz, ht.n1, ht.a1, ht.n4, ht.a4, w_add1])
  · rw [hN, if_pos (by omega), if_pos (show badR _ _ _ _ = true from hbr)]
  · rename_i hlt
    obtain ⟨u', hu', hlt'⟩ := hU n (by omega) hut
    rw [if_pos (by omega), if_neg (by unfold badR; rw [hbr]; decide), hu'] at hN
    exact ⟨u', hlt', u', d + 1, f, _, rfl, rfl, by omega, by omega, by omega, by simp only [sV, Nat.reduceEqDiff, reduceIte, Nat.reduceAdd, v0], by simp only [sV, Nat.reduceEqDiff, reduceIte, Nat.reduceAdd, v5], by simp only [sV, Nat.reduceEqDiff, reduceIte, Nat.reduceAdd], by simp only [sV, Nat.reduceEqDiff, reduceIte, Nat.reduceAdd], by simp only [sV, Nat.reduceEqDiff, reduceIte, Nat.reduceAdd, hu'], hN⟩
  · rw [hN, if_neg (by omega)]
    simp; omega
end Go.Ab.Dirs
end

set_option maxRecDepth 100000
noncomputable section
namespace Go.Ab.Dirs
open Go Go.Ab

section
variable {σ s0 : St} {l : List AttrD} {v : AVal} {e0 : Env} {i : Nat}
theorem namC_eq (c : Nat) : namC c = (decide ((97 : Int) ≤ c) && decide ((c : Int) ≤ 122) || decide ((48 : Int) ≤ c) && decide ((c : Int) ≤ 57) || decide ((c : Int) = 45) || decide ((c : Int) = 95)) := by
  unfold namC; rw [Bool.eq_iff_iff]; simp; omega
set_option maxHeartbeats 8000000 in
theorem rattrs_2 (hv : AttrsI σ v l) (hf : Fr σ s0) (hi : i < l.length) (hb : ∀ a ∈ l, SWF a.1 ∧ SWF a.2) (v0 : V e0 0 = v) (v3 : V e0 3 = .int .i64 (i : Int)) (v4 : V e0 4 = .int .i64 0) :
    W TS false (.loop L32_2) e0 s0 fun o e s => s = s0 ∧ ((o = .exit 2 ∧ (l.getD i at0).1.all namC = true ∧ V e 0 = v ∧ V e 3 = .int .i64 (i : Int)) ∨ (o = .ret ∧ (l.getD i at0).1.all namC = false ∧ V e 2 = .bool false)) := by
  have hw := hb l[i] (List.getElem_mem _)
  rw [← getD_lt hi at0] at hw
  have hw1 := hw.1.2
  refine W_loop (fun n e s => ∃ k : Nat, k + n = (l.getD i at0).1.length ∧ s = s0 ∧ V e 0 = v ∧ V e 3 = .int .i64 (i : Int) ∧ V e 4 = .int .i64 (k : Int) ∧ (l.getD i at0).1.all namC = ((l.getD i at0).1.drop k).all namC) (l.getD i at0).1.length ⟨0, by omega, rfl, v0, v3, v4, rfl⟩ ?_
  clear v0 v3 v4
  rintro n e s ⟨k, hk, rfl, v0, v3, v4, hN⟩
  repeat' (first | ((first | apply RG_step | apply DG_step | apply DG_read); focus (intro hgd; have hgd2 := hgd; (try simp only [sB] at hgd); (try simp only [sP] at hgd2); simp (maxSteps := 1000000) (disch := (first | omega | assumption | exact Fr.refl _)) only [hgd, sR, reduceIte, Nat.reduceEqDiff, Int.reduceLT, Int.reduceLE, Int.reduceEq, Int.reduceNeg, reduceCtorEq, Nat.reduceAdd, Int.reduceToNat, L32_2, v0, v3, v4, hv.ixz, hv.f0, hv.l0, opIxStr_s, ixC_at, w_add1]; exact StepIs_refl)) | ((first | refine Br_intro ?_ ?_ | refine BrB_intro ?_ ?_) <;> intro hbr hbe <;> simp (maxSteps := 1000000) (disch := (first | omega | assumption | exact Fr.refl _)) only [hbe, sR, reduceIte, Nat.reduceEqDiff, Int.reduceLT, Int.reduceLE, Int.reduceEq, Int.reduceNeg, reduceCtorEq, Nat.reduceAdd, Int.reduceToNat, L32_2, v0, v3, v4, hv.ixz, hv.f0, hv.l0, opIxStr_s, ixC_at, w_add1] <;> clear hbe) | simp (maxSteps := 1000000) (disch := (first | omega | assumption | exact Fr.refl _)) only [sR, reduceIte, Nat.reduceEqDiff, Int.reduceLT, Int.reduceLE, Int.reduceEq, Int.reduceNeg, reduceCtorEq, Nat.reduceAdd, Int.reduceToNat, L32_2, v0, v3, v4, hv.ixz, hv.f0, hv.l0, opIxStr_s, ixC_at, w_add1])
  · rw [List.drop_eq_getElem_cons (by omega), List.all_cons, ← getD_lt (by omega) 0, namC_eq, hbr, Bool.true_and] at hN
    exact ⟨n - 1, by omega, k + 1, by omega, rfl, by simp only [sV, Nat.reduceEqDiff, reduceIte, Nat.reduceAdd, v0], by simp only [sV, Nat.reduceEqDiff, reduceIte, Nat.reduceAdd, v3], by simp only [sV, Nat.reduceEqDiff, reduceIte, Nat.reduceAdd], hN⟩
  · rw [List.drop_eq_getElem_cons (by omega), List.all_cons, ← getD_lt (by omega) 0, namC_eq, hbr, Bool.false_and] at hN
    exact .inr hN
  · rw [List.drop_of_length_le (by omega)] at hN
    exact .inl hN
theorem hasN_snoc (w : List Nat) (p : List AttrD) (a : AttrD) : hasN w (p ++ [a]) = (hasN w p || decide (a.1 = w)) := by
  unfold hasN; simp
set_option maxHeartbeats 8000000 in
theorem rattrs_1 (hv : AttrsI σ v l) (hf : Fr σ s0) (hi : i < l.length) (hb : l.length < 9223372036854775807) (v0 : V e0 0 = v) (v3 : V e0 3 = .int .i64 (i : Int)) (v6 : V e0 6 = .int .i64 0) :
    W TS false (.loop L32_1) e0 s0 fun o e s => s = s0 ∧ ((o = .exit 4 ∧ hasN (l.getD i at0).1 (l.take i) = false ∧ V e 0 = v ∧ V e 3 = .int .i64 (i : Int)) ∨ (o = .ret ∧ hasN (l.getD i at0).1 (l.take i) = true ∧ V e 2 = .bool false)) := by
  refine W_loop (fun n e s => ∃ k : Nat, k + n = i ∧ s = s0 ∧ V e 0 = v ∧ V e 3 = .int .i64 (i : Int) ∧ V e 6 = .int .i64 (k : Int) ∧ hasN (l.getD i at0).1 (l.take k) = false) i ⟨0, by omega, rfl, v0, v3, v6, rfl⟩ ?_
  clear v0 v3 v6
  rintro n e s ⟨k, hk, rfl, v0, v3, v6, hN⟩
  repeat' (first | ((first | apply RG_step | apply DG_step | apply DG_read); focus (intro hgd; have hgd2 := hgd; (try simp only [sB] at hgd); (try simp only [sP] at hgd2); simp (maxSteps := 1000000) (disch := (first | omega | assumption | exact Fr.refl _)) only [hgd, sR, reduceIte, Nat.reduceEqDiff, Int.reduceLT, Int.reduceLE, Int.reduceEq, Int.reduceNeg, reduceCtorEq, Nat.reduceAdd, Int.reduceToNat, L32_1, v0, v3, v6, hv.ixz, hv.f0, hv.l0, w_add1]; exact StepIs_refl)) | ((first | refine Br_intro ?_ ?_ | refine BrB_intro ?_ ?_) <;> intro hbr hbe <;> simp (maxSteps := 1000000) (disch := (first | omega | assumption | exact Fr.refl _)) only [hbe, sR, reduceIte, Nat.reduceEqDiff, Int.reduceLT, Int.reduceLE, Int.reduceEq, Int.reduceNeg, reduceCtorEq, Nat.reduceAdd, Int.reduceToNat, L32_1, v0, v3, v6, hv.ixz, hv.f0, hv.l0, w_add1] <;> clear hbe) | simp (maxSteps := 1000000) (disch := (first | omega | assumption | exact Fr.refl _)) only [sR, reduceIte, Nat.reduceEqDiff, Int.reduceLT, Int.reduceLE, Int.reduceEq, Int.reduceNeg, reduceCtorEq, Nat.reduceAdd, Int.reduceToNat, L32_1, v0, v3, v6, hv.ixz, hv.f0, hv.l0, w_add1])
  · right
    have : l.take i = l.take k ++ (l.drop k).take (i - k) := by
      rw [← List.take_append_drop k (l.take i), List.take_take, Nat.min_eq_left (by omega), List.drop_take]
    rw [this, List.drop_eq_getElem_cons (by omega), show i - k = (i - k - 1) + 1 by omega, List.take_succ_cons, ← getD_lt (by omega) at0]
    unfold hasN
    rw [List.any_append, List.any_cons, hbr]; simp
  · refine ⟨n - 1, by omega, k + 1, by omega, rfl, by simp only [sV, Nat.reduceEqDiff, reduceIte, Nat.reduceAdd, v0], by simp only [sV, Nat.reduceEqDiff, reduceIte, Nat.reduceAdd, v3], by simp only [sV, Nat.reduceEqDiff, reduceIte, Nat.reduceAdd], ?_⟩
    rw [List.take_succ_eq_append_getElem (by omega), hasN_snoc, hN, ← getD_lt (by omega) at0, decide_eq_false hbr]; rfl
  · left
    rw [show i = k by omega] at hN ⊢; exact hN
end

theorem rattrs_ok {σ : St} {l : List AttrD} {v : AVal} (hv : AttrsI σ v l) (hwf : ∀ a ∈ l, SWF a.1 ∧ SWF a.2) : CW TS false 32 [v] σ fun v s => v = .bool (attrsS l) ∧ Fr σ s := by
  refine CW_of fn32 rfl ?_
  repeat' (first | ((first | apply RG_step | apply DG_step | apply DG_read); focus (intro hgd; have hgd2 := hgd; (try simp only [sB] at hgd); (try simp only [sP] at hgd2); simp (maxSteps := 1000000) (disch := (first | omega | assumption | exact Fr.refl _)) only [hgd, sR, reduceIte, Nat.reduceEqDiff, Int.reduceLT, Int.reduceLE, Int.reduceEq, Int.reduceNeg, reduceCtorEq, Nat.reduceAdd, Int.reduceToNat, c32, hv.ln]; exact StepIs_refl)) | ((first | refine Br_intro ?_ ?_ | refine BrB_intro ?_ ?_) <;> intro hbr hbe <;> simp (maxSteps := 1000000) (disch := (first | omega | assumption | exact Fr.refl _)) only [hbe, sR, reduceIte, Nat.reduceEqDiff, Int.reduceLT, Int.reduceLE, Int.reduceEq, Int.reduceNeg, reduceCtorEq, Nat.reduceAdd, Int.reduceToNat, c32, hv.ln] <;> clear hbe) | simp (maxSteps := 1000000) (disch := (first | omega | assumption | exact Fr.refl _)) only [sR, reduceIte, Nat.reduceEqDiff, Int.reduceLT, Int.reduceLE, Int.reduceEq, Int.reduceNeg, reduceCtorEq, Nat.reduceAdd, Int.reduceToNat, c32, hv.ln])
  · refine ⟨?_, Fr.refl _⟩
    have : attrsS l = false := by unfold attrsS; rw [decide_eq_false (by omega), Bool.and_false]
    rw [this]
  have h16 : attrsS l = attrsOK [] l := by unfold attrsS; rw [decide_eq_true (by omega), Bool.and_true]
  rw [h16]
  refine W_loop (fun n e s => ∃ i : Nat, i + n = l.length ∧ Fr σ s ∧ V e 0 = v ∧ V e 3 = .int .i64 (i : Int) ∧ attrsOK [] l = attrsOK (l.take i) (l.drop i)) l.length ⟨0, by omega, Fr.refl _, by simp only [sV, Nat.reduceEqDiff, reduceIte, Nat.reduceAdd], by simp only [sV, Nat.reduceEqDiff, reduceIte, Nat.reduceAdd]; rfl, rfl⟩ ?_
  rintro n e s ⟨i, hin, hf, v0, v3, hN⟩
  repeat' (first | ((first | apply RG_step | apply DG_step | apply DG_read); focus (intro hgd; have hgd2 := hgd; (try simp only [sB] at hgd); (try simp only [sP] at hgd2); simp (maxSteps := 1000000) (disch := (first | omega | assumption | exact Fr.refl _)) only [hgd, sR, reduceIte, Nat.reduceEqDiff, Int.reduceLT, Int.reduceLE, Int.reduceEq, Int.reduceNeg, reduceCtorEq, Nat.reduceAdd, Int.reduceToNat, L32_3, v0, v3, hv.ixz, hv.f0, hv.f1, hv.l0, hv.l1, hv.ln]; exact StepIs_refl)) | ((first | refine Br_intro ?_ ?_ | refine BrB_intro ?_ ?_) <;> intro hbr hbe <;> simp (maxSteps := 1000000) (disch := (first | omega | assumption | exact Fr.refl _)) only [hbe, sR, reduceIte, Nat.reduceEqDiff, Int.reduceLT, Int.reduceLE, Int.reduceEq, Int.reduceNeg, reduceCtorEq, Nat.reduceAdd, Int.reduceToNat, L32_3, v0, v3, hv.ixz, hv.f0, hv.f1, hv.l0, hv.l1, hv.ln] <;> clear hbe) | simp (maxSteps := 1000000) (disch := (first | omega | assumption | exact Fr.refl _)) only [sR, reduceIte, Nat.reduceEqDiff, Int.reduceLT, Int.reduceLE, Int.reduceEq, Int.reduceNeg, reduceCtorEq, Nat.reduceAdd, Int.reduceToNat, L32_3, v0, v3, hv.ixz, hv.f0, hv.f1, hv.l0, hv.l1, hv.ln])
  · have hi : i < l.length := by omega
    refine W_mono (rattrs_2 hv hf hi hwf (by simp only [sV, Nat.reduceEqDiff, reduceIte, Nat.reduceAdd, v0]) (by simp only [sV, Nat.reduceEqDiff, reduceIte, Nat.reduceAdd, v3]) (by simp only [sV, Nat.reduceEqDiff, reduceIte, Nat.reduceAdd])) ?_
    rintro o e' s' ⟨rfl, ⟨rfl, h1, v0, v3⟩ | ⟨rfl, h1, v2⟩⟩
    · repeat' (first | ((first | apply RG_step | apply DG_step | apply DG_read); focus (intro hgd; have hgd2 := hgd; (try simp only [sB] at hgd); (try simp only [sP] at hgd2); simp (maxSteps := 1000000) (disch := (first | omega | assumption | exact Fr.refl _)) only [hgd, sR, reduceIte, Nat.reduceEqDiff, Int.reduceLT, Int.reduceLE, Int.reduceEq, Int.reduceNeg, reduceCtorEq, Nat.reduceAdd, Int.reduceToNat, v0, v3, hv.ixz, hv.f0, hv.f1, hv.l0, hv.l1, hv.ln]; exact StepIs_refl)) | ((first | refine Br_intro ?_ ?_ | refine BrB_intro ?_ ?_) <;> intro hbr hbe <;> simp (maxSteps := 1000000) (disch := (first | omega | assumption | exact Fr.refl _)) only [hbe, sR, reduceIte, Nat.reduceEqDiff, Int.reduceLT, Int.reduceLE, Int.reduceEq, Int.reduceNeg, reduceCtorEq, Nat.reduceAdd, Int.reduceToNat, v0, v3, hv.ixz, hv.f0, hv.f1, hv.l0, hv.l1, hv.ln] <;> clear hbe) | simp (maxSteps := 1000000) (disch := (first | omega | assumption | exact Fr.refl _)) only [sR, reduceIte, Nat.reduceEqDiff, Int.reduceLT, Int.reduceLE, Int.reduceEq, Int.reduceNeg, reduceCtorEq, Nat.reduceAdd, Int.reduceToNat, v0, v3, hv.ixz, hv.f0, hv.f1, hv.l0, hv.l1, hv.ln])
      have hd : l.drop i = l.getD i at0 :: l.drop (i + 1) := by rw [List.drop_eq_getElem_cons hi, getD_lt hi]
      have ht : l.take (i + 1) = l.take i ++ [l.getD i at0] := by rw [List.take_succ_eq_append_getElem hi, getD_lt hi]
      have hw := hwf l[i] (List.getElem_mem _)
      rw [← getD_lt hi at0] at hw
      rw [hd, attrsOK, attrOK, namedS, h1, Bool.true_and] at hN
      (refine RG_split ?_ ?_ <;> intro hs <;> have hs2 := hs <;> (try simp only [sB] at hs) <;> (try simp only [sP] at hs2))
      · repeat' (first | ((first | apply RG_step | apply DG_step | apply DG_read); focus (intro hgd; have hgd2 := hgd; (try simp only [sB] at hgd); (try simp only [sP] at hgd2); simp (maxSteps := 1000000) (disch := (first | omega | assumption | exact Fr.refl _)) only [hgd, sR, reduceIte, Nat.reduceEqDiff, Int.reduceLT, Int.reduceLE, Int.reduceEq, Int.reduceNeg, reduceCtorEq, Nat.reduceAdd, Int.reduceToNat, hs, hv.ixz, hv.f0, hv.f1, hv.l0, hv.l1, hv.ln]; exact StepIs_refl)) | ((first | refine Br_intro ?_ ?_ | refine BrB_intro ?_ ?_) <;> intro hbr hbe <;> simp (maxSteps := 1000000) (disch := (first | omega | assumption | exact Fr.refl _)) only [hbe, sR, reduceIte, Nat.reduceEqDiff, Int.reduceLT, Int.reduceLE, Int.reduceEq, Int.reduceNeg, reduceCtorEq, Nat.reduceAdd, Int.reduceToNat, hs, hv.ixz, hv.f0, hv.f1, hv.l0, hv.l1, hv.ln] <;> clear hbe) | simp (maxSteps := 1000000) (disch := (first | omega | assumption | exact Fr.refl _)) only [sR, reduceIte, Nat.reduceEqDiff, Int.reduceLT, Int.reduceLE, Int.reduceEq, Int.reduceNeg, reduceCtorEq, Nat.reduceAdd, Int.reduceToNat, hs, hv.ixz, hv.f0, hv.f1, hv.l0, hv.l1, hv.ln])
        refine Bd_call (CW_fr (rwell_ok _ _ hw.2)) ?_
        rintro _ s2 ⟨rfl, hf2⟩
        have hf2 := hf.trans hf2
        repeat' (first | ((first | apply RG_step | apply DG_step | apply DG_read); focus (intro hgd; have hgd2 := hgd; (try simp only [sB] at hgd); (try simp only [sP] at hgd2); simp (maxSteps := 1000000) (disch := (first | omega | assumption | exact Fr.refl _)) only [hgd, sR, reduceIte, Nat.reduceEqDiff, Int.reduceLT, Int.reduceLE, Int.reduceEq, Int.reduceNeg, reduceCtorEq, Nat.reduceAdd, Int.reduceToNat, hs]; exact StepIs_refl)) | ((first | refine Br_intro ?_ ?_ | refine BrB_intro ?_ ?_) <;> intro hbr hbe <;> simp (maxSteps := 1000000) (disch := (first | omega | assumption | exact Fr.refl _)) only [hbe, sR, reduceIte, Nat.reduceEqDiff, Int.reduceLT, Int.reduceLE, Int.reduceEq, Int.reduceNeg, reduceCtorEq, Nat.reduceAdd, Int.reduceToNat, hs] <;> clear hbe) | simp (maxSteps := 1000000) (disch := (first | omega | assumption | exact Fr.refl _)) only [sR, reduceIte, Nat.reduceEqDiff, Int.reduceLT, Int.reduceLE, Int.reduceEq, Int.reduceNeg, reduceCtorEq, Nat.reduceAdd, Int.reduceToNat, hs])
        · rw [decide_not, hs, hbr, Bool.not_false, Bool.true_and, Bool.true_and] at hN
          refine W_mono (rattrs_1 hv hf2 hi (by omega) (by simp only [sV, Nat.reduceEqDiff, reduceIte, Nat.reduceAdd, v0]) (by simp only [sV, Nat.reduceEqDiff, reduceIte, Nat.reduceAdd, v3]) (by simp only [sV, Nat.reduceEqDiff, reduceIte, Nat.reduceAdd])) ?_
          rintro o e' s' ⟨rfl, ⟨rfl, h1, v0, v3⟩ | ⟨rfl, h1, v2⟩⟩
          · repeat' (first | ((first | apply RG_step | apply DG_step | apply DG_read); focus (intro hgd; have hgd2 := hgd; (try simp only [sB] at hgd); (try simp only [sP] at hgd2); simp (maxSteps := 1000000) (disch := (first | omega | assumption | exact Fr.refl _)) only [hgd, sR, reduceIte, Nat.reduceEqDiff, Int.reduceLT, Int.reduceLE, Int.reduceEq, Int.reduceNeg, reduceCtorEq, Nat.reduceAdd, Int.reduceToNat, v0, v3, w_add1]; exact StepIs_refl)) | ((first | refine Br_intro ?_ ?_ | refine BrB_intro ?_ ?_) <;> intro hbr hbe <;> simp (maxSteps := 1000000) (disch := (first | omega | assumption | exact Fr.refl _)) only [hbe, sR, reduceIte, Nat.reduceEqDiff, Int.reduceLT, Int.reduceLE, Int.reduceEq, Int.reduceNeg, reduceCtorEq, Nat.reduceAdd, Int.reduceToNat, v0, v3, w_add1] <;> clear hbe) | simp (maxSteps := 1000000) (disch := (first | omega | assumption | exact Fr.refl _)) only [sR, reduceIte, Nat.reduceEqDiff, Int.reduceLT, Int.reduceLE, Int.reduceEq, Int.reduceNeg, reduceCtorEq, Nat.reduceAdd, Int.reduceToNat, v0, v3, w_add1])
            rw [h1, Bool.not_false, Bool.true_and, ← ht] at hN
            exact ⟨n - 1, by omega, i + 1, by omega, hf2, by simp only [sV, Nat.reduceEqDiff, reduceIte, Nat.reduceAdd, v0], by simp only [sV, Nat.reduceEqDiff, reduceIte, Nat.reduceAdd], hN⟩
          · repeat' (first | ((first | apply RG_step | apply DG_step | apply DG_read); focus (intro hgd; have hgd2 := hgd; (try simp only [sB] at hgd); (try simp only [sP] at hgd2); simp (maxSteps := 1000000) (disch := (first | omega | assumption | exact Fr.refl _)) only [hgd, sR, reduceIte, Nat.reduceEqDiff, Int.reduceLT, Int.reduceLE, Int.reduceEq, Int.reduceNeg, reduceCtorEq, Nat.reduceAdd, Int.reduceToNat, v2]; exact StepIs_refl)) | ((first | refine Br_intro ?_ ?_ | refine BrB_intro ?_ ?_) <;> intro hbr hbe <;> simp (maxSteps := 1000000) (disch := (first | omega | assumption | exact Fr.refl _)) only [hbe, sR, reduceIte, Nat.reduceEqDiff, Int.reduceLT, Int.reduceLE, Int.reduceEq, Int.reduceNeg, reduceCtorEq, Nat.reduceAdd, Int.reduceToNat, v2] <;> clear hbe) | simp (maxSteps := 1000000) (disch := (first | omega | assumption | exact Fr.refl _)) only [sR, reduceIte, Nat.reduceEqDiff, Int.reduceLT, Int.reduceLE, Int.reduceEq, Int.reduceNeg, reduceCtorEq, Nat.reduceAdd, Int.reduceToNat, v2])
            refine ⟨?_, hf2⟩
            rw [hN, h1, Bool.not_true, Bool.false_and]
        · refine ⟨?_, hf2⟩
          rw [hN, hbr, Bool.false_and, Bool.and_false, Bool.false_and]
      · repeat' (first | ((first | apply RG_step | apply DG_step | apply DG_read); focus (intro hgd; have hgd2 := hgd; (try simp only [sB] at hgd); (try simp only [sP] at hgd2); simp (maxSteps := 1000000) (disch := (first | omega | assumption | exact Fr.refl _)) only [hgd, sR, reduceIte, Nat.reduceEqDiff, Int.reduceLT, Int.reduceLE, Int.reduceEq, Int.reduceNeg, reduceCtorEq, Nat.reduceAdd, Int.reduceToNat, hs]; exact StepIs_refl)) | ((first | refine Br_intro ?_ ?_ | refine BrB_intro ?_ ?_) <;> intro hbr hbe <;> simp (maxSteps := 1000000) (disch := (first | omega | assumption | exact Fr.refl _)) only [hbe, sR, reduceIte, Nat.reduceEqDiff, Int.reduceLT, Int.reduceLE, Int.reduceEq, Int.reduceNeg, reduceCtorEq, Nat.reduceAdd, Int.reduceToNat, hs] <;> clear hbe) | simp (maxSteps := 1000000) (disch := (first | omega | assumption | exact Fr.refl _)) only [sR, reduceIte, Nat.reduceEqDiff, Int.reduceLT, Int.reduceLE, Int.reduceEq, Int.reduceNeg, reduceCtorEq, Nat.reduceAdd, Int.reduceToNat, hs])
        refine ⟨?_, hf⟩
        rw [hN, decide_not, hs, Bool.not_true, Bool.false_and, Bool.false_and]
    · repeat' (first | ((first | apply RG_step | apply DG_step | apply DG_read); focus (intro hgd; have hgd2 := hgd; (try simp only [sB] at hgd); (try simp only [sP] at hgd2); simp (maxSteps := 1000000) (disch := (first | omega | assumption | exact Fr.refl _)) only [hgd, sR, reduceIte, Nat.reduceEqDiff, Int.reduceLT, Int.reduceLE, Int.reduceEq, Int.reduceNeg, reduceCtorEq, Nat.reduceAdd, Int.reduceToNat, v2]; exact StepIs_refl)) | ((first | refine Br_intro ?_ ?_ | refine BrB_intro ?_ ?_) <;> intro hbr hbe <;> simp (maxSteps := 1000000) (disch := (first | omega | assumption | exact Fr.refl _)) only [hbe, sR, reduceIte, Nat.reduceEqDiff, Int.reduceLT, Int.reduceLE, Int.reduceEq, Int.reduceNeg, reduceCtorEq, Nat.reduceAdd, Int.reduceToNat, v2] <;> clear hbe) | simp (maxSteps := 1000000) (disch := (first | omega | assumption | exact Fr.refl _)) only [sR, reduceIte, Nat.reduceEqDiff, Int.reduceLT, Int.reduceLE, Int.reduceEq, Int.reduceNeg, reduceCtorEq, Nat.reduceAdd, Int.reduceToNat, v2])
      refine ⟨?_, hf⟩
      rw [hN, List.drop_eq_getElem_cons hi, attrsOK, attrOK, namedS, ← getD_lt hi at0, h1, Bool.false_and, Bool.false_and, Bool.false_and]
  · refine ⟨?_, hf⟩
    rw [hN, List.drop_of_length_le (by omega)]; rfl
end Go.Ab.Dirs
end
