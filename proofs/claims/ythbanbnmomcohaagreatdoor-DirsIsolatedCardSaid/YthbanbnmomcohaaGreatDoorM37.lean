/- selvedgekit.Size. -/
import Derived.Test.YthbanbnmomcohaaGreatDoorM19
import Derived.Test.YthbanbnmomcohaaGreatDoorM18
import Derived.Test.YthbanbnmomcohaaGreatDoorM29
import Derived.Test.YthbanbnmomcohaaGreatDoorM12
import Derived.KernelRfl
import Derived.Test.YthbanbnmomcohaaGreatDoorM30
set_option linter.all false
set_option linter.unusedSimpArgs false
set_option maxRecDepth 10000
noncomputable section
namespace Go.Ab.Dirs
open Go Go.Ab

section
variable {t : List ND} {tv : AVal} {σ : St}

theorem size_in (ht : TreeI σ tv t) {i : Nat} (hi : i < t.length) (hal : t[i].attrs.length < 9223372036854775808) (top : Int) : ∀ (m k : Nat) (n : Int) (e : Env) (r : Option (Out × Env × St)), k + m = t[i].attrs.length → Ew TS false (.loop L9_1) e σ = r →
    V e 0 = tv → V e 1 = .int .i64 top → V e 5 = .int .i64 n → V e 6 = .int .i64 (i : Int) → V e 7 = .int .i64 (k : Int) →
    ∃ e' n', r = some (.exit 2, e', σ) ∧ V e' 0 = tv ∧ V e' 1 = .int .i64 top ∧ V e' 5 = .int .i64 n' ∧ V e' 6 = .int .i64 (i : Int)
  | 0, k, n, e, r, hk, hr, h0, h1, h5, h6, h7 => by
    obtain ⟨av, kv, x1, x2⟩ := ht.get hi
    have x1 := x1 .i64
    have hl := SlI.len x2.attrs
    have hlt : ¬ ((k : Int) < (t[i].attrs.length : Int)) := by omega
    rw [Ew_loop] at hr
    simp only [L9_1, sA, reduceIte, Nat.reduceEqDiff, Int.reduceLT, Int.reduceLE, Int.reduceEq, Int.reduceNeg, reduceCtorEq, Nat.reduceAdd, opIaSl_s, opFieldAddr_s, opLoad_s, h0, h1, h5, h6, h7, x1, x2.f2, x2.l2, hl, hlt] at hr
    exact ⟨_, n, hr.symm, by simp only [sV, Nat.reduceEqDiff, reduceIte, Nat.reduceAdd, h0], by simp only [sV, Nat.reduceEqDiff, reduceIte, Nat.reduceAdd, h1], by simp only [sV, Nat.reduceEqDiff, reduceIte, Nat.reduceAdd, h5], by simp only [sV, Nat.reduceEqDiff, reduceIte, Nat.reduceAdd, h6]⟩
  | m + 1, k, n, e, r, hk, hr, h0, h1, h5, h6, h7 => by
    obtain ⟨av, kv, x1, x2⟩ := ht.get hi
    have x1 := x1 .i64
    have hl := SlI.len x2.attrs
    have hlt : ((k : Int) < (t[i].attrs.length : Int)) := by omega
    have hw : wrapI .i64 ((k : Int) + 1) = ((k + 1 : Nat) : Int) := by rw [wrap_i64 (by omega) (by omega)]; omega
    obtain ⟨g1, g2⟩ := x2.attrs.get (i := k) (by omega) (k := .i64)
    rw [Ew_loop] at hr
    by_cases hn : n ≤ top
    · simp only [L9_1, sA, reduceIte, Nat.reduceEqDiff, Int.reduceLT, Int.reduceLE, Int.reduceEq, Int.reduceNeg, reduceCtorEq, Nat.reduceAdd, sD, opIaSl_s, opFieldAddr_s, opLoad_s, h0, h1, h5, h6, h7, x1, x2.f2, x2.l2, hl, hlt, hn, g1, g2.f0, g2.l0, g2.f1, g2.l1, hw] at hr
      exact size_in ht hi hal top m (k + 1) _ _ r (by omega) hr (by simp only [sV, Nat.reduceEqDiff, reduceIte, Nat.reduceAdd, h0]) (by simp only [sV, Nat.reduceEqDiff, reduceIte, Nat.reduceAdd, h1]) (by simp only [sV, Nat.reduceEqDiff, reduceIte, Nat.reduceAdd]; rfl) (by simp only [sV, Nat.reduceEqDiff, reduceIte, Nat.reduceAdd, h6]) (by simp only [sV, Nat.reduceEqDiff, reduceIte, Nat.reduceAdd])
    · simp only [L9_1, sA, reduceIte, Nat.reduceEqDiff, Int.reduceLT, Int.reduceLE, Int.reduceEq, Int.reduceNeg, reduceCtorEq, Nat.reduceAdd, opIaSl_s, opFieldAddr_s, opLoad_s, h0, h1, h5, h6, h7, x1, x2.f2, x2.l2, hl, hlt, hn] at hr
      exact ⟨_, n, hr.symm, by simp only [sV, Nat.reduceEqDiff, reduceIte, Nat.reduceAdd, h0], by simp only [sV, Nat.reduceEqDiff, reduceIte, Nat.reduceAdd, h1], by simp only [sV, Nat.reduceEqDiff, reduceIte, Nat.reduceAdd, h5], by simp only [sV, Nat.reduceEqDiff, reduceIte, Nat.reduceAdd, h6]⟩

theorem size_out (ht : TreeI σ tv t) (hal : ∀ n ∈ t, n.attrs.length < 9223372036854775808) (hb : t.length < 9223372036854775808) (top : Int) : ∀ (m i : Nat) (n : Int) (e : Env) (r : Option (Out × Env × St)), i + m = t.length → Ew TS false (.loop L9_2) e σ = r →
    V e 0 = tv → V e 1 = .int .i64 top → V e 5 = .int .i64 n → V e 6 = .int .i64 (i : Int) →
    ∃ e' n', r = some (.exit 0, e', σ) ∧ V e' 1 = .int .i64 top ∧ V e' 5 = .int .i64 n'
  | 0, i, n, e, r, hk, hr, h0, h1, h5, h6 => by
    have hl := ht.len
    have hlt : ¬ ((i : Int) < (t.length : Int)) := by omega
    rw [Ew_loop] at hr
    simp only [L9_2, sA, reduceIte, Nat.reduceEqDiff, Int.reduceLT, Int.reduceLE, Int.reduceEq, Int.reduceNeg, reduceCtorEq, Nat.reduceAdd, h0, h1, h5, h6, hl, hlt] at hr
    exact ⟨_, n, hr.symm, by simp only [sV, Nat.reduceEqDiff, reduceIte, Nat.reduceAdd, h1], by simp only [sV, Nat.reduceEqDiff, reduceIte, Nat.reduceAdd, h5]⟩
  | m + 1, i, n, e, r, hk, hr, h0, h1, h5, h6 => by
    have hl := ht.len
    have hi : i < t.length := by omega
    have hlt : ((i : Int) < (t.length : Int)) := by omega
    have hw : wrapI .i64 ((i : Int) + 1) = ((i + 1 : Nat) : Int) := by rw [wrap_i64 (by omega) (by omega)]; omega
    obtain ⟨av, kv, x1, x2⟩ := ht.get hi
    have x1 := x1 .i64
    have hla := SlI.len x2.attrs
    have hlk := SlI.len x2.kids
    rw [Ew_loop] at hr
    by_cases hn : n ≤ top
    · simp only [L9_2, sA, reduceIte, Nat.reduceEqDiff, Int.reduceLT, Int.reduceLE, Int.reduceEq, Int.reduceNeg, reduceCtorEq, Nat.reduceAdd, sD, opIaSl_s, opFieldAddr_s, opLoad_s, h0, h1, h5, h6, x1, x2.f1, x2.l1, x2.f2, x2.l2, x2.f3, x2.l3, x2.f5, x2.l5, hl, hla, hlk, hlt, hn] at hr
      generalize hr2 : Ew TS false (.loop L9_1) _ _ = r2 at hr
      obtain ⟨e2, n2, rfl, b0, b1, b5, b6⟩ := size_in ht hi (hal _ (List.getElem_mem _)) top t[i].attrs.length 0 _ _ r2 (by omega) hr2 (by simp only [sV, Nat.reduceEqDiff, reduceIte, Nat.reduceAdd, h0]) (by simp only [sV, Nat.reduceEqDiff, reduceIte, Nat.reduceAdd, h1]) (by simp only [sV, Nat.reduceEqDiff, reduceIte, Nat.reduceAdd]; rfl) (by simp only [sV, Nat.reduceEqDiff, reduceIte, Nat.reduceAdd, h6]) (by simp only [sV, Nat.reduceEqDiff, reduceIte, Nat.reduceAdd]; rfl)
      simp only [sA, reduceIte, Nat.reduceEqDiff, Int.reduceLT, Int.reduceLE, Int.reduceEq, Int.reduceNeg, reduceCtorEq, Nat.reduceAdd, b6, hw] at hr
      exact size_out ht hal hb top m (i + 1) n2 _ r (by omega) hr (by simp only [sV, Nat.reduceEqDiff, reduceIte, Nat.reduceAdd, b0]) (by simp only [sV, Nat.reduceEqDiff, reduceIte, Nat.reduceAdd, b1]) (by simp only [sV, Nat.reduceEqDiff, reduceIte, Nat.reduceAdd, b5]) (by simp only [sV, Nat.reduceEqDiff, reduceIte, Nat.reduceAdd])
    · simp only [L9_2, sA, reduceIte, Nat.reduceEqDiff, Int.reduceLT, Int.reduceLE, Int.reduceEq, Int.reduceNeg, reduceCtorEq, Nat.reduceAdd, h0, h1, h5, h6, hl, hlt, hn] at hr
      exact ⟨_, n, hr.symm, by simp only [sV, Nat.reduceEqDiff, reduceIte, Nat.reduceAdd, h1], by simp only [sV, Nat.reduceEqDiff, reduceIte, Nat.reduceAdd, h5]⟩

theorem Size_ok (ht : TreeI σ tv t) (hal : ∀ n ∈ t, n.attrs.length < 9223372036854775808) (hb : t.length < 9223372036854775808) (top : Int) : ∃ n : Int, Cw TS false 9 [tv, .int .i64 top] σ = some (.int .i64 n, σ) := by
  have hl := ht.len
  rw [Cw_of fn9 false _ σ rfl]
  simp only [c9, sA, reduceIte, Nat.reduceEqDiff, Int.reduceLT, Int.reduceLE, Int.reduceEq, Int.reduceNeg, reduceCtorEq, Nat.reduceAdd, hl]
  generalize hr : Ew TS false (.loop L9_2) _ _ = r
  obtain ⟨e, n, rfl, h1, h5⟩ := size_out ht hal hb top t.length 0 _ _ r (by omega) hr (by simp only [sV, Nat.reduceEqDiff, reduceIte, Nat.reduceAdd]) (by simp only [sV, Nat.reduceEqDiff, reduceIte, Nat.reduceAdd]) (by simp only [sV, Nat.reduceEqDiff, reduceIte, Nat.reduceAdd]; rfl) (by simp only [sV, Nat.reduceEqDiff, reduceIte, Nat.reduceAdd]; rfl)
  simp only [sA, reduceIte, Nat.reduceEqDiff, Int.reduceLT, Int.reduceLE, Int.reduceEq, Int.reduceNeg, reduceCtorEq, Nat.reduceAdd, opMn, h1, h5]
  exact ⟨_, rfl⟩
end
end Go.Ab.Dirs
end

set_option maxRecDepth 10000
noncomputable section
namespace Go.Ab.Dirs
open Go Go.Ab

theorem scanL_congr {g g' : Nat → Option Nat} : ∀ {l : List Int}, (∀ z ∈ l, g z.toNat = g' z.toNat) → scanL g l = scanL g' l
  | [], _ => rfl
  | z :: l, h => by
    unfold scanL
    rw [h z (List.mem_cons_self), scanL_congr fun y hy => h y (List.mem_cons_of_mem _ hy)]

theorem scanF_fuel {t : List ND} (hk : KidsT t) : ∀ (f f' i : Nat), i < t.length → t.length - i ≤ f → t.length - i ≤ f' → scanF t f i = scanF t f' i
  | 0, _, i, hi, h, _ => by omega
  | _ + 1, 0, i, hi, _, h => by omega
  | f + 1, f' + 1, i, hi, h, h' => by
    rw [scanF, scanF]
    refine scanL_congr fun z hz => ?_
    obtain ⟨k, rfl, h1, h2⟩ := hk i hi z hz
    rw [Int.toNat_natCast, scanF_fuel hk f f' k h2 (by omega) (by omega)]

/-- A text alone in a paragraph. -/
def t3 (data : List Nat) : List ND := [⟨0, [], [], [], -1, [1]⟩, ⟨1, [112], [], [], 0, [2]⟩, ⟨2, [], [], data, 1, []⟩]
theorem t3_right {data : List Nat} (h1 : data ≠ []) (h2 : wellS data = true) : rightS (t3 data) = true := by
  have e1 : fitsS (t3 data) [0] 0 ⟨0, [], [], [], -1, [1]⟩ = true := by unfold fitsS; rw [if_pos rfl]; rfl
  have e2 : fitsS (t3 data) [0] 1 ⟨1, [112], [], [], 0, [2]⟩ = true := by
    have ha : attrsS [] = true := by decide
    have hn : nestedS (t3 data) [0] [112] = true := by unfold nestedS; kernel_rfl
    have hu : upBad (upOf (t3 data) [0]) = false := by kernel_rfl
    unfold fitsS
    rw [if_neg (by decide), hu]
    simp only [ha, hn]
    rfl
  have e3 : fitsS (t3 data) [0, 1] 2 ⟨2, [], [], data, 1, []⟩ = true := by
    have hu : upBad (upOf (t3 data) [0, 1]) = false := by kernel_rfl
    have hp : prevS (t3 data) (upOf (t3 data) [0, 1]) 2 = true := by
      have : upOf (t3 data) [0, 1] = ⟨1, [112], [], [], 0, [2]⟩ := by kernel_rfl
      rw [this]
      unfold prevS
      have : decide (idxS ((2 : Nat) : Int) [2] 0 < 1) = true := by decide
      simp only [this, Bool.true_or]
    unfold fitsS
    rw [if_neg (by decide), hu]
    simp only [h2, hp]
    have : decide (data ≠ []) = true := by simp [h1]
    simp only [this]
    rfl
  have hs0 : stepR (t3 data) 0 [0] [0, 0, 0] = some ([0], [0, 0, 0]) := by
    unfold stepR
    rw [if_pos rfl, show (t3 data).getD 0 dN = ⟨0, [], [], [], -1, [1]⟩ from rfl, e1]; rfl
  have hs1 : stepR (t3 data) 1 [0] [0, 0, 0] = some ([0, 1], [1, 0, 0]) := by
    unfold stepR
    rw [if_neg (by decide), show (t3 data).getD 1 dN = ⟨1, [112], [], [], 0, [2]⟩ from rfl]
    simp only [show popS 0 [0] = [0] from by decide, e2]
    rw [if_pos ⟨by decide, by show 0 < 1; decide, by rfl⟩]
    rfl
  have hs2 : stepR (t3 data) 2 [0, 1] [1, 0, 0] = some ([0, 1, 2], [1, 1, 0]) := by
    unfold stepR
    rw [if_neg (by decide), show (t3 data).getD 2 dN = ⟨2, [], [], data, 1, []⟩ from rfl]
    simp only [show popS 1 [0, 1] = [0, 1] from by decide, e3]
    rw [if_pos ⟨by decide, by show 0 < 1; decide, by rfl⟩]
    rfl
  have hg : rightG (t3 data) 3 0 [0] [0, 0, 0] = some [1, 1, 0] := by
    simp only [rightG, hs0, hs1, hs2]
  have hh : headS (t3 data) = true := by kernel_rfl
  unfold rightS
  rw [hh, Bool.true_and, show (t3 data).length = 3 from rfl, show List.replicate 3 0 = [0, 0, 0] from rfl, hg]
  show finS (t3 data) [1, 1, 0] 3 0 = true
  rfl

theorem t3_scan {data : List Nat} (h1 : data ≠ []) (h2 : wellS data = true) : ScanS (t3 data) 1 = firstS data := by
  have he : elemS (t3 data) 1 = true := by unfold elemS; rw [t3_right h1 h2]; rfl
  unfold ScanS
  rw [he, if_pos rfl]
  have hk : openS ⟨2, [], [], data, 1, []⟩ = false := by unfold openS; rfl
  show scanF (t3 data) 3 1 = _
  rw [scanF, show ((t3 data).getD 1 dN).kids = [2] from rfl]
  simp only [scanL, show (2 : Int).toNat = 2 from rfl, show (t3 data).getD 2 dN = ⟨2, [], [], data, 1, []⟩ from rfl, hk, Bool.false_eq_true, if_false]
  cases firstS data <;> rfl

/-- A node below another in a right tree: a text or an element. -/
theorem node_facts {t : List ND} (h : rightS t = true) {j : Nat} (hj : 0 < j) (hjt : j < t.length) :
    (t[j].kind = 2 ∧ t[j].data ≠ [] ∧ wellS t[j].data = true) ∨ (t[j].kind = 1 ∧ t[j].data = []) := by
  obtain ⟨-, hf, -, -⟩ := right_facts h
  obtain ⟨q, hq⟩ := hf j hjt
  rw [getD_at hjt] at hq
  unfold fitsS at hq
  rw [if_neg (by omega)] at hq
  split at hq
  · simp at hq
  · split at hq
    · rename_i hk
      simp only [Bool.and_eq_true, decide_eq_true_eq] at hq
      exact .inl ⟨hk, hq.2.1, hq.2.2.1⟩
    · split at hq
      · rename_i hk
        simp only [Bool.and_eq_true, decide_eq_true_eq] at hq
        exact .inr ⟨hk, hq.1⟩
      · simp at hq

theorem head_kind {t : List ND} (h : rightS t = true) : (t.getD 0 dN).kind = 0 := by
  unfold rightS headS at h
  simp only [Bool.and_eq_true, decide_eq_true_eq] at h
  exact h.1.2.2.1

/-- What a child tells. -/
def toldS (t : List ND) (j : Nat) : Option Nat :=
  if (t.getD j dN).kind = 2 then firstS (t.getD j dN).data
  else if (t.getD j dN).name ≠ [98, 100, 105] ∧ StateS t (j : Int) = 0 then ScanS t (j : Int) else none

theorem told_scanK {t : List ND} (h : rightS t = true) {j : Nat} (hj : 0 < j) (hjt : j < t.length) : scanK t (t.length - 1) j = toldS t j := by
  unfold scanK toldS
  rw [getD_at hjt]
  obtain ⟨hk, -, -, -⟩ := right_facts h
  rcases node_facts h hj hjt with ⟨a, b, c⟩ | ⟨a, b⟩
  · have : openS t[j] = false := by unfold openS; rw [a]; rfl
    rw [this, if_pos a]; rfl
  · rw [if_neg (show ¬ t[j].kind = 2 by omega), b, firstS_nil]
    have he : elemS t (j : Int) = true := by
      unfold elemS
      rw [Int.toNat_natCast, getD_at hjt, h, decide_eq_true (show (0 : Int) < (j : Int) by omega), decide_eq_true (show (j : Int) < (t.length : Int) by omega), decide_eq_true a]
      rfl
    have hst : StateS t (j : Int) = stateS t[j].attrs := by unfold StateS; rw [he, if_pos rfl, Int.toNat_natCast, getD_at hjt]
    have hsc : ScanS t (j : Int) = scanF t (t.length - 1) j := by
      unfold ScanS scanS
      rw [he, if_pos rfl, Int.toNat_natCast]
      exact scanF_fuel hk _ _ j hjt (by omega) (by omega)
    rw [hst, hsc]
    by_cases c1 : t[j].name ≠ [98, 100, 105]
    · by_cases c2 : stateS t[j].attrs = 0
      · have : openS t[j] = true := by unfold openS; simp [a, c1, c2]
        rw [this, if_pos rfl, if_pos ⟨c1, c2⟩]
        cases scanF t (t.length - 1) j <;> rfl
      · have : openS t[j] = false := by unfold openS; simp [c2]
        rw [this, if_neg (by decide), if_neg (fun hh => c2 hh.2)]
    · have : openS t[j] = false := by unfold openS; simp at c1; simp [c1]
      rw [this, if_neg (by decide), if_neg (fun hh => c1 hh.1)]

theorem scan_told {t : List ND} (h : rightS t = true) {i : Nat} (hi : i < t.length) : scanS t i = scanL (toldS t) t[i].kids := by
  obtain ⟨hk, -, hl, -⟩ := right_facts h
  unfold scanS
  obtain ⟨m, hm⟩ : ∃ m, t.length = m + 1 := ⟨t.length - 1, by omega⟩
  have : scanF t t.length i = scanL (scanK t (t.length - 1)) t[i].kids := by
    rw [hm, scanF, getD_at hi]; rfl
  rw [this]
  refine scanL_congr fun z hz => ?_
  obtain ⟨k, rfl, h1, h2⟩ := hk i hi z (by rw [getD_at hi]; exact hz)
  rw [Int.toNat_natCast]
  exact told_scanK h (by omega) h2
end Go.Ab.Dirs
end

set_option maxRecDepth 10000
noncomputable section
namespace Go.Ab.Dirs
open Go Go.Ab

theorem works_ok (q : Bool) (σ : St) : Cw TS q 10 [] σ = some (.bool true, σ) := Cw_iff.2 ⟨5, by kernel_rfl⟩

theorem NWF.alen' {t : List ND} (h : ∀ n ∈ t, NWF n) : ∀ n ∈ t, n.attrs.length < 9223372036854775808 := fun n hn => (h n hn).alen

theorem pick_range {n : Int} {b : Nat} (hb : 0 < b) : ∃ i : Nat, (if (b : Int) ≤ 0 then 0 else (n.tmod (b : Int) + (b : Int)).tmod (b : Int)) = (i : Int) ∧ i < b := by
  rw [if_neg (by omega)]
  have h0 : 0 ≤ n.tmod (b : Int) + (b : Int) := by
    have := Int.lt_tmod_of_pos n (show (0 : Int) < (b : Int) by omega); omega
  have h1 : 0 ≤ (n.tmod (b : Int) + (b : Int)).tmod (b : Int) := Int.tmod_nonneg _ h0
  have h2 : (n.tmod (b : Int) + (b : Int)).tmod (b : Int) < (b : Int) := Int.tmod_lt_of_pos _ (by omega)
  exact ⟨((n.tmod (b : Int) + (b : Int)).tmod (b : Int)).toNat, by omega, by omega⟩

end Go.Ab.Dirs
end

namespace Go.Ab.Dirs
open Go Go.Ab
set_option maxRecDepth 100000
noncomputable section
/- 4 selvedge/selvedgelaw10.DirsSays -/
theorem fn4 : (TS).fn.get (path 4) = some ⟨2, [.tmp (path 4)], c4⟩ := by kernel_rfl
/- 25 selvedge/dirs.sheet -/
theorem fn25 : (TS).fn.get (path 25) = some ⟨2, [.tmp (path 4), .tmp (path 5), .tmp (path 6)], c25⟩ := by kernel_rfl
/- 11 selvedge/dirs.All -/
theorem fn11 : (TS).fn.get (path 11) = some ⟨1, [.tmp (path 2), .tmp (path 3)], c11⟩ := by kernel_rfl
end
end Go.Ab.Dirs

set_option maxRecDepth 10000
noncomputable section
namespace Go.Ab.Dirs
open Go Go.Ab

/-- What HTML's own sheet says: a direction. -/
def sheetD (t : List ND) (i : Nat) : Option Nat :=
  if stateS (t.getD i dN).attrs = 2 then some 1 else if stateS (t.getD i dN).attrs = 1 then some 0
  else if stateS (t.getD i dN).attrs = 3 ∨ (t.getD i dN).name = [98, 100, 105] then some ((scanS t i).getD 0) else none
def sheetB (t : List ND) (i : Nat) : Nat :=
  if (t.getD i dN).name = [98, 100, 111] then 4 else if (sheetD t i).isSome = true ∨ endsS (kindS (t.getD i dN).name) = true then 2 else 0

section
variable {σ : St} {t : List ND} {tv : AVal} {e : Env} {r : Option (Out × Env × St)}

theorem sheet_a (ht : TreeI σ tv t) (hwf : ∀ n ∈ t, NWF n) (hk : KidsT t) {i : Nat} (hi : i < t.length) {b : Nat} {av kv : AVal} (hc : Copy σ b t[i] av kv) (hr : Ew TS false (.block 0 (.seq B25_4 B25_10)) e σ = r)
    (h0 : V e 0 = tv) (h1 : V e 1 = .int .i64 (i : Int)) (h4 : V e 4 = .int .u8 0) (h5 : V e 5 = .bool false) (h7 : V e 7 = .ptr b 0) (h8 : V e 8 = .int .u8 (stateS t[i].attrs : Int)) :
    ∃ e' σ', Fr σ σ' ∧ r = some (.normal, e', σ') ∧ V e' 4 = .int .u8 (((sheetD t i).getD 0 : Nat) : Int) ∧ V e' 5 = .bool (sheetD t i).isSome ∧ V e' 6 = V e 6 ∧ V e' 7 = V e 7 := by
  have hgi : t.getD i dN = t[i] := getD_at hi dN
  obtain ⟨⟨f, ty, hg⟩, -⟩ := id hc
  by_cases c2 : stateS t[i].attrs = 2
  · have hs : sheetD t i = some 1 := by unfold sheetD; rw [hgi, if_pos c2]
    have c2' := eq_true (show (stateS t[i].attrs : Int) = 2 by omega)
    simp only [B25_4, B25_10, sA, reduceIte, Nat.reduceEqDiff, Int.reduceLT, Int.reduceLE, Int.reduceEq, Int.reduceNeg, reduceCtorEq, Nat.reduceAdd, h8, c2'] at hr
    exact ⟨_, _, Fr.refl _, hr.symm, by simp only [sV, Nat.reduceEqDiff, reduceIte, Nat.reduceAdd, hs]; rfl, by simp only [sV, Nat.reduceEqDiff, reduceIte, Nat.reduceAdd, hs]; rfl, by simp only [sV, Nat.reduceEqDiff, reduceIte, Nat.reduceAdd], by simp only [sV, Nat.reduceEqDiff, reduceIte, Nat.reduceAdd]⟩
  · have c2' : ¬ (stateS t[i].attrs : Int) = 2 := by omega
    by_cases c1 : stateS t[i].attrs = 1
    · have hs : sheetD t i = some 0 := by unfold sheetD; rw [hgi, if_neg c2, if_pos c1]
      have c1' := eq_true (show (stateS t[i].attrs : Int) = 1 by omega)
      simp only [B25_4, B25_10, B25_5, B25_9, sA, reduceIte, Nat.reduceEqDiff, Int.reduceLT, Int.reduceLE, Int.reduceEq, Int.reduceNeg, reduceCtorEq, Nat.reduceAdd, h8, c2', c1'] at hr
      exact ⟨_, _, Fr.refl _, hr.symm, by simp only [sV, Nat.reduceEqDiff, reduceIte, Nat.reduceAdd, hs, h4]; rfl, by simp only [sV, Nat.reduceEqDiff, reduceIte, Nat.reduceAdd, hs]; rfl, by simp only [sV, Nat.reduceEqDiff, reduceIte, Nat.reduceAdd], by simp only [sV, Nat.reduceEqDiff, reduceIte, Nat.reduceAdd]⟩
    · have c1' : ¬ (stateS t[i].attrs : Int) = 1 := by omega
      obtain ⟨σ', hf, hsc⟩ := scan_ok ht hwf hk hi
      by_cases c3 : stateS t[i].attrs = 3
      · have hs : sheetD t i = some ((scanS t i).getD 0) := by unfold sheetD; rw [hgi, if_neg c2, if_neg c1, if_pos (.inl c3)]
        have c3' := eq_true (show (stateS t[i].attrs : Int) = 3 by omega)
        simp only [B25_4, B25_10, B25_5, B25_9, B25_6, B25_7, B25_8, sA, reduceIte, Nat.reduceEqDiff, Int.reduceLT, Int.reduceLE, Int.reduceEq, Int.reduceNeg, reduceCtorEq, Nat.reduceAdd, h0, h1, h8, c2', c1', c3', opCall, argsOf, hsc, wayV, opExtract, dropX_zero, dropX_1] at hr
        exact ⟨_, _, hf, hr.symm, by simp only [sV, Nat.reduceEqDiff, reduceIte, Nat.reduceAdd, hs]; rfl, by simp only [sV, Nat.reduceEqDiff, reduceIte, Nat.reduceAdd, hs]; rfl, by simp only [sV, Nat.reduceEqDiff, reduceIte, Nat.reduceAdd], by simp only [sV, Nat.reduceEqDiff, reduceIte, Nat.reduceAdd]⟩
      · have c3' : ¬ (stateS t[i].attrs : Int) = 3 := by omega
        by_cases c4 : t[i].name = [98, 100, 105]
        · have hs : sheetD t i = some ((scanS t i).getD 0) := by unfold sheetD; rw [hgi, if_neg c2, if_neg c1, if_pos (.inr c4)]
          have c4' := eq_true c4
          simp only [B25_4, B25_10, B25_5, B25_9, B25_6, B25_7, B25_8, sA, reduceIte, Nat.reduceEqDiff, Int.reduceLT, Int.reduceLE, Int.reduceEq, Int.reduceNeg, reduceCtorEq, Nat.reduceAdd, sM, h0, h1, h7, h8, c2', c1', c3', hg, c4', opCall, argsOf, hsc, wayV, opExtract] at hr
          exact ⟨_, _, hf, hr.symm, by simp only [sV, Nat.reduceEqDiff, reduceIte, Nat.reduceAdd, hs]; rfl, by simp only [sV, Nat.reduceEqDiff, reduceIte, Nat.reduceAdd, hs]; rfl, by simp only [sV, Nat.reduceEqDiff, reduceIte, Nat.reduceAdd], by simp only [sV, Nat.reduceEqDiff, reduceIte, Nat.reduceAdd, h7]⟩
        · have hs : sheetD t i = none := by unfold sheetD; rw [hgi, if_neg c2, if_neg c1, if_neg (fun h => h.elim c3 c4)]
          simp only [B25_4, B25_10, B25_5, B25_9, B25_6, B25_7, B25_8, sA, reduceIte, Nat.reduceEqDiff, Int.reduceLT, Int.reduceLE, Int.reduceEq, Int.reduceNeg, reduceCtorEq, Nat.reduceAdd, sM, h7, h8, c2', c1', c3', hg, c4] at hr
          exact ⟨_, _, Fr.refl _, hr.symm, by simp only [sV, Nat.reduceEqDiff, reduceIte, Nat.reduceAdd, hs, h4]; rfl, by simp only [sV, Nat.reduceEqDiff, reduceIte, Nat.reduceAdd, hs, h5]; rfl, by simp only [sV, Nat.reduceEqDiff, reduceIte, Nat.reduceAdd], by simp only [sV, Nat.reduceEqDiff, reduceIte, Nat.reduceAdd, h7]⟩

theorem sheet_b {n : ND} {av kv : AVal} {b k : Nat} {has : Bool} (hc : Copy σ b n av kv) (hr : Ew TS false (.block 1 (.seq B25_12 B25_16)) e σ = r) (h5 : V e 5 = .bool has) (h6 : V e 6 = .int .u8 0) (h7 : V e 7 = .ptr b 0) (h9 : V e 9 = .int .u8 (k : Int)) :
    ∃ e', r = some (.normal, e', σ) ∧ V e' 4 = V e 4 ∧ V e' 5 = V e 5 ∧ V e' 6 = .int .u8 (((if n.name = [98, 100, 111] then 4 else if has = true ∨ endsS k = true then 2 else 0 : Nat)) : Int) := by
  obtain ⟨⟨f, ty, hg⟩, -⟩ := id hc
  by_cases c1 : n.name = [98, 100, 111]
  · have c1' := eq_true c1
    rw [if_pos c1]
    simp only [B25_12, B25_16, sA, reduceIte, Nat.reduceEqDiff, Int.reduceLT, Int.reduceLE, Int.reduceEq, Int.reduceNeg, reduceCtorEq, Nat.reduceAdd, sM, h7, hg, c1'] at hr
    exact ⟨_, hr.symm, by simp only [sV, Nat.reduceEqDiff, reduceIte, Nat.reduceAdd], by simp only [sV, Nat.reduceEqDiff, reduceIte, Nat.reduceAdd], by simp only [sV, Nat.reduceEqDiff, reduceIte, Nat.reduceAdd]; rfl⟩
  · rw [if_neg c1]
    cases has with
    | true =>
      rw [if_pos (.inl rfl)]
      simp only [B25_12, B25_16, B25_15, sA, reduceIte, Nat.reduceEqDiff, Int.reduceLT, Int.reduceLE, Int.reduceEq, Int.reduceNeg, reduceCtorEq, Nat.reduceAdd, sM, h5, h7, hg, c1] at hr
      exact ⟨_, hr.symm, by simp only [sV, Nat.reduceEqDiff, reduceIte, Nat.reduceAdd], by simp only [sV, Nat.reduceEqDiff, reduceIte, Nat.reduceAdd, h5], by simp only [sV, Nat.reduceEqDiff, reduceIte, Nat.reduceAdd]; rfl⟩
    | false =>
      by_cases k1 : (1 : Int) ≤ (k : Int)
      · by_cases k2 : (k : Int) ≤ 4
        · have he : endsS k = true := by unfold endsS; simp; omega
          rw [if_pos (.inr he)]
          simp only [B25_12, B25_13, B25_14, B25_16, B25_15, sA, reduceIte, Nat.reduceEqDiff, Int.reduceLT, Int.reduceLE, Int.reduceEq, Int.reduceNeg, reduceCtorEq, Nat.reduceAdd, sM, h5, h7, h9, hg, c1, k1, k2] at hr
          exact ⟨_, hr.symm, by simp only [sV, Nat.reduceEqDiff, reduceIte, Nat.reduceAdd], by simp only [sV, Nat.reduceEqDiff, reduceIte, Nat.reduceAdd, h5], by simp only [sV, Nat.reduceEqDiff, reduceIte, Nat.reduceAdd]; rfl⟩
        · by_cases k8 : (k : Int) = 8
          · have he : endsS k = true := by unfold endsS; simp; omega
            have k8' := eq_true k8
            rw [if_pos (.inr he)]
            simp only [B25_12, B25_13, B25_14, B25_16, B25_15, sA, reduceIte, Nat.reduceEqDiff, Int.reduceLT, Int.reduceLE, Int.reduceEq, Int.reduceNeg, reduceCtorEq, Nat.reduceAdd, sM, h5, h7, h9, hg, c1, k1, k2, k8'] at hr
            exact ⟨_, hr.symm, by simp only [sV, Nat.reduceEqDiff, reduceIte, Nat.reduceAdd], by simp only [sV, Nat.reduceEqDiff, reduceIte, Nat.reduceAdd, h5], by simp only [sV, Nat.reduceEqDiff, reduceIte, Nat.reduceAdd]; rfl⟩
          · have he : endsS k = false := by unfold endsS; simp; omega
            rw [if_neg (by rw [he]; simp)]
            simp only [B25_12, B25_13, B25_14, B25_16, B25_15, sA, reduceIte, Nat.reduceEqDiff, Int.reduceLT, Int.reduceLE, Int.reduceEq, Int.reduceNeg, reduceCtorEq, Nat.reduceAdd, sM, h5, h7, h9, hg, c1, k1, k2, k8] at hr
            exact ⟨_, hr.symm, by simp only [sV, Nat.reduceEqDiff, reduceIte, Nat.reduceAdd], by simp only [sV, Nat.reduceEqDiff, reduceIte, Nat.reduceAdd, h5], by simp only [sV, Nat.reduceEqDiff, reduceIte, Nat.reduceAdd, h6]; rfl⟩
      · have k8 : ¬ (k : Int) = 8 := by omega
        have he : endsS k = false := by unfold endsS; simp; omega
        rw [if_neg (by rw [he]; simp)]
        simp only [B25_12, B25_13, B25_14, B25_16, B25_15, sA, reduceIte, Nat.reduceEqDiff, Int.reduceLT, Int.reduceLE, Int.reduceEq, Int.reduceNeg, reduceCtorEq, Nat.reduceAdd, sM, h5, h7, h9, hg, c1, k1, k8] at hr
        exact ⟨_, hr.symm, by simp only [sV, Nat.reduceEqDiff, reduceIte, Nat.reduceAdd], by simp only [sV, Nat.reduceEqDiff, reduceIte, Nat.reduceAdd, h5], by simp only [sV, Nat.reduceEqDiff, reduceIte, Nat.reduceAdd, h6]; rfl⟩

theorem sheet_ok (ht : TreeI σ tv t) (hwf : ∀ n ∈ t, NWF n) (hk : KidsT t) {i : Nat} (hi : i < t.length) :
    ∃ σ', Fr σ σ' ∧ Cw TS false 25 [tv, .int .i64 (i : Int)] σ = some (.tuple [.int .u8 (((sheetD t i).getD 0 : Nat) : Int), .bool (sheetD t i).isSome, .int .u8 ((sheetB t i : Nat) : Int)], σ') := by
  obtain ⟨av, kv, x1, x2⟩ := ht.get hi
  have x1 := x1 .i64
  have hn := hwf t[i] (List.getElem_mem _)
  have o1 := x2.attrs.one
  have o2 := x2.kids.one
  have hc := Copy.of (z := .nils) (f := true) (t := 36) (zs := [.int .u8 0, .str [], .nils, .str [], .int .i64 0, .nils]) x2
  have hf2 : Fr σ ((σ.new (.cells true 36 [.int .u8 0, .str [], .nils, .str [], .int .i64 0, .nils])).put σ.next (.cells true 36 [.int .u8 (t[i].kind : Int), .str t[i].name, av, .str t[i].data, .int .i64 t[i].up, kv])) := (Fr.new _ _).put (Nat.le_refl _) _
  have x2l := x2.ld
  generalize e2 : (σ.new (.cells true 36 [.int .u8 0, .str [], .nils, .str [], .int .i64 0, .nils])).put σ.next (.cells true 36 [.int .u8 (t[i].kind : Int), .str t[i].name, av, .str t[i].data, .int .i64 t[i].up, kv]) = σ2 at hc hf2
  obtain ⟨⟨f, ty, hg⟩, -, hal, -⟩ := id hc
  obtain ⟨σ3, hf3, hs⟩ := state_ok (a := .int .u8 (t[i].kind : Int)) (b := .str t[i].name) (c := .str t[i].data) (d := .int .i64 t[i].up) (f := kv) t[i].attrs σ2 hn.alen hn.attrs hal
  have hf := hf2.trans hf3
  rw [Cw_of fn25 false _ σ rfl]
  simp only [c25, B25_1, B25_2, B25_3, sC, reduceIte, Nat.reduceEqDiff, sO, Int.reduceLT, Int.reduceLE, Int.reduceEq, Int.reduceNeg, reduceCtorEq, sF, Nat.reduceAdd, sM, x1, x2l, o1, o2, e2, hg, opCall, argsOf, hs]
  rw [← Ew_seq, ← Ew_block]
  generalize hr : Ew TS false (.block 0 (.seq B25_4 B25_10)) _ _ = r1
  obtain ⟨e1, σ4, hf4, rfl, a4, a5, a6, a7⟩ := sheet_a (ht.fr hf) hwf hk hi (hc.fr hf3) hr (by simp only [sV, Nat.reduceEqDiff, reduceIte, Nat.reduceAdd]) (by simp only [sV, Nat.reduceEqDiff, reduceIte, Nat.reduceAdd]) (by simp only [sV, Nat.reduceEqDiff, reduceIte, Nat.reduceAdd]) (by simp only [sV, Nat.reduceEqDiff, reduceIte, Nat.reduceAdd]) (by simp only [sV, Nat.reduceEqDiff, reduceIte, Nat.reduceAdd]) (by simp only [sV, Nat.reduceEqDiff, reduceIte, Nat.reduceAdd])
  simp only [sV, Nat.reduceEqDiff, reduceIte, Nat.reduceAdd] at a6 a7
  have hc4 := (hc.fr hf3).fr hf4
  obtain ⟨⟨f4, ty4, hg4⟩, -⟩ := id hc4
  have hK := Kind_ok false t[i].name σ4
  simp only [sC, reduceIte, Nat.reduceEqDiff, sO, Int.reduceLT, Int.reduceLE, Int.reduceEq, Int.reduceNeg, reduceCtorEq, sF, Nat.reduceAdd, sM, B25_11, a7, hg4, opCall, argsOf, hK]
  rw [← Ew_seq, ← Ew_block]
  generalize hr2 : Ew TS false (.block 1 (.seq B25_12 B25_16)) _ _ = r2
  obtain ⟨e5, rfl, b4, b5, b6⟩ := sheet_b (has := (sheetD t i).isSome) (k := kindS t[i].name) hc4 hr2 (by simp only [sV, Nat.reduceEqDiff, reduceIte, Nat.reduceAdd, a5]) (by simp only [sV, Nat.reduceEqDiff, reduceIte, Nat.reduceAdd, a6]) (by simp only [sV, Nat.reduceEqDiff, reduceIte, Nat.reduceAdd, a7]) (by simp only [sV, Nat.reduceEqDiff, reduceIte, Nat.reduceAdd])
  simp only [sV, Nat.reduceEqDiff, reduceIte, Nat.reduceAdd, a4, a5] at b4 b5
  refine ⟨σ4, hf.trans hf4, ?_⟩
  simp only [B25_17, sA, reduceIte, Nat.reduceEqDiff, Int.reduceLT, Int.reduceLE, Int.reduceEq, Int.reduceNeg, reduceCtorEq, Nat.reduceAdd, b4, b5, b6]
  unfold sheetB
  rw [getD_at hi]
end
end Go.Ab.Dirs
end

set_option maxRecDepth 10000
noncomputable section
namespace Go.Ab.Dirs
open Go Go.Ab

/-- The last ones of a slice. -/
theorem SlI.drop {σ : St} {s n : Nat} {v : AVal} {cs : List AVal} (h : SlI σ s v n cs) {k : Nat} (hk : k ≤ n) : ∃ v', slS s v (some (.int .i64 (k : Int))) none none = some v' ∧ SlI σ s v' (n - k) (cs.drop (k * s)) := by
  have hl := h.cs_len
  have hks : k * s ≤ n * s := Nat.mul_le_mul_right s hk
  obtain ⟨h1, h2⟩ := h
  have hb : ∀ m : Nat, k ≤ m → boundsL m m (some (.int .i64 (k : Int))) none none = some (k, m) := by
    intro m hm
    simp only [boundsL, toNo, toN, Int.toNat_natCast, Option.isSome_none, Bool.false_eq_true, if_false]
    rw [if_pos ⟨by omega, by omega⟩]
  have hsub : (n - k) * s = n * s - k * s := Nat.sub_mul _ _ _
  unfold lowV at h1
  split at h1
  · simp only [cellsIn] at h2; cases h2
    have : k = 0 := by omega
    subst this
    exact ⟨.nils, by simp only [slS, hb 0 (by omega)], trivial, by simp [cellsIn]⟩
  · rename_i b i m s'
    simp only [cellsIn] at h2
    split at h2
    · rename_i e; subst e
      split at h2
      · rename_i f e l hg
        split at h2
        · rename_i l' hs'
          cases h2
          obtain ⟨ha, hb'⟩ := sub_eq.1 hs'
          refine ⟨.slice b (i + k * s) (n - k) s, ?_, h1, ?_⟩
          · simp only [slS, hb n hk]; simp
          · simp only [cellsIn, hg, if_true]
            rw [sub_eq.2 ⟨by omega, rfl⟩]
            subst hb'
            simp only [List.drop_take, List.drop_drop, hsub]
        · simp at h2
      · simp at h2
    · simp at h2
  · rename_i m l
    simp only [cellsIn] at h2
    split at h2
    · rename_i l' ht
      cases h2
      obtain ⟨ha, hb'⟩ := takeX_eq.1 ht
      by_cases h0 : k = n
      · subst h0
        refine ⟨.rslice 0 [], by simp only [slS, hb k hk]; simp, trivial, ?_⟩
        simp only [cellsIn, Nat.sub_self, Nat.zero_mul, takeX_zero]
        rw [List.drop_of_length_le (by omega)]
      · refine ⟨.rslice (n - k) (l.drop (k * s)), ?_, trivial, ?_⟩
        · simp only [slS, hb n hk]
          rw [if_neg h0, dropX_eq.2 ⟨by omega, rfl⟩]
        · simp only [cellsIn]
          rw [takeX_eq.2 ⟨by rw [List.length_drop]; omega, rfl⟩]
          subst hb'
          simp only [List.drop_take, hsub]
    · simp at h2
  · exact absurd h1 id

theorem TreeI.tail {σ : St} {v : AVal} {t : List ND} (h : TreeI σ v t) (hp : 0 < t.length) : ∃ v', slS 6 v (some (.int .i64 1)) none none = some v' ∧ TreeI σ v' (t.drop 1) := by
  obtain ⟨cs, h1, h2⟩ := h
  obtain ⟨v', g1, g2⟩ := SlI.drop h1 (k := 1) (by omega)
  refine ⟨v', g1, cs.drop (1 * 6), ?_, ?_⟩
  · rw [List.length_drop]; exact g2
  · cases h2 with
    | nil => simp at hp
    | cons hc ht =>
      rename_i n t av kv cs ds
      have : cs.length = 6 := by rw [hc.1]; rfl
      have e : (cs ++ ds).drop (1 * 6) = ds := by rw [Nat.one_mul, ← this]; exact List.drop_left
      show NodesC σ t _
      rw [e]
      exact ht

/-- An own row of bytes. -/
def OwnB (σ : St) (b : Nat) (l : List Nat) : Prop := b < σ.next ∧ ∃ f cs, σ.get b = some (.cells f 5 cs) ∧ l.length ≤ cs.length ∧ cs.take l.length = l.map fun x : Nat => AVal.int .u8 (x : Int)
theorem OwnB.fr {σ σ' : St} {b : Nat} {l : List Nat} (h : OwnB σ b l) (hf : Fr σ σ') : OwnB σ' b l := by
  obtain ⟨h1, f, cs, h2, h3⟩ := h
  exact ⟨Nat.lt_of_lt_of_le h1 hf.next, f, cs, by rw [hf.get _ h1]; exact h2, h3⟩
theorem OwnB.sl {σ : St} {b : Nat} {l : List Nat} (h : OwnB σ b l) : SlI σ 1 (.slice b 0 l.length 1) l.length (l.map fun x : Nat => AVal.int .u8 (x : Int)) := by
  obtain ⟨h1, f, cs, h2, h3, h4⟩ := h
  refine ⟨h1, ?_⟩
  simp only [cellsIn, h2, if_true]
  rw [sub_eq.2 ⟨by omega, rfl⟩]
  simp only [List.drop_zero, Nat.mul_one, h4]
theorem OwnB.get {σ : St} {b : Nat} {l : List Nat} (h : OwnB σ b l) {i : Nat} (hi : i < l.length) {k : IntKind} : ixS 1 (.slice b 0 l.length 1) (.int k (i : Int)) = some (ixp 1 (.slice b 0 l.length 1) i) ∧ ldA σ none (ixp 1 (.slice b 0 l.length 1) i) = some (.int .u8 (l[i] : Int)) := by
  obtain ⟨h1, h2⟩ := h.sl.ix hi (k := k)
  refine ⟨h1, ?_⟩
  rw [Nat.mul_one, List.drop_eq_getElem_cons (by simpa using hi)] at h2
  have := h2.ld
  simpa using this
theorem OwnB.store {σ σ0 : St} {b : Nat} {l : List Nat} (h : OwnB σ b l) {i : Nat} (hi : i < l.length) (w : Nat) (h0 : Fr σ0 σ) (hb : σ0.next ≤ b) :
    ∃ σ', stS σ 1 (ixp 1 (.slice b 0 l.length 1) i) (.int .u8 (w : Int)) = some σ' ∧ OwnB σ' b (l.set i w) ∧ Fr σ0 σ' ∧ σ'.next = σ.next ∧ (∀ c, c ≠ b → σ'.get c = σ.get c) := by
  obtain ⟨hlt, f, cs, hg, hl, htk⟩ := h
  have hp := putX_set cs i (.int .u8 (w : Int)) (by omega)
  refine ⟨σ.put b (.cells f 5 (cs.set i (.int .u8 (w : Int)))), ?_, ⟨hlt, f, _, St.get_put_same _ _ _, ?_, ?_⟩, h0.put hb _, rfl, fun c hc => St.get_put_other _ _ hc⟩
  · simp only [ixp, stS_ptr, hg, cells_int, Nat.zero_add, Nat.mul_one, lenL_eq, List.length_cons, List.length_nil, allOne, one_int, Bool.and_true, and_self, if_true, hp]
  · simp only [List.length_set]; exact hl
  · simp only [List.length_set]
    rw [List.take_set, htk, List.map_set]

/-- A node's parent stands ahead of it. -/
theorem rightG_up (t : List ND) : ∀ (m i : Nat) (path cnt cnt' : List Nat), i + m = t.length → InvF t i path cnt → rightG t m i path cnt = some cnt' →
    ∀ j, i ≤ j → 0 < j → j < t.length → ∃ u : Nat, (t.getD j dN).up = (u : Int) ∧ u < j
  | 0, i, path, cnt, cnt', hm, hv, hg => fun j h1 h2 h3 => by omega
  | m + 1, i, path, cnt, cnt', hm, hv, hg => by
    rw [rightG] at hg
    cases hs : stepR t i path cnt with
    | none => rw [hs] at hg; simp at hg
    | some pc =>
      obtain ⟨p, c⟩ := pc
      rw [hs] at hg
      obtain ⟨hv', q, hq, hq2⟩ := hv.step (by omega) hs
      intro j h1 h2 h3
      by_cases e : j = i
      · subst e
        obtain ⟨e1, e2⟩ := hq2 (by omega)
        subst e1
        obtain ⟨l, u, w1, w2⟩ := popS_last _ _ e2
        refine ⟨u, w2.symm, ?_⟩
        obtain ⟨k, hk⟩ := popS_take (t.getD j dN).up path
        have : u ∈ path := by
          have : u ∈ popS (t.getD j dN).up path := by rw [w1]; simp
          rw [hk] at this; exact List.mem_of_mem_take this
        rcases hv.pos u this with h | h <;> omega
      · exact rightG_up t m (i + 1) p c cnt' (by omega) hv' hg j (by omega) h2 h3
theorem right_up {t : List ND} (h : rightS t = true) {j : Nat} (hj : 0 < j) (hjt : j < t.length) : ∃ u : Nat, t[j].up = (u : Int) ∧ u < j := by
  unfold rightS at h
  rw [Bool.and_eq_true] at h
  obtain ⟨h1, h2⟩ := h
  cases hg : rightG t t.length 0 [0] (List.replicate t.length 0) with
  | none => rw [hg] at h2; simp at h2
  | some cnt =>
    have hv : InvF t 0 [0] (List.replicate t.length 0) := by
      refine ⟨fun p hp => by simp at hp; exact .inr hp, by simp, fun u hu j hj => ?_⟩
      have : (List.replicate t.length 0).getD u 0 = 0 := by rw [getD_at (by simpa using hu)]; simp
      omega
    have := rightG_up t t.length 0 [0] _ cnt (by omega) hv hg j (Nat.zero_le _) hj hjt
    rwa [getD_at hjt] at this

/-- The ways of all nodes, one after the other. -/
def allStep (t : List ND) (i : Nat) (out : List Nat) : List Nat :=
  if (t.getD i dN).kind = 1 then
    match sheetD t i with
    | some w => (out.set i (out.getD (t.getD i dN).up.toNat 0)).set i w
    | none => out.set i (out.getD (t.getD i dN).up.toNat 0)
  else out.set i (out.getD (t.getD i dN).up.toNat 0)
theorem allStep_len {t : List ND} {i : Nat} {out : List Nat} : (allStep t i out).length = out.length := by
  unfold allStep; repeat' split
  all_goals simp
def allG (t : List ND) : Nat → Nat → List Nat → List Nat
  | 0, _, out => out
  | m + 1, i, out => allG t m (i + 1) (allStep t i out)
def allS (t : List ND) : List Nat := allG t (t.length - 1) 1 (List.replicate t.length 0)

set_option maxHeartbeats 4000000 in
theorem all_loop {σ0 : St} {t : List ND} {tv tv' : AVal} (ht : TreeI σ0 tv t) (ht' : TreeI σ0 tv' (t.drop 1)) (hwf : ∀ n ∈ t, NWF n) (hR : rightS t = true) (bo : Nat) (hbo : σ0.next ≤ bo) : ∀ (m i : Nat) (out : List Nat) (e : Env) (σ : St) (r : Option (Out × Env × St)), i + m = t.length - 1 → out.length = t.length →
    Fr σ0 σ → OwnB σ bo out → Ew TS false (.loop L11_1) e σ = r →
    V e 0 = tv → V e 4 = .slice bo 0 out.length 1 → V e 17 = tv' → V e 18 = .int .i64 ((t.length - 1 : Nat) : Int) → V e 19 = .int .i64 (i : Int) →
    ∃ e' σ', Fr σ0 σ' ∧ r = some (.exit 0, e', σ') ∧ V e' 4 = .slice bo 0 out.length 1 ∧ OwnB σ' bo (allG t m (i + 1) out) ∧ (allG t m (i + 1) out).length = t.length
  | 0, i, out, e, σ, r, hi, ho, hf, hB, hr, h0, h4, h17, h18, h19 => by
    have hlt : ¬ ((i : Int) < ((t.length - 1 : Nat) : Int)) := by omega
    rw [Ew_loop] at hr
    simp only [L11_1, sA, reduceIte, Nat.reduceEqDiff, Int.reduceLT, Int.reduceLE, Int.reduceEq, Int.reduceNeg, reduceCtorEq, Nat.reduceAdd, h18, h19, hlt] at hr
    exact ⟨_, _, hf, hr.symm, by simp only [sV, Nat.reduceEqDiff, reduceIte, Nat.reduceAdd, h4], hB, ho⟩
  | m + 1, i, out, e, σ, r, hi, ho, hf, hB, hr, h0, h4, h17, h18, h19 => by
    have hlt : ((i : Int) < ((t.length - 1 : Nat) : Int)) := by omega
    have hit : i + 1 < t.length := by omega
    obtain ⟨hk, -, -, hN⟩ := right_facts hR
    have hw : wrapI .i64 ((i : Int) + 1) = ((i + 1 : Nat) : Int) := by rw [wrap_i64 (by omega) (by omega)]; omega
    have hd : i < (t.drop 1).length := by rw [List.length_drop]; omega
    obtain ⟨av, kv, x1, x2⟩ := (ht'.fr hf).get hd
    have hel : (t.drop 1)[i] = t[i + 1] := by rw [List.getElem_drop]; congr 1; omega
    rw [hel] at x2
    have x1 := x1 .i64
    obtain ⟨u, hu, hui⟩ := right_up hR (j := i + 1) (by omega) hit
    have o1 := x2.attrs.one
    have o2 := x2.kids.one
    have hcp := Copy.of (z := .nils) (f := true) (t := 36) (zs := [.int .u8 0, .str [], .nils, .str [], .int .i64 0, .nils]) x2
    have hf2 : Fr σ ((σ.new (.cells true 36 [.int .u8 0, .str [], .nils, .str [], .int .i64 0, .nils])).put σ.next (.cells true 36 [.int .u8 (t[i + 1].kind : Int), .str t[i + 1].name, av, .str t[i + 1].data, .int .i64 t[i + 1].up, kv])) := (Fr.new _ _).put (Nat.le_refl _) _
    have x2l := x2.ld
    generalize e2 : (σ.new (.cells true 36 [.int .u8 0, .str [], .nils, .str [], .int .i64 0, .nils])).put σ.next (.cells true 36 [.int .u8 (t[i + 1].kind : Int), .str t[i + 1].name, av, .str t[i + 1].data, .int .i64 t[i + 1].up, kv]) = σ2 at hcp hf2
    obtain ⟨⟨fc, ec, gc⟩, gclt, -, -⟩ := id hcp
    rw [hu] at gc
    have hB2 := hB.fr hf2
    have huo : u < out.length := by omega
    have hio : i + 1 < out.length := by omega
    obtain ⟨u1, u2⟩ := hB2.get huo (k := .i64)
    obtain ⟨w1, -⟩ := hB2.get hio (k := .i64)
    obtain ⟨σ3, s1, hB3, hf3, hn3, hk3⟩ := hB2.store hio out[u] (hf.trans hf2) hbo
    have hbne : σ.next ≠ bo := by have := hB.1; omega
    have gc3 : σ3.get σ.next = some (.cells fc ec [.int .u8 (t[i + 1].kind : Int), .str t[i + 1].name, av, .str t[i + 1].data, .int .i64 (u : Int), kv]) := by rw [hk3 _ hbne]; exact gc
    have hgi : t.getD (i + 1) dN = t[i + 1] := getD_at hit dN
    have hst : allStep t (i + 1) out = if t[i + 1].kind = 1 then (match sheetD t (i + 1) with | some w => (out.set (i + 1) out[u]).set (i + 1) w | none => out.set (i + 1) out[u]) else out.set (i + 1) out[u] := by
      unfold allStep
      rw [hgi, hu, Int.toNat_natCast, getD_at huo]
    have hlen : (out.set (i + 1) out[u]).length = out.length := List.length_set
    rw [allG, hst]
    rw [Ew_loop] at hr
    by_cases hkd : t[i + 1].kind = 1
    · rw [if_pos hkd]
      have hkd' := eq_true (show (t[i + 1].kind : Int) = 1 by omega)
      obtain ⟨σ4, hf4, hsh⟩ := sheet_ok (ht.fr hf3) hwf hk hit
      have hB4 := hB3.fr hf4
      cases hsd : sheetD t (i + 1) with
      | none =>
        rw [hsd] at hsh
        simp only [L11_1, B11_6, B11_1, B11_2, B11_3, B11_4, B11_5, sC, reduceIte, Nat.reduceEqDiff, sO, Int.reduceLT, Int.reduceLE, Int.reduceEq, Int.reduceNeg, reduceCtorEq, sF, Nat.reduceAdd, opAlloc, allOne, St.newK_eq, opStore_s, opLoad_s, opFieldAddr_s, opIaSl_s, fldA_ptr, ldA_ptr, stS_ptr, St.get_new_same, loadL_none, putX_all6, cells_agg, one_int, one_str, List.length_cons, List.length_nil, Nat.zero_add, dropX_zero, dropX_4, Bool.and_true, and_true, true_and, Bool.false_eq_true, h0, h4, h17, h18, h19, hlt, x1, x2l, o1, o2, e2, gc, u1, u2, w1, s1, gc3, hkd', hw, opCall, argsOf, hsh, opExtract, dropX_1, dropX_2, Option.isSome_none] at hr
        obtain ⟨e', σ', hf', g1, g2, g3, g4⟩ := all_loop ht ht' hwf hR bo hbo m (i + 1) (out.set (i + 1) out[u]) _ σ4 r (by omega) (by rw [hlen]; exact ho) (hf3.trans hf4) hB4 hr (by simp only [sV, Nat.reduceEqDiff, reduceIte, Nat.reduceAdd, h0]) (by simp only [sV, Nat.reduceEqDiff, reduceIte, Nat.reduceAdd, h4, hlen]) (by simp only [sV, Nat.reduceEqDiff, reduceIte, Nat.reduceAdd, h17]) (by simp only [sV, Nat.reduceEqDiff, reduceIte, Nat.reduceAdd, h18]) (by simp only [sV, Nat.reduceEqDiff, reduceIte, Nat.reduceAdd])
        rw [hlen] at g2
        exact ⟨e', σ', hf', g1, g2, g3, g4⟩
      | some w =>
        rw [hsd] at hsh
        have hio' : i + 1 < (out.set (i + 1) out[u]).length := by rw [hlen]; exact hio
        obtain ⟨v1, -⟩ := hB4.get hio' (k := .i64)
        obtain ⟨σ5, s5, hB5, hf5, hn5, hk5⟩ := hB4.store hio' w (hf3.trans hf4) hbo
        rw [hlen] at v1 s5
        simp only [L11_1, B11_6, B11_1, B11_2, B11_3, B11_4, B11_5, sC, reduceIte, Nat.reduceEqDiff, sO, Int.reduceLT, Int.reduceLE, Int.reduceEq, Int.reduceNeg, reduceCtorEq, sF, Nat.reduceAdd, opAlloc, allOne, St.newK_eq, opStore_s, opLoad_s, opFieldAddr_s, opIaSl_s, fldA_ptr, ldA_ptr, stS_ptr, St.get_new_same, loadL_none, putX_all6, cells_agg, one_int, one_str, List.length_cons, List.length_nil, Nat.zero_add, dropX_zero, dropX_4, Bool.and_true, and_true, true_and, Bool.false_eq_true, h0, h4, h17, h18, h19, hlt, x1, x2l, o1, o2, e2, gc, u1, u2, w1, s1, gc3, hkd', hw, opCall, argsOf, hsh, opExtract, dropX_1, dropX_2, Option.isSome_some, Option.getD_some, v1, s5] at hr
        have hlen2 : ((out.set (i + 1) out[u]).set (i + 1) w).length = out.length := by rw [List.length_set, hlen]
        obtain ⟨e', σ', hf', g1, g2, g3, g4⟩ := all_loop ht ht' hwf hR bo hbo m (i + 1) ((out.set (i + 1) out[u]).set (i + 1) w) _ σ5 r (by omega) (by rw [hlen2]; exact ho) hf5 hB5 hr (by simp only [sV, Nat.reduceEqDiff, reduceIte, Nat.reduceAdd, h0]) (by simp only [sV, Nat.reduceEqDiff, reduceIte, Nat.reduceAdd, h4, hlen2]) (by simp only [sV, Nat.reduceEqDiff, reduceIte, Nat.reduceAdd, h17]) (by simp only [sV, Nat.reduceEqDiff, reduceIte, Nat.reduceAdd, h18]) (by simp only [sV, Nat.reduceEqDiff, reduceIte, Nat.reduceAdd])
        rw [hlen2] at g2
        exact ⟨e', σ', hf', g1, g2, g3, g4⟩
    · rw [if_neg hkd]
      have hkd' : ¬ (t[i + 1].kind : Int) = 1 := by omega
      simp only [L11_1, B11_6, B11_1, B11_2, B11_3, sC, reduceIte, Nat.reduceEqDiff, sO, Int.reduceLT, Int.reduceLE, Int.reduceEq, Int.reduceNeg, reduceCtorEq, sF, Nat.reduceAdd, opAlloc, allOne, St.newK_eq, opStore_s, opLoad_s, opFieldAddr_s, opIaSl_s, fldA_ptr, ldA_ptr, stS_ptr, St.get_new_same, loadL_none, putX_all6, cells_agg, one_int, one_str, List.length_cons, List.length_nil, Nat.zero_add, dropX_zero, dropX_4, Bool.and_true, and_true, true_and, Bool.false_eq_true, h0, h4, h17, h18, h19, hlt, x1, x2l, o1, o2, e2, gc, u1, u2, w1, s1, gc3, hkd', hw] at hr
      obtain ⟨e', σ', hf', g1, g2, g3, g4⟩ := all_loop ht ht' hwf hR bo hbo m (i + 1) (out.set (i + 1) out[u]) _ σ3 r (by omega) (by rw [hlen]; exact ho) hf3 hB3 hr (by simp only [sV, Nat.reduceEqDiff, reduceIte, Nat.reduceAdd, h0]) (by simp only [sV, Nat.reduceEqDiff, reduceIte, Nat.reduceAdd, h4, hlen]) (by simp only [sV, Nat.reduceEqDiff, reduceIte, Nat.reduceAdd, h17]) (by simp only [sV, Nat.reduceEqDiff, reduceIte, Nat.reduceAdd, h18]) (by simp only [sV, Nat.reduceEqDiff, reduceIte, Nat.reduceAdd])
      rw [hlen] at g2
      exact ⟨e', σ', hf', g1, g2, g3, g4⟩

theorem rep_b : ∀ n : Nat, rep [.int .u8 0] n = (List.replicate n 0).map fun x : Nat => AVal.int .u8 (x : Int)
  | 0 => rfl
  | n + 1 => by rw [rep, rep_b n]; rfl

theorem All_ok {σ : St} {t : List ND} {tv : AVal} (ht : TreeI σ tv t) (hwf : ∀ n ∈ t, NWF n) :
    ∃ σ', Fr σ σ' ∧ ((rightS t = false ∧ Cw TS false 11 [tv] σ = some (.tuple [.nils, .int .i64 53], σ')) ∨
      (rightS t = true ∧ ∃ b, σ.next ≤ b ∧ OwnB σ' b (allS t) ∧ (allS t).length = t.length ∧ Cw TS false 11 [tv] σ = some (.tuple [.slice b 0 t.length 1, .int .i64 0], σ'))) := by
  obtain ⟨σ1, hf1, hR⟩ := Right_ok ht hwf
  rw [Cw_of fn11 false _ σ rfl]
  cases hr : rightS t with
  | false =>
    rw [hr, if_neg (by decide)] at hR
    simp only [c11, B11_7, B11_8, B11_9, B11_10, B11_11, sA, reduceIte, Nat.reduceEqDiff, Int.reduceLT, Int.reduceLE, Int.reduceEq, Int.reduceNeg, reduceCtorEq, Nat.reduceAdd, opCall, argsOf, hR]
    exact ⟨_, hf1, .inl ⟨trivial, rfl⟩⟩
  | true =>
    rw [hr, if_pos rfl] at hR
    obtain ⟨hk, -, hpos, hN⟩ := right_facts hr
    have hl1 := (ht.fr hf1).len
    have hmk := mkS_nat (σ := σ1) (e := 5) (s := 1) (bytes := 1) (n := t.length) (z := [.int .u8 0]) (by omega) (by omega)
    have hf2 : Fr σ1 (σ1.new (.cells true 5 (rep [.int .u8 0] t.length))) := Fr.new _ _
    obtain ⟨tv', s1, ht'⟩ := TreeI.tail (ht.fr hf1) hpos
    have hl' := (ht'.fr hf2).len
    rw [List.length_drop] at hl'
    have hB : OwnB (σ1.new (.cells true 5 (rep [.int .u8 0] t.length))) σ1.next (List.replicate t.length 0) := by
      refine ⟨Nat.lt_succ_self _, true, _, St.get_new_same _ _, ?_, ?_⟩
      · rw [rep_b]; simp
      · rw [rep_b, List.take_of_length_le (by simp)]
    simp only [c11, B11_7, B11_8, B11_9, B11_10, B11_11, sA, reduceIte, Nat.reduceEqDiff, Int.reduceLT, Int.reduceLE, Int.reduceEq, Int.reduceNeg, reduceCtorEq, Nat.reduceAdd, opCall, argsOf, hR, hl1, opMkSlice_s, hmk, Bool.false_eq_true, opSlSl_s, Option.map_none, Option.map_some, s1, hl']
    generalize hrr : Ew TS false (.loop L11_1) _ _ = rr
    have hrl : (List.replicate t.length 0).length = t.length := List.length_replicate
    obtain ⟨e', σ', hf', rfl, g2, g3, g4⟩ := all_loop (ht.fr hf1) ht' hwf hr σ1.next (Nat.le_refl _) (t.length - 1) 0 (List.replicate t.length 0) _ _ rr (by omega) hrl hf2 hB hrr (by simp only [sV, Nat.reduceEqDiff, reduceIte, Nat.reduceAdd]) (by simp only [sV, Nat.reduceEqDiff, reduceIte, Nat.reduceAdd, hrl]) (by simp only [sV, Nat.reduceEqDiff, reduceIte, Nat.reduceAdd]) (by simp only [sV, Nat.reduceEqDiff, reduceIte, Nat.reduceAdd]) (by simp only [sV, Nat.reduceEqDiff, reduceIte, Nat.reduceAdd]; rfl)
    rw [hrl] at g2
    refine ⟨σ', hf1.trans hf', .inr ⟨trivial, σ1.next, hf1.next, g3, g4, ?_⟩⟩
    simp only [B11_11, sA, reduceIte, Nat.reduceEqDiff, Int.reduceLT, Int.reduceLE, Int.reduceEq, Int.reduceNeg, reduceCtorEq, Nat.reduceAdd, g2]
end Go.Ab.Dirs
end

set_option maxRecDepth 100000
noncomputable section
namespace Go.Ab.Dirs
open Go Go.Ab

theorem right_node {t : List ND} (h : rightS t = true) {i : Nat} (h0 : 0 < i) (hi : i < t.length) : ((t.getD i nd0).kind = 1 ∧ (t.getD i nd0).data = []) ∨ ((t.getD i nd0).kind = 2 ∧ validS (t.getD i nd0).data = true) := by
  have hn := (rightP_iff.2 h).node i hi
  unfold nodeR at hn
  by_cases k0 : (t.getD i nd0).kind = 0
  · rw [if_pos k0, decide_eq_false (show ¬ (i : Int) = 0 by omega)] at hn; simp at hn
  · rw [if_neg k0] at hn
    by_cases k1 : (t.getD i nd0).kind = 1
    · rw [if_pos k1] at hn; simp only [Bool.and_eq_true, decide_eq_true_eq] at hn; exact .inl ⟨k1, hn.1.1.2⟩
    · rw [if_neg k1] at hn
      by_cases k2 : (t.getD i nd0).kind = 2
      · rw [if_pos k2] at hn; simp only [Bool.and_eq_true, decide_eq_true_eq] at hn
        have := hn.2; unfold wellS at this; rw [Bool.and_eq_true] at this
        exact .inr ⟨k2, this.1⟩
      · rw [if_neg k2] at hn; exact absurd hn (by decide)

def sheetV (d : Option Nat) (b : Nat) : AVal := .tuple [.int .u8 ((d.getD 0 : Nat) : Int), .bool d.isSome, .int .u8 (b : Int)]
/-! Own rows of bytes. -/
def stB (σ : St) (b i w : Nat) : St := (stS σ 1 (.ptr b i) (.int .u8 (w : Int))).getD σ
section
variable {σ σ0 : St} {b : Nat} {l : List Nat} {i w : Nat}
theorem OwnB.ld (h : OwnB σ b l) (hi : i < l.length) : ldA σ none (.ptr b i) = some (.int .u8 ((l.getD i 0 : Nat) : Int)) := by
  obtain ⟨_, f, cs, hg, hl, ht⟩ := h
  have h1 : cs[i]? = some (.int .u8 ((l.getD i 0 : Nat) : Int)) := by
    have h2 := congrArg (fun x => x[i]?) ht
    simp only [List.getElem?_take, hi, if_true, List.getElem?_map] at h2
    rw [h2, List.getElem?_eq_getElem hi, getD_lt hi]; rfl
  obtain ⟨h3, h4⟩ := List.getElem?_eq_some_iff.1 h1
  rw [ldA_ptr, hg]
  simp only
  rw [dropX_get h3, h4]; rfl
theorem OwnB.stE (h : OwnB σ b l) (hi : i < l.length) : ∃ f cs, σ.get b = some (.cells f 5 cs) ∧ i < cs.length ∧ stS σ 1 (.ptr b i) (.int .u8 (w : Int)) = some (σ.put b (.cells f 5 (cs.set i (.int .u8 (w : Int))))) := by
  obtain ⟨_, f, cs, hg, hl, ht⟩ := h
  refine ⟨f, cs, hg, by omega, ?_⟩
  rw [stS_ptr, hg]
  simp only [cells_int, lenL_eq, List.length_cons, List.length_nil, Nat.zero_add, allOne, one_int, Bool.and_true, and_self, if_true, putX_set cs i _ (by omega : i < cs.length)]
theorem OwnB.st (h : OwnB σ b l) (hi : i < l.length) : stS σ 1 (.ptr b i) (.int .u8 (w : Int)) = some (stB σ b i w) := by
  obtain ⟨f, cs, _, _, h1⟩ := h.stE hi (w := w)
  unfold stB; rw [h1]; rfl
theorem OwnB.stB (h : OwnB σ b l) (hi : i < l.length) : OwnB (stB σ b i w) b (l.set i w) := by
  obtain ⟨f, cs, hg, hl, h1⟩ := h.stE hi (w := w)
  obtain ⟨hlt, f', cs', hg', hl', ht'⟩ := h
  rw [hg] at hg'; cases hg'
  unfold Dirs.stB; rw [h1]
  refine ⟨hlt, f, _, St.get_put_same _ _ _, by simpa using hl', ?_⟩
  rw [List.length_set, List.take_set, ht', List.map_set]
theorem OwnB.frB (h : OwnB σ b l) (hi : i < l.length) (hf : Fr σ0 σ) (hb : σ0.next ≤ b) : Fr σ0 (Dirs.stB σ b i w) := by
  obtain ⟨f, cs, hg, hl, h1⟩ := h.stE hi (w := w)
  unfold Dirs.stB; rw [h1]; exact hf.put hb _
end
theorem allG_snoc (t : List ND) : ∀ (m i : Nat) (out : List Nat), allG t (m + 1) i out = allStep t (i + m) (allG t m i out)
  | 0, i, out => rfl
  | m + 1, i, out => by
    show allG t (m + 1) (i + 1) (allStep t i out) = _
    rw [allG_snoc t m (i + 1), show i + 1 + m = i + (m + 1) by omega]; rfl
theorem allG_len (t : List ND) : ∀ (m i : Nat) (out : List Nat), (allG t m i out).length = out.length
  | 0, i, out => rfl
  | m + 1, i, out => by
    show (allG t m (i + 1) (allStep t i out)).length = _
    rw [allG_len t m, allStep_len]

section
variable {σ s0 : St} {t : List ND} {tv : AVal}
theorem pSheet_ok (ht : TreeI σ tv t) (hwf : ∀ n ∈ t, NWF n) {i : Int} (hf0 : Fr σ s0) : CW TS false 17 [tv, .int .i64 i] s0 fun v s => Fr σ s ∧ v = if elemS t i = true then sheetV (sheetD t i.toNat) (sheetB t i.toNat) else sheetV none 0 := by
  refine CW_of fn17 rfl ?_
  repeat' (first | ((first | apply RG_step | apply DG_step | apply DG_read); focus (intro hgd; have hgd2 := hgd; (try simp only [sB] at hgd); (try simp only [sP] at hgd2); simp (maxSteps := 1000000) (disch := (first | omega | assumption | exact Fr.refl _)) only [hgd, sR, reduceIte, Nat.reduceEqDiff, Int.reduceLT, Int.reduceLE, Int.reduceEq, Int.reduceNeg, reduceCtorEq, Nat.reduceAdd, Int.reduceToNat, c17]; exact StepIs_refl)) | ((first | refine Br_intro ?_ ?_ | refine BrB_intro ?_ ?_) <;> intro hbr hbe <;> simp (maxSteps := 1000000) (disch := (first | omega | assumption | exact Fr.refl _)) only [hbe, sR, reduceIte, Nat.reduceEqDiff, Int.reduceLT, Int.reduceLE, Int.reduceEq, Int.reduceNeg, reduceCtorEq, Nat.reduceAdd, Int.reduceToNat, c17] <;> clear hbe) | simp (maxSteps := 1000000) (disch := (first | omega | assumption | exact Fr.refl _)) only [sR, reduceIte, Nat.reduceEqDiff, Int.reduceLT, Int.reduceLE, Int.reduceEq, Int.reduceNeg, reduceCtorEq, Nat.reduceAdd, Int.reduceToNat, c17])
  refine Bd_call (CW_fr (element_ok (ht.fr hf0) hwf i)) ?_
  rintro _ s1 ⟨rfl, hf1⟩
  have hf1 := hf0.trans hf1
  repeat' (first | ((first | apply RG_step | apply DG_step | apply DG_read); focus (intro hgd; have hgd2 := hgd; (try simp only [sB] at hgd); (try simp only [sP] at hgd2); simp (maxSteps := 1000000) (disch := (first | omega | assumption | exact Fr.refl _)) only [hgd, sR, reduceIte, Nat.reduceEqDiff, Int.reduceLT, Int.reduceLE, Int.reduceEq, Int.reduceNeg, reduceCtorEq, Nat.reduceAdd, Int.reduceToNat]; exact StepIs_refl)) | ((first | refine Br_intro ?_ ?_ | refine BrB_intro ?_ ?_) <;> intro hbr hbe <;> simp (maxSteps := 1000000) (disch := (first | omega | assumption | exact Fr.refl _)) only [hbe, sR, reduceIte, Nat.reduceEqDiff, Int.reduceLT, Int.reduceLE, Int.reduceEq, Int.reduceNeg, reduceCtorEq, Nat.reduceAdd, Int.reduceToNat] <;> clear hbe) | simp (maxSteps := 1000000) (disch := (first | omega | assumption | exact Fr.refl _)) only [sR, reduceIte, Nat.reduceEqDiff, Int.reduceLT, Int.reduceLE, Int.reduceEq, Int.reduceNeg, reduceCtorEq, Nat.reduceAdd, Int.reduceToNat])
  · have he := hbr
    unfold elemS at he
    simp only [Bool.and_eq_true, decide_eq_true_eq] at he
    obtain ⟨h1, h2, h3, h4⟩ := he
    obtain ⟨z, rfl⟩ := Int.eq_ofNat_of_zero_le (by omega : 0 ≤ i)
    refine Bd_call (CW_fr (sheet_ok (ht.fr hf1) hwf (right_facts h4).1 (by omega : z < t.length))) ?_
    rintro _ s2 ⟨rfl, hf2⟩
    repeat' (first | ((first | apply RG_step | apply DG_step | apply DG_read); focus (intro hgd; have hgd2 := hgd; (try simp only [sB] at hgd); (try simp only [sP] at hgd2); simp (maxSteps := 1000000) (disch := (first | omega | assumption | exact Fr.refl _)) only [hgd, sR, reduceIte, Nat.reduceEqDiff, Int.reduceLT, Int.reduceLE, Int.reduceEq, Int.reduceNeg, reduceCtorEq, Nat.reduceAdd, Int.reduceToNat, opExtract, hbr, Int.toNat_natCast]; exact StepIs_refl)) | ((first | refine Br_intro ?_ ?_ | refine BrB_intro ?_ ?_) <;> intro hbr hbe <;> simp (maxSteps := 1000000) (disch := (first | omega | assumption | exact Fr.refl _)) only [hbe, sR, reduceIte, Nat.reduceEqDiff, Int.reduceLT, Int.reduceLE, Int.reduceEq, Int.reduceNeg, reduceCtorEq, Nat.reduceAdd, Int.reduceToNat, opExtract, hbr, Int.toNat_natCast] <;> clear hbe) | simp (maxSteps := 1000000) (disch := (first | omega | assumption | exact Fr.refl _)) only [sR, reduceIte, Nat.reduceEqDiff, Int.reduceLT, Int.reduceLE, Int.reduceEq, Int.reduceNeg, reduceCtorEq, Nat.reduceAdd, Int.reduceToNat, opExtract, hbr, Int.toNat_natCast])
    exact ⟨hf1.trans hf2, rfl⟩
  · exact ⟨hf1, rfl⟩
end
theorem eqV_bool (a b : Bool) : eqV .bool (.bool a) (.bool b) = some (a == b) := by simp only [eqV]
theorem OwnB.ix {σ : St} {b : Nat} {l : List Nat} (h : OwnB σ b l) {i : Nat} (hi : i < l.length) : ldA σ none (.ptr b (0 + i * 1)) = some (.int .u8 ((l.getD i 0 : Nat) : Int)) := by
  rw [Nat.zero_add, Nat.mul_one]; exact h.ld hi
theorem All_cw {σ s0 : St} {t : List ND} {tv : AVal} (ht : TreeI σ tv t) (hwf : ∀ n ∈ t, NWF n) (hf0 : Fr σ s0) : CW TS false 11 [tv] s0 fun v s => Fr s0 s ∧ ((rightS t = false ∧ v = .tuple [.nils, .int .i64 53]) ∨ (rightS t = true ∧ ∃ b, s0.next ≤ b ∧ OwnB s b (allS t) ∧ (allS t).length = t.length ∧ v = .tuple [.slice b 0 t.length 1, .int .i64 0])) := by
  obtain ⟨s, hf, ⟨h1, h2⟩ | ⟨h1, b, h2, h3, h4, h5⟩⟩ := All_ok (ht.fr hf0) hwf
  · exact CW_iff.2 ⟨_, s, h2, hf, .inl ⟨h1, rfl⟩⟩
  · exact CW_iff.2 ⟨_, s, h5, hf, .inr ⟨h1, b, h2, h3, h4, rfl⟩⟩

end Go.Ab.Dirs
end
