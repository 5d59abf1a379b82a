/- DirsFirst: what is told alone. -/
import Derived.Test.YthbanbnmomcohaaGreatDoorP22
import Derived.Test.YthbanbnmomcohaaGreatDoorP23
set_option maxRecDepth 10000
noncomputable section
namespace Go.Ab.Dirs
open Go Go.Ab

theorem scanL_congr {g g' : Nat → Option Nat} : ∀ {l : List Int}, (∀ z ∈ l, g z.toNat = g' z.toNat) → scanL g l = scanL g' l
  | [], _ => rfl
  | z :: l, h => by
    unfold scanL
    rw [h z (List.mem_cons_self), scanL_congr fun y hy => h y (List.mem_cons_of_mem _ hy)]

theorem scanF_fuel {t : List ND} (hk : KidsT t) : ∀ (f f' i : Nat), i < t.length → t.length - i ≤ f → t.length - i ≤ f' → scanF t f i = scanF t f' i
  | 0, _, i, hi, h, _ => by omega
  | _ + 1, 0, i, hi, _, h => by omega
  | f + 1, f' + 1, i, hi, h, h' => by
    rw [scanF, scanF]
    refine scanL_congr fun z hz => ?_
    obtain ⟨k, rfl, h1, h2⟩ := hk i hi z hz
    rw [Int.toNat_natCast, scanF_fuel hk f f' k h2 (by omega) (by omega)]

/-- A text alone in a paragraph. -/
def t3 (data : List Nat) : List ND := [⟨0, [], [], [], -1, [1]⟩, ⟨1, [112], [], [], 0, [2]⟩, ⟨2, [], [], data, 1, []⟩]
theorem t3_right {data : List Nat} (h1 : data ≠ []) (h2 : wellS data = true) : rightS (t3 data) = true := by
  have e1 : fitsS (t3 data) [0] 0 ⟨0, [], [], [], -1, [1]⟩ = true := by unfold fitsS; rw [if_pos rfl]; rfl
  have e2 : fitsS (t3 data) [0] 1 ⟨1, [112], [], [], 0, [2]⟩ = true := by
    have ha : attrsS [] = true := by decide
    have hn : nestedS (t3 data) [0] [112] = true := by unfold nestedS; kernel_rfl
    have hu : upBad (upOf (t3 data) [0]) = false := by kernel_rfl
    unfold fitsS
    rw [if_neg (by decide), hu]
    simp only [ha, hn]
    rfl
  have e3 : fitsS (t3 data) [0, 1] 2 ⟨2, [], [], data, 1, []⟩ = true := by
    have hu : upBad (upOf (t3 data) [0, 1]) = false := by kernel_rfl
    have hp : prevS (t3 data) (upOf (t3 data) [0, 1]) 2 = true := by
      have : upOf (t3 data) [0, 1] = ⟨1, [112], [], [], 0, [2]⟩ := by kernel_rfl
      rw [this]
      unfold prevS
      have : decide (idxS ((2 : Nat) : Int) [2] 0 < 1) = true := by decide
      simp only [this, Bool.true_or]
    unfold fitsS
    rw [if_neg (by decide), hu]
    simp only [h2, hp]
    have : decide (data ≠ []) = true := by simp [h1]
    simp only [this]
    rfl
  have hs0 : stepR (t3 data) 0 [0] [0, 0, 0] = some ([0], [0, 0, 0]) := by
    unfold stepR
    rw [if_pos rfl, show (t3 data).getD 0 dN = ⟨0, [], [], [], -1, [1]⟩ from rfl, e1]; rfl
  have hs1 : stepR (t3 data) 1 [0] [0, 0, 0] = some ([0, 1], [1, 0, 0]) := by
    unfold stepR
    rw [if_neg (by decide), show (t3 data).getD 1 dN = ⟨1, [112], [], [], 0, [2]⟩ from rfl]
    simp only [show popS 0 [0] = [0] from by decide, e2]
    rw [if_pos ⟨by decide, by show 0 < 1; decide, by rfl⟩]
    rfl
  have hs2 : stepR (t3 data) 2 [0, 1] [1, 0, 0] = some ([0, 1, 2], [1, 1, 0]) := by
    unfold stepR
    rw [if_neg (by decide), show (t3 data).getD 2 dN = ⟨2, [], [], data, 1, []⟩ from rfl]
    simp only [show popS 1 [0, 1] = [0, 1] from by decide, e3]
    rw [if_pos ⟨by decide, by show 0 < 1; decide, by rfl⟩]
    rfl
  have hg : rightG (t3 data) 3 0 [0] [0, 0, 0] = some [1, 1, 0] := by
    simp only [rightG, hs0, hs1, hs2]
  have hh : headS (t3 data) = true := by kernel_rfl
  unfold rightS
  rw [hh, Bool.true_and, show (t3 data).length = 3 from rfl, show List.replicate 3 0 = [0, 0, 0] from rfl, hg]
  show finS (t3 data) [1, 1, 0] 3 0 = true
  rfl

theorem t3_scan {data : List Nat} (h1 : data ≠ []) (h2 : wellS data = true) : ScanS (t3 data) 1 = firstS data := by
  have he : elemS (t3 data) 1 = true := by unfold elemS; rw [t3_right h1 h2]; rfl
  unfold ScanS
  rw [he, if_pos rfl]
  have hk : openS ⟨2, [], [], data, 1, []⟩ = false := by unfold openS; rfl
  show scanF (t3 data) 3 1 = _
  rw [scanF, show ((t3 data).getD 1 dN).kids = [2] from rfl]
  simp only [scanL, show (2 : Int).toNat = 2 from rfl, show (t3 data).getD 2 dN = ⟨2, [], [], data, 1, []⟩ from rfl, hk, Bool.false_eq_true, if_false]
  cases firstS data <;> rfl

/-- A node below another in a right tree: a text or an element. -/
theorem node_facts {t : List ND} (h : rightS t = true) {j : Nat} (hj : 0 < j) (hjt : j < t.length) :
    (t[j].kind = 2 ∧ t[j].data ≠ [] ∧ wellS t[j].data = true) ∨ (t[j].kind = 1 ∧ t[j].data = []) := by
  obtain ⟨-, hf, -, -⟩ := right_facts h
  obtain ⟨q, hq⟩ := hf j hjt
  rw [getD_at hjt] at hq
  unfold fitsS at hq
  rw [if_neg (by omega)] at hq
  split at hq
  · simp at hq
  · split at hq
    · rename_i hk
      simp only [Bool.and_eq_true, decide_eq_true_eq] at hq
      exact .inl ⟨hk, hq.2.1, hq.2.2.1⟩
    · split at hq
      · rename_i hk
        simp only [Bool.and_eq_true, decide_eq_true_eq] at hq
        exact .inr ⟨hk, hq.1⟩
      · simp at hq

theorem head_kind {t : List ND} (h : rightS t = true) : (t.getD 0 dN).kind = 0 := by
  unfold rightS headS at h
  simp only [Bool.and_eq_true, decide_eq_true_eq] at h
  exact h.1.2.2.1

/-- What a child tells. -/
def toldS (t : List ND) (j : Nat) : Option Nat :=
  if (t.getD j dN).kind = 2 then firstS (t.getD j dN).data
  else if (t.getD j dN).name ≠ [98, 100, 105] ∧ StateS t (j : Int) = 0 then ScanS t (j : Int) else none

theorem told_scanK {t : List ND} (h : rightS t = true) {j : Nat} (hj : 0 < j) (hjt : j < t.length) : scanK t (t.length - 1) j = toldS t j := by
  unfold scanK toldS
  rw [getD_at hjt]
  obtain ⟨hk, -, -, -⟩ := right_facts h
  rcases node_facts h hj hjt with ⟨a, b, c⟩ | ⟨a, b⟩
  · have : openS t[j] = false := by unfold openS; rw [a]; rfl
    rw [this, if_pos a]; rfl
  · rw [if_neg (show ¬ t[j].kind = 2 by omega), b, firstS_nil]
    have he : elemS t (j : Int) = true := by
      unfold elemS
      rw [Int.toNat_natCast, getD_at hjt, h, decide_eq_true (show (0 : Int) < (j : Int) by omega), decide_eq_true (show (j : Int) < (t.length : Int) by omega), decide_eq_true a]
      rfl
    have hst : StateS t (j : Int) = stateS t[j].attrs := by unfold StateS; rw [he, if_pos rfl, Int.toNat_natCast, getD_at hjt]
    have hsc : ScanS t (j : Int) = scanF t (t.length - 1) j := by
      unfold ScanS scanS
      rw [he, if_pos rfl, Int.toNat_natCast]
      exact scanF_fuel hk _ _ j hjt (by omega) (by omega)
    rw [hst, hsc]
    by_cases c1 : t[j].name ≠ [98, 100, 105]
    · by_cases c2 : stateS t[j].attrs = 0
      · have : openS t[j] = true := by unfold openS; simp [a, c1, c2]
        rw [this, if_pos rfl, if_pos ⟨c1, c2⟩]
        cases scanF t (t.length - 1) j <;> rfl
      · have : openS t[j] = false := by unfold openS; simp [c2]
        rw [this, if_neg (by decide), if_neg (fun hh => c2 hh.2)]
    · have : openS t[j] = false := by unfold openS; simp at c1; simp [c1]
      rw [this, if_neg (by decide), if_neg (fun hh => c1 hh.1)]

theorem scan_told {t : List ND} (h : rightS t = true) {i : Nat} (hi : i < t.length) : scanS t i = scanL (toldS t) t[i].kids := by
  obtain ⟨hk, -, hl, -⟩ := right_facts h
  unfold scanS
  obtain ⟨m, hm⟩ : ∃ m, t.length = m + 1 := ⟨t.length - 1, by omega⟩
  have : scanF t t.length i = scanL (scanK t (t.length - 1)) t[i].kids := by
    rw [hm, scanF, getD_at hi]; rfl
  rw [this]
  refine scanL_congr fun z hz => ?_
  obtain ⟨k, rfl, h1, h2⟩ := hk i hi z (by rw [getD_at hi]; exact hz)
  rw [Int.toNat_natCast]
  exact told_scanK h (by omega) h2
end Go.Ab.Dirs
end
