/- Ways of nodes; a tree's cells put in their places. -/
import Derived.Test.YthbanbnmomcohaaGreatDoorM37
import Derived.Test.YthbanbnmomcohaaGreatDoorM30
set_option linter.all false
set_option linter.unusedSimpArgs false
set_option maxRecDepth 10000
noncomputable section
namespace Go.Ab.Dirs
open Go Go.Ab

theorem allStep_ne {t : List ND} {i j : Nat} {out : List Nat} (h : j ≠ i) : (allStep t i out).getD j 0 = out.getD j 0 := by
  unfold allStep
  have e : ∀ (l : List Nat) (w : Nat), (l.set i w).getD j 0 = l.getD j 0 := fun l w => by rw [List.getD_eq_getElem?_getD, List.getElem?_set_ne (Ne.symm h), ← List.getD_eq_getElem?_getD]
  split
  · split
    · rw [e, e]
    · rw [e]
  · rw [e]
theorem allG_old (t : List ND) : ∀ (m i j : Nat) (out : List Nat), j < i → (allG t m i out).getD j 0 = out.getD j 0
  | 0, _, _, _, _ => rfl
  | m + 1, i, j, out, h => by rw [allG, allG_old t m (i + 1) j _ (by omega), allStep_ne (by omega)]
theorem allStep_at {t : List ND} {j : Nat} {out : List Nat} (h : j < out.length) : (allStep t j out).getD j 0 = (if (t.getD j dN).kind = 1 then (match sheetD t j with | some w => w | none => out.getD (t.getD j dN).up.toNat 0) else out.getD (t.getD j dN).up.toNat 0) := by
  have hs : ∀ (l : List Nat) (w : Nat), j < l.length → (l.set j w).getD j 0 = w := fun l w h => by rw [List.getD_eq_getElem?_getD, List.getElem?_set_self h]; rfl
  unfold allStep
  by_cases hk : (t.getD j dN).kind = 1
  · rw [if_pos hk, if_pos hk]
    cases sheetD t j with
    | some w => exact hs _ _ (by rw [List.length_set]; exact h)
    | none => exact hs _ _ h
  · rw [if_neg hk, if_neg hk]
    exact hs _ _ h
/-- What a node's way is: its own, or its parent's. -/
theorem allG_at (t : List ND) : ∀ (m i j : Nat) (out : List Nat), i + m ≤ out.length → i ≤ j → j < i + m → (t.getD j dN).up.toNat < j →
    (allG t m i out).getD j 0 = (if (t.getD j dN).kind = 1 then (match sheetD t j with | some w => w | none => (allG t m i out).getD (t.getD j dN).up.toNat 0) else (allG t m i out).getD (t.getD j dN).up.toNat 0)
  | 0, i, j, out, _, h1, h2, _ => by omega
  | m + 1, i, j, out, hl, h1, h2, hu => by
    rw [allG]
    by_cases e : j = i
    · subst e
      have e1 : (allG t m (j + 1) (allStep t j out)).getD (t.getD j dN).up.toNat 0 = out.getD (t.getD j dN).up.toNat 0 := by
        rw [allG_old t m (j + 1) _ _ (by omega), allStep_ne (by omega)]
      rw [e1, allG_old t m (j + 1) j _ (by omega)]
      exact allStep_at (by omega)
    · exact allG_at t m (i + 1) j _ (by rw [allStep_len]; omega) (by omega) (by omega) hu
theorem allS_at {t : List ND} (h : rightS t = true) {j : Nat} (hj : 0 < j) (hjt : j < t.length) :
    (allS t).getD j 0 = (if (t.getD j dN).kind = 1 then (match sheetD t j with | some w => w | none => (allS t).getD (t.getD j dN).up.toNat 0) else (allS t).getD (t.getD j dN).up.toNat 0) := by
  obtain ⟨u, hu, hui⟩ := right_up h hj hjt
  unfold allS
  refine allG_at t (t.length - 1) 1 j _ (by simp; omega) (by omega) (by omega) ?_
  rw [getD_at hjt, hu]; simpa using hui
theorem putX_some : ∀ (i : Nat) (l vs : List AVal), i + vs.length ≤ l.length → putX i l vs = some (l.take i ++ (vs ++ l.drop (i + vs.length)))
  | 0, l, [], _ => by cases l <;> simp [putX]
  | 0, [], v :: vs, h => by simp at h
  | 0, x :: l, v :: vs, h => by
    have := putX_some 0 l vs (by simp at h ⊢; omega)
    unfold putX; rw [this]; simp
  | i + 1, [], [], h => by simp at h
  | i + 1, x :: l, [], h => by unfold putX; simp
  | i + 1, [], v :: vs, h => by simp at h
  | i + 1, x :: l, v :: vs, h => by
    have := putX_some i l (v :: vs) (by simp at h ⊢; omega)
    unfold putX; rw [this, show i + 1 + (v :: vs).length = (i + (v :: vs).length) + 1 by omega, List.drop_succ_cons]; rfl

theorem NodesC.set {σ : St} : ∀ {t : List ND} {cs : List AVal}, NodesC σ t cs → ∀ {i : Nat} (_ : i < t.length) {n : ND} {av kv : AVal} {xs : List AVal}, NodeC σ n av kv xs → NodesC σ (t.set i n) (cs.take (i * 6) ++ (xs ++ cs.drop (i * 6 + 6)))
  | _, _, .nil, i, hi, _, _, _, _, _ => by simp at hi
  | _, _, .cons (n := m) (t := t) (cs := cs) (ds := ds) h ht, 0, _, n, av, kv, xs, hn => by
    have hl : cs.length = 6 := by rw [h.1]; rfl
    have e : (cs ++ ds).drop 6 = ds := by rw [← hl]; exact List.drop_left
    simp only [Nat.zero_mul, List.take_zero, List.nil_append, Nat.zero_add, List.set_cons_zero]
    rw [e]
    exact .cons hn ht
  | _, _, .cons (n := m) (t := t) (cs := cs) (ds := ds) h ht, i + 1, hi, n, av, kv, xs, hn => by
    have hl : cs.length = 6 := by rw [h.1]; rfl
    have ih := NodesC.set ht (i := i) (by simpa using hi) hn
    have e1 : (cs ++ ds).take ((i + 1) * 6) = cs ++ ds.take (i * 6) := by
      rw [Nat.succ_mul, show i * 6 + 6 = cs.length + i * 6 by omega]
      exact List.take_length_add_append _
    have e2 : (cs ++ ds).drop ((i + 1) * 6 + 6) = ds.drop (i * 6 + 6) := by
      rw [Nat.succ_mul, show i * 6 + 6 + 6 = cs.length + (i * 6 + 6) by omega]
      exact List.drop_length_add_append _
    rw [e1, e2, List.set_cons_succ, List.append_assoc]
    exact .cons h ih
theorem NodesC.one {σ : St} {t : List ND} {cs : List AVal} (h : NodesC σ t cs) : allOne cs = true := by
  have app : ∀ a b : List AVal, allOne a = true → allOne b = true → allOne (a ++ b) = true := by
    intro a b
    induction a with
    | nil => intro _ h; exact h
    | cons x a ih =>
      intro h1 h2
      simp only [allOne, Bool.and_eq_true] at h1
      simp only [List.cons_append, allOne, Bool.and_eq_true]
      exact ⟨h1.1, ih h1.2 h2⟩
  induction h with
  | nil => rfl
  | cons hc _ ih =>
    refine app _ _ ?_ ih
    rw [hc.1]
    have o1 := hc.2.1.one
    have o2 := hc.2.2.one
    simp only [allOne, o1, o2, one_int, one_str, Bool.and_true]

theorem ap_tree {σ : St} {t : List ND} {tv : AVal} {cs : List AVal} (h : SlI σ 6 tv t.length cs) (hn : NodesC σ t cs) (hp : 0 < t.length) (hb : t.length ≤ 16384) :
    apS σ 36 6 96 .nils tv = some (.slice σ.next 0 t.length 6, σ.new (.cells false 36 cs)) := by
  obtain ⟨m, hm⟩ : ∃ m, t.length = m + 1 := ⟨t.length - 1, by omega⟩
  have h2 := h.2
  rw [hm] at h2
  unfold apS
  rw [h2]
  have h1 := NodesC.one hn
  simp only [h1]
  rw [if_pos ⟨by omega, trivial⟩, hm]

end Go.Ab.Dirs
end

set_option maxRecDepth 100000
noncomputable section
namespace Go.Ab.Dirs
open Go Go.Ab

/-- Two trees that are alike but for their texts. -/
structure Same (t u : List ND) : Prop where
  len : u.length = t.length
  kind : ∀ j, (u.getD j nd0).kind = (t.getD j nd0).kind
  name : ∀ j, (u.getD j nd0).name = (t.getD j nd0).name
  attrs : ∀ j, (u.getD j nd0).attrs = (t.getD j nd0).attrs
  up : ∀ j, (u.getD j nd0).up = (t.getD j nd0).up
  kids : ∀ j, (u.getD j nd0).kids = (t.getD j nd0).kids

section
variable {t u : List ND} (h : Same t u)
include h
theorem Same.walk (v : Nat) : ∀ f k, walkR u v f k = walkR t v f k
  | 0, k => rfl
  | f + 1, k => by rw [walkR, walkR, h.up, Same.walk v f]
theorem Same.cnt : ∀ i, cntAt u i = cntAt t i
  | 0 => by rw [cntAt, cntAt, h.len]
  | i + 1 => by rw [cntAt, cntAt, Same.cnt i, h.up]
theorem Same.bad (v : Nat) : upBad (u.getD v nd0) = upBad (t.getD v nd0) := by unfold upBad; rw [h.kind, h.name]
theorem Same.shaped (hS : ShapedP t) : ShapedP u := by
  refine ⟨?_, fun j h1 h2 => ?_, fun j h1 h2 => ?_, fun j h1 => ?_⟩
  · have := hS.head; rw [headS_eq] at this ⊢; rw [h.len, h.kind, h.up]; exact this
  · rw [h.len] at h2
    obtain ⟨v, h3, h4, h5, h6⟩ := (hS.ups j h1 h2).up
    exact ⟨v, by rw [h.up]; exact h3, h4, by rw [h.bad]; exact h5, by rw [h.walk]; exact h6⟩
  · rw [h.len] at h2
    obtain ⟨h3, h4⟩ := hS.kids j h1 h2
    exact ⟨by rw [h.cnt, h.up, h.kids]; exact h3, by rw [h.cnt, h.up, h.kids]; exact h4⟩
  · rw [h.len] at h1 ⊢
    rw [h.cnt, h.kids]; exact hS.all j h1
theorem Same.nest (k : Nat) : ∀ f v d free, nestR u k f v d free = nestR t k f v d free
  | 0, v, d, free => rfl
  | f + 1, v, d, free => by rw [nestR, nestR, h.name, h.up]; simp only [Same.nest k f]
theorem Same.nott (i : Nat) (hn : NoTT t i) : NoTT u i := by
  intro k h1 h2
  rw [h.kids] at h2 ⊢
  rw [h.kind, h.kind]; exact hn k h1 h2
theorem Same.open' (k : Nat) : openS (u.getD k nd0) = openS (t.getD k nd0) := by unfold openS; rw [h.kind, h.name, h.attrs]
end

def withD (t : List ND) (i : Nat) (w : List Nat) : List ND := t.set i { t.getD i nd0 with data := w }
theorem withD_len (t : List ND) (i : Nat) (w : List Nat) : (withD t i w).length = t.length := List.length_set
theorem withD_at {t : List ND} {i : Nat} (hi : i < t.length) (w : List Nat) : (withD t i w).getD i nd0 = { t.getD i nd0 with data := w } := by
  unfold withD; rw [List.getD_eq_getElem?_getD, List.getElem?_set_self hi]; rfl
theorem withD_ne {t : List ND} {i j : Nat} (h : j ≠ i) (w : List Nat) : (withD t i w).getD j nd0 = t.getD j nd0 := by
  unfold withD; rw [List.getD_eq_getElem?_getD, List.getElem?_set_ne (Ne.symm h), ← List.getD_eq_getElem?_getD]
theorem withD_same {t : List ND} {i : Nat} (hi : i < t.length) (w : List Nat) : Same t (withD t i w) := by
  have key : ∀ j, ∃ d, (withD t i w).getD j nd0 = { t.getD j nd0 with data := d } := by
    intro j
    by_cases h : j = i
    · subst h; exact ⟨w, withD_at hi w⟩
    · exact ⟨(t.getD j nd0).data, by rw [withD_ne h]⟩
  exact ⟨withD_len t i w, fun j => by obtain ⟨d, e⟩ := key j; rw [e], fun j => by obtain ⟨d, e⟩ := key j; rw [e], fun j => by obtain ⟨d, e⟩ := key j; rw [e], fun j => by obtain ⟨d, e⟩ := key j; rw [e], fun j => by obtain ⟨d, e⟩ := key j; rw [e]⟩
theorem withD_right {t : List ND} {i : Nat} {w : List Nat} (hR : rightS t = true) (hi : i < t.length) (hk : (t.getD i nd0).kind = 2) (hw0 : w ≠ []) (hw : wellS w = true) : rightS (withD t i w) = true := by
  have hP := rightP_iff.2 hR
  have hS := withD_same hi w
  refine rightP_iff.1 ⟨hS.shaped hP.sh, fun j hj => ?_, fun j hj => hS.nott j (hP.tt j (by rw [hS.len] at hj; exact hj))⟩
  rw [hS.len] at hj
  have hn := hP.node j hj
  by_cases h : j = i
  · subst h
    unfold nodeR at hn ⊢
    rw [withD_at hi]
    simp only
    rw [if_neg (by omega), if_neg (by omega), if_pos hk] at hn ⊢
    simp only [Bool.and_eq_true, Bool.not_eq_true', decide_eq_false_iff_not] at hn ⊢
    exact ⟨⟨hn.1.1, hw0⟩, hw⟩
  · have e : nodeR (withD t i w) j ((withD t i w).getD j nd0) = nodeR t j (t.getD j nd0) := by
      rw [withD_ne h]; unfold nodeR; rw [hS.nest]
    rw [e]; exact hn

/-! Outside. -/
theorem anc_mem {t : List ND} (hU : UpB t t.length) {j k : Nat} (hk : k < t.length) (h0 : 0 < k) (hu : (t.getD k nd0).up = (j : Int)) (hlt : j < k) {top : Nat} : top ∈ anc t k ↔ top = k ∨ top ∈ anc t j := by
  rw [anc_pos hU hk h0 hu hlt, List.mem_cons]
theorem kid_up {t : List ND} (hS : ShapedP t) {j : Nat} (hj : j < t.length) {z : Int} (hz : z ∈ (t.getD j nd0).kids) : ∃ k : Nat, z = (k : Int) ∧ 0 < k ∧ k < t.length ∧ j < k ∧ (t.getD k nd0).up = (j : Int) := by
  obtain ⟨x, hx, rfl⟩ := List.mem_iff_getElem.1 hz
  have hx2 : x < (cntAt t t.length).getD j 0 := by rw [hS.all j hj]; exact hx
  obtain ⟨k, h1, h2, h3, _, h5⟩ := cnt_slot t.length hS.kids (Nat.le_refl _) j x hx2
  obtain ⟨u, h6, h7⟩ := hS.upsR k h1 h2
  rw [getD_lt hx] at h5
  exact ⟨k, h5, h1, h2, by omega, by omega⟩
section
variable {t u : List ND} {at' top : Nat} (hS : Same t u) (hP : ShapedP t) (hd : ∀ j, j ≠ at' → (u.getD j nd0).data = (t.getD j nd0).data)
  (htop : top ∈ anc t at') (hne : top ≠ at') (hcl : openS (t.getD top nd0) = false)
include hS hP hd htop hne hcl
theorem scan_out : ∀ f j, j < t.length → top ∉ anc t j → scanF u f j = scanF t f j
  | 0, j, _, _ => rfl
  | f + 1, j, hj, hn => by
    have hU : UpB t t.length := fun a b c => hP.upsR a b c
    rw [scanF, scanF]
    have e : (u.getD j dN).kids = (t.getD j dN).kids := hS.kids j
    rw [e]
    refine scanL_congr fun z hz => ?_
    obtain ⟨k, rfl, h0, hk, hjk, hu⟩ := kid_up hP hj hz
    rw [Int.toNat_natCast]
    have ho : openS (u.getD k dN) = openS (t.getD k dN) := hS.open' k
    rw [ho]
    by_cases hkt : k = top
    · subst hkt
      rw [show openS (t.getD k dN) = false from hcl, show (u.getD k dN).data = (t.getD k dN).data from hd k hne]; rfl
    · have hnk : top ∉ anc t k := by
        rw [anc_mem hU hk h0 hu hjk]; rintro (h | h)
        · exact hkt h.symm
        · exact hn h
      have hka : k ≠ at' := by rintro rfl; exact hnk htop
      rw [scan_out f k hk hnk, show (u.getD k dN).data = (t.getD k dN).data from hd k hka]
theorem sheet_out {j : Nat} (hj : j < t.length) (hn : top ∉ anc t j) : sheetD u j = sheetD t j := by
  have e1 : (u.getD j dN).attrs = (t.getD j dN).attrs := hS.attrs j
  have e2 : (u.getD j dN).name = (t.getD j dN).name := hS.name j
  unfold sheetD scanS
  rw [e1, e2, hS.len, scan_out hS hP hd htop hne hcl t.length j hj hn]
end
theorem allG_zero (t : List ND) : ∀ (m i : Nat) (out : List Nat), 0 < i → (allG t m i out).getD 0 0 = out.getD 0 0
  | 0, i, out, _ => rfl
  | m + 1, i, out, hi => by
    show (allG t m (i + 1) (allStep t i out)).getD 0 0 = _
    rw [allG_zero t m (i + 1) _ (by omega)]
    have key : ∀ (l : List Nat) (x : Nat), (l.set i x).getD 0 0 = l.getD 0 0 := fun l x => by
      rw [List.getD_eq_getElem?_getD, List.getElem?_set_ne (by omega), ← List.getD_eq_getElem?_getD]
    unfold allStep
    repeat' split
    all_goals simp only [key]
theorem allS_zero (t : List ND) : (allS t).getD 0 0 = 0 := by
  unfold allS
  rw [allG_zero t _ 1 _ (by decide)]
  cases t with
  | nil => rfl
  | cons a l => rfl
/-- No way outside changes. -/
theorem ways_out {t u : List ND} {at' top : Nat} (hS : Same t u) (hRt : rightS t = true) (hRu : rightS u = true) (hd : ∀ j, j ≠ at' → (u.getD j nd0).data = (t.getD j nd0).data) (htop : top ∈ anc t at') (hne : top ≠ at') (hcl : openS (t.getD top nd0) = false) :
    ∀ j, j < t.length → top ∉ anc t j → (allS u).getD j 0 = (allS t).getD j 0 := by
  have hP := (rightP_iff.2 hRt).sh
  have hU : UpB t t.length := fun a b c => hP.upsR a b c
  intro j
  induction j using Nat.strongRecOn with
  | ind j ih =>
    intro hj hn
    rcases Nat.eq_zero_or_pos j with h0 | h0
    · subst h0; rw [allS_zero, allS_zero]
    · obtain ⟨v, hv, hlt⟩ := hP.upsR j h0 hj
      have hnv : top ∉ anc t v := fun h => hn ((anc_mem hU hj h0 hv hlt).2 (.inr h))
      rw [allS_at hRu h0 (by rw [hS.len]; exact hj), allS_at hRt h0 hj]
      rw [show (u.getD j dN).kind = (t.getD j dN).kind from hS.kind j, show (u.getD j dN).up = (t.getD j dN).up from hS.up j, show (t.getD j dN).up = (v : Int) from hv, Int.toNat_natCast, sheet_out hS hP hd htop hne hcl hj hn, ih v hlt (by omega) hnv]
end Go.Ab.Dirs
end

set_option maxRecDepth 100000
noncomputable section
namespace Go.Ab.Dirs
open Go Go.Ab

theorem anc_up {t : List ND} (hU : UpsR t) {i : Nat} (hi : i < t.length) (h0 : 0 < i) (top : Nat) : decide (top ∈ anc t i) = (decide (top = i) || decide (top ∈ anc t (t.getD i nd0).up.toNat)) := by
  obtain ⟨u, hu, hlt⟩ := hU i h0 hi
  rw [hu, Int.toNat_natCast, Bool.eq_iff_iff]
  simp only [Bool.or_eq_true, decide_eq_true_eq]
  exact anc_mem (fun a b c => hU a b c) hi h0 hu hlt
set_option maxHeartbeats 8000000 in
theorem below_ok (q : Bool) {σ : St} {t : List ND} {tv : AVal} (ht : TreeI σ tv t) (hU : UpsR t) (h00 : (t.getD 0 nd0).up = -1) {i : Nat} (hi : i < t.length) (top : Nat) : Cw TS q 23 [tv, .int .i64 (i : Int), .int .i64 (top : Int)] σ = some (.bool (decide (top ∈ anc t i)), σ) := by
  have key : CW TS q 23 [tv, .int .i64 (i : Int), .int .i64 (top : Int)] σ fun v s => v = .bool (decide (top ∈ anc t i)) ∧ s = σ := by
    refine CW_of fn23 rfl ?_
    repeat' (first | ((first | apply RG_step | apply DG_step | apply DG_read); focus (intro hgd; have hgd2 := hgd; (try simp only [sB] at hgd); (try simp only [sP] at hgd2); simp (maxSteps := 1000000) (disch := (first | omega | assumption | exact Fr.refl _)) only [hgd, sR, reduceIte, Nat.reduceEqDiff, Int.reduceLT, Int.reduceLE, Int.reduceEq, Int.reduceNeg, reduceCtorEq, Nat.reduceAdd, Int.reduceToNat, c23]; exact StepIs_refl)) | ((first | refine Br_intro ?_ ?_ | refine BrB_intro ?_ ?_) <;> intro hbr hbe <;> simp (maxSteps := 1000000) (disch := (first | omega | assumption | exact Fr.refl _)) only [hbe, sR, reduceIte, Nat.reduceEqDiff, Int.reduceLT, Int.reduceLE, Int.reduceEq, Int.reduceNeg, reduceCtorEq, Nat.reduceAdd, Int.reduceToNat, c23] <;> clear hbe) | simp (maxSteps := 1000000) (disch := (first | omega | assumption | exact Fr.refl _)) only [sR, reduceIte, Nat.reduceEqDiff, Int.reduceLT, Int.reduceLE, Int.reduceEq, Int.reduceNeg, reduceCtorEq, Nat.reduceAdd, Int.reduceToNat, c23])
    refine W_loop (fun n e s => s = σ ∧ V e 0 = tv ∧ V e 2 = .int .i64 (top : Int) ∧ ((∃ k : Nat, n = k + 1 ∧ k < t.length ∧ V e 1 = .int .i64 (k : Int) ∧ decide (top ∈ anc t i) = decide (top ∈ anc t k)) ∨ (n = 0 ∧ V e 1 = .int .i64 (-1) ∧ decide (top ∈ anc t i) = false))) (i + 1) ⟨rfl, by simp only [sV, Nat.reduceEqDiff, reduceIte, Nat.reduceAdd], by simp only [sV, Nat.reduceEqDiff, reduceIte, Nat.reduceAdd], .inl ⟨i, rfl, hi, by simp only [sV, Nat.reduceEqDiff, reduceIte, Nat.reduceAdd], rfl⟩⟩ ?_
    rintro n e s ⟨rfl, v0, v2, ⟨k, rfl, hk, v1, hN⟩ | ⟨rfl, v1, hN⟩⟩
    · rcases Nat.eq_zero_or_pos k with h0 | h0
      · subst h0
        rw [anc_zero] at hN
        repeat' (first | ((first | apply RG_step | apply DG_step | apply DG_read); focus (intro hgd; have hgd2 := hgd; (try simp only [sB] at hgd); (try simp only [sP] at hgd2); simp (maxSteps := 1000000) (disch := (first | omega | assumption | exact Fr.refl _)) only [hgd, sR, reduceIte, Nat.reduceEqDiff, Int.reduceLT, Int.reduceLE, Int.reduceEq, Int.reduceNeg, reduceCtorEq, Nat.reduceAdd, Int.reduceToNat, L23_1, v0, v1, v2, ht.ixz, ht.a4, ht.n4, h00]; exact StepIs_refl)) | ((first | refine Br_intro ?_ ?_ | refine BrB_intro ?_ ?_) <;> intro hbr hbe <;> simp (maxSteps := 1000000) (disch := (first | omega | assumption | exact Fr.refl _)) only [hbe, sR, reduceIte, Nat.reduceEqDiff, Int.reduceLT, Int.reduceLE, Int.reduceEq, Int.reduceNeg, reduceCtorEq, Nat.reduceAdd, Int.reduceToNat, L23_1, v0, v1, v2, ht.ixz, ht.a4, ht.n4, h00] <;> clear hbe) | simp (maxSteps := 1000000) (disch := (first | omega | assumption | exact Fr.refl _)) only [sR, reduceIte, Nat.reduceEqDiff, Int.reduceLT, Int.reduceLE, Int.reduceEq, Int.reduceNeg, reduceCtorEq, Nat.reduceAdd, Int.reduceToNat, L23_1, v0, v1, v2, ht.ixz, ht.a4, ht.n4, h00])
        · rw [hN]; simp; omega
        · refine ⟨0, by omega, rfl, by simp only [sV, Nat.reduceEqDiff, reduceIte, Nat.reduceAdd, v0], by simp only [sV, Nat.reduceEqDiff, reduceIte, Nat.reduceAdd, v2], .inr ⟨rfl, by simp only [sV, Nat.reduceEqDiff, reduceIte, Nat.reduceAdd, h00], ?_⟩⟩
          rw [hN]; simp; omega
      · obtain ⟨u, hu, hlt⟩ := hU k h0 hk
        rw [anc_up hU hk h0, hu, Int.toNat_natCast] at hN
        repeat' (first | ((first | apply RG_step | apply DG_step | apply DG_read); focus (intro hgd; have hgd2 := hgd; (try simp only [sB] at hgd); (try simp only [sP] at hgd2); simp (maxSteps := 1000000) (disch := (first | omega | assumption | exact Fr.refl _)) only [hgd, sR, reduceIte, Nat.reduceEqDiff, Int.reduceLT, Int.reduceLE, Int.reduceEq, Int.reduceNeg, reduceCtorEq, Nat.reduceAdd, Int.reduceToNat, L23_1, v0, v1, v2, ht.ixz, ht.a4, ht.n4, hu]; exact StepIs_refl)) | ((first | refine Br_intro ?_ ?_ | refine BrB_intro ?_ ?_) <;> intro hbr hbe <;> simp (maxSteps := 1000000) (disch := (first | omega | assumption | exact Fr.refl _)) only [hbe, sR, reduceIte, Nat.reduceEqDiff, Int.reduceLT, Int.reduceLE, Int.reduceEq, Int.reduceNeg, reduceCtorEq, Nat.reduceAdd, Int.reduceToNat, L23_1, v0, v1, v2, ht.ixz, ht.a4, ht.n4, hu] <;> clear hbe) | simp (maxSteps := 1000000) (disch := (first | omega | assumption | exact Fr.refl _)) only [sR, reduceIte, Nat.reduceEqDiff, Int.reduceLT, Int.reduceLE, Int.reduceEq, Int.reduceNeg, reduceCtorEq, Nat.reduceAdd, Int.reduceToNat, L23_1, v0, v1, v2, ht.ixz, ht.a4, ht.n4, hu])
        · rw [hN, decide_eq_true (show top = k by omega)]; rfl
        · rw [decide_eq_false (show ¬ top = k by omega), Bool.false_or] at hN
          exact ⟨u + 1, by omega, rfl, by simp only [sV, Nat.reduceEqDiff, reduceIte, Nat.reduceAdd, v0], by simp only [sV, Nat.reduceEqDiff, reduceIte, Nat.reduceAdd, v2], .inl ⟨u, rfl, by omega, by simp only [sV, Nat.reduceEqDiff, reduceIte, Nat.reduceAdd, hu], hN⟩⟩
    · repeat' (first | ((first | apply RG_step | apply DG_step | apply DG_read); focus (intro hgd; have hgd2 := hgd; (try simp only [sB] at hgd); (try simp only [sP] at hgd2); simp (maxSteps := 1000000) (disch := (first | omega | assumption | exact Fr.refl _)) only [hgd, sR, reduceIte, Nat.reduceEqDiff, Int.reduceLT, Int.reduceLE, Int.reduceEq, Int.reduceNeg, reduceCtorEq, Nat.reduceAdd, Int.reduceToNat, L23_1, v0, v1, v2]; exact StepIs_refl)) | ((first | refine Br_intro ?_ ?_ | refine BrB_intro ?_ ?_) <;> intro hbr hbe <;> simp (maxSteps := 1000000) (disch := (first | omega | assumption | exact Fr.refl _)) only [hbe, sR, reduceIte, Nat.reduceEqDiff, Int.reduceLT, Int.reduceLE, Int.reduceEq, Int.reduceNeg, reduceCtorEq, Nat.reduceAdd, Int.reduceToNat, L23_1, v0, v1, v2] <;> clear hbe) | simp (maxSteps := 1000000) (disch := (first | omega | assumption | exact Fr.refl _)) only [sR, reduceIte, Nat.reduceEqDiff, Int.reduceLT, Int.reduceLE, Int.reduceEq, Int.reduceNeg, reduceCtorEq, Nat.reduceAdd, Int.reduceToNat, L23_1, v0, v1, v2])
      rw [hN]
  obtain ⟨v, s, h1, rfl, rfl⟩ := CW_iff.1 key
  exact h1

/-- The texts among the first nodes. -/
def txts (t : List ND) : Nat → List Nat
  | 0 => []
  | i + 1 => if (t.getD i nd0).kind = 2 then txts t i ++ [i] else txts t i
theorem txts_mem {t : List ND} : ∀ {i x : Nat}, x ∈ txts t i → x < i ∧ (t.getD x nd0).kind = 2
  | 0, x, h => by simp [txts] at h
  | i + 1, x, h => by
    rw [txts] at h
    split at h
    · rcases List.mem_append.1 h with h | h
      · have := txts_mem h; exact ⟨by omega, this.2⟩
      · simp at h; subst h; exact ⟨by omega, by assumption⟩
    · have := txts_mem h; exact ⟨by omega, this.2⟩
theorem txts_len {t : List ND} : ∀ i, (txts t i).length ≤ i
  | 0 => Nat.le_refl _
  | i + 1 => by
    rw [txts]; have := txts_len (t := t) i
    split
    · simp; omega
    · omega
def intV (l : List Nat) : List AVal := l.map fun x : Nat => AVal.int .i64 (x : Int)
section
variable {σ s0 : St} {t : List ND} {tv : AVal} {e0 : Env}
set_option maxHeartbeats 8000000 in
theorem iso_texts {x1 x2 : AVal} (ht : TreeI σ tv t) (hf : Fr σ s0) (hN : t.length ≤ 300) (v0 : V e0 0 = tv) (v1 : V e0 1 = x1) (v2 : V e0 2 = x2) (v7 : V e0 7 = .nils) (v8 : V e0 8 = .int .i64 0) :
    W TS false (.loop L7_4) e0 s0 fun o e s => o = .exit 0 ∧ Fr s0 s ∧ V e 0 = tv ∧ V e 1 = x1 ∧ V e 2 = x2 ∧ ∃ v, V e 7 = v ∧ SlI s 1 v (txts t t.length).length (intV (txts t t.length)) := by
  refine W_loop (fun n e s => ∃ (i : Nat) (v : AVal), i + n = t.length ∧ Fr s0 s ∧ V e 0 = tv ∧ V e 1 = x1 ∧ V e 2 = x2 ∧ V e 7 = v ∧ V e 8 = .int .i64 (i : Int) ∧ OwnV s 3 v (intV (txts t i)) s0.next) t.length ⟨0, .nils, by omega, Fr.refl _, v0, v1, v2, v7, v8, ⟨Nat.le_refl _, .inl ⟨rfl, rfl⟩⟩⟩ ?_
  clear v0 v1 v2
  rintro n e s ⟨i, v, hin, hf2, v0, v1, v2, w7, w8, hO⟩
  have hf3 := hf.trans hf2
  repeat' (first | ((first | apply RG_step | apply DG_step | apply DG_read); focus (intro hgd; have hgd2 := hgd; (try simp only [sB] at hgd); (try simp only [sP] at hgd2); simp (maxSteps := 1000000) (disch := (first | omega | assumption | exact Fr.refl _)) only [hgd, sR, reduceIte, Nat.reduceEqDiff, Int.reduceLT, Int.reduceLE, Int.reduceEq, Int.reduceNeg, reduceCtorEq, Nat.reduceAdd, Int.reduceToNat, L7_4, B7_11, v0, w7, w8, ht.len]; exact StepIs_refl)) | ((first | refine Br_intro ?_ ?_ | refine BrB_intro ?_ ?_) <;> intro hbr hbe <;> simp (maxSteps := 1000000) (disch := (first | omega | assumption | exact Fr.refl _)) only [hbe, sR, reduceIte, Nat.reduceEqDiff, Int.reduceLT, Int.reduceLE, Int.reduceEq, Int.reduceNeg, reduceCtorEq, Nat.reduceAdd, Int.reduceToNat, L7_4, B7_11, v0, w7, w8, ht.len] <;> clear hbe) | simp (maxSteps := 1000000) (disch := (first | omega | assumption | exact Fr.refl _)) only [sR, reduceIte, Nat.reduceEqDiff, Int.reduceLT, Int.reduceLE, Int.reduceEq, Int.reduceNeg, reduceCtorEq, Nat.reduceAdd, Int.reduceToNat, L7_4, B7_11, v0, w7, w8, ht.len])
  · have hi : i < t.length := by omega
    repeat' (first | ((first | apply RG_step | apply DG_step | apply DG_read); focus (intro hgd; have hgd2 := hgd; (try simp only [sB] at hgd); (try simp only [sP] at hgd2); simp (maxSteps := 1000000) (disch := (first | omega | assumption | exact Fr.refl _)) only [hgd, sR, reduceIte, Nat.reduceEqDiff, Int.reduceLT, Int.reduceLE, Int.reduceEq, Int.reduceNeg, reduceCtorEq, Nat.reduceAdd, Int.reduceToNat, B7_12, B7_13, v0, w7, w8, ht.ixz, ht.a0, ht.n0]; exact StepIs_refl)) | ((first | refine Br_intro ?_ ?_ | refine BrB_intro ?_ ?_) <;> intro hbr hbe <;> simp (maxSteps := 1000000) (disch := (first | omega | assumption | exact Fr.refl _)) only [hbe, sR, reduceIte, Nat.reduceEqDiff, Int.reduceLT, Int.reduceLE, Int.reduceEq, Int.reduceNeg, reduceCtorEq, Nat.reduceAdd, Int.reduceToNat, B7_12, B7_13, v0, w7, w8, ht.ixz, ht.a0, ht.n0] <;> clear hbe) | simp (maxSteps := 1000000) (disch := (first | omega | assumption | exact Fr.refl _)) only [sR, reduceIte, Nat.reduceEqDiff, Int.reduceLT, Int.reduceLE, Int.reduceEq, Int.reduceNeg, reduceCtorEq, Nat.reduceAdd, Int.reduceToNat, B7_12, B7_13, v0, w7, w8, ht.ixz, ht.a0, ht.n0])
    · have hk : (t.getD i nd0).kind = 2 := by omega
      obtain ⟨u2, s3, h1, h2, h3, _⟩ := ap_v (bytes := 8) (hO.fr (Fr.new s _)) (x := .int .i64 (i : Int)) rfl (St.get_new_same _ _) (by have := txts_len (t := t) i; simp [intV]; omega)
      repeat' (first | ((first | apply RG_step | apply DG_step | apply DG_read); focus (intro hgd; have hgd2 := hgd; (try simp only [sB] at hgd); (try simp only [sP] at hgd2); simp (maxSteps := 1000000) (disch := (first | omega | assumption | exact Fr.refl _)) only [hgd, sR, reduceIte, Nat.reduceEqDiff, Int.reduceLT, Int.reduceLE, Int.reduceEq, Int.reduceNeg, reduceCtorEq, Nat.reduceAdd, Int.reduceToNat, B7_14, w7, w8, opBuildSlice_s, List.map_cons, List.map_nil, bsS, fillL_int1, opAppend_s, h1, w_add1]; exact StepIs_refl)) | ((first | refine Br_intro ?_ ?_ | refine BrB_intro ?_ ?_) <;> intro hbr hbe <;> simp (maxSteps := 1000000) (disch := (first | omega | assumption | exact Fr.refl _)) only [hbe, sR, reduceIte, Nat.reduceEqDiff, Int.reduceLT, Int.reduceLE, Int.reduceEq, Int.reduceNeg, reduceCtorEq, Nat.reduceAdd, Int.reduceToNat, B7_14, w7, w8, opBuildSlice_s, List.map_cons, List.map_nil, bsS, fillL_int1, opAppend_s, h1, w_add1] <;> clear hbe) | simp (maxSteps := 1000000) (disch := (first | omega | assumption | exact Fr.refl _)) only [sR, reduceIte, Nat.reduceEqDiff, Int.reduceLT, Int.reduceLE, Int.reduceEq, Int.reduceNeg, reduceCtorEq, Nat.reduceAdd, Int.reduceToNat, B7_14, w7, w8, opBuildSlice_s, List.map_cons, List.map_nil, bsS, fillL_int1, opAppend_s, h1, w_add1])
      exact ⟨n - 1, by omega, i + 1, u2, by omega, h3 s0 (hf2.news _) (Nat.le_refl _), by simp only [sV, Nat.reduceEqDiff, reduceIte, Nat.reduceAdd, v0], by simp only [sV, Nat.reduceEqDiff, reduceIte, Nat.reduceAdd, v1], by simp only [sV, Nat.reduceEqDiff, reduceIte, Nat.reduceAdd, v2], by simp only [sV, Nat.reduceEqDiff, reduceIte, Nat.reduceAdd], by simp only [sV, Nat.reduceEqDiff, reduceIte, Nat.reduceAdd], by rw [txts, if_pos hk, intV, List.map_append]; exact h2⟩
    · have hk : ¬ (t.getD i nd0).kind = 2 := by omega
      repeat' (first | ((first | apply RG_step | apply DG_step | apply DG_read); focus (intro hgd; have hgd2 := hgd; (try simp only [sB] at hgd); (try simp only [sP] at hgd2); simp (maxSteps := 1000000) (disch := (first | omega | assumption | exact Fr.refl _)) only [hgd, sR, reduceIte, Nat.reduceEqDiff, Int.reduceLT, Int.reduceLE, Int.reduceEq, Int.reduceNeg, reduceCtorEq, Nat.reduceAdd, Int.reduceToNat, B7_14, w7, w8, w_add1]; exact StepIs_refl)) | ((first | refine Br_intro ?_ ?_ | refine BrB_intro ?_ ?_) <;> intro hbr hbe <;> simp (maxSteps := 1000000) (disch := (first | omega | assumption | exact Fr.refl _)) only [hbe, sR, reduceIte, Nat.reduceEqDiff, Int.reduceLT, Int.reduceLE, Int.reduceEq, Int.reduceNeg, reduceCtorEq, Nat.reduceAdd, Int.reduceToNat, B7_14, w7, w8, w_add1] <;> clear hbe) | simp (maxSteps := 1000000) (disch := (first | omega | assumption | exact Fr.refl _)) only [sR, reduceIte, Nat.reduceEqDiff, Int.reduceLT, Int.reduceLE, Int.reduceEq, Int.reduceNeg, reduceCtorEq, Nat.reduceAdd, Int.reduceToNat, B7_14, w7, w8, w_add1])
      exact ⟨n - 1, by omega, i + 1, v, by omega, hf2, by simp only [sV, Nat.reduceEqDiff, reduceIte, Nat.reduceAdd, v0], by simp only [sV, Nat.reduceEqDiff, reduceIte, Nat.reduceAdd, v1], by simp only [sV, Nat.reduceEqDiff, reduceIte, Nat.reduceAdd, v2], by simp only [sV, Nat.reduceEqDiff, reduceIte, Nat.reduceAdd, w7], by simp only [sV, Nat.reduceEqDiff, reduceIte, Nat.reduceAdd], by rw [txts, if_neg hk]; exact hO⟩
  · have hO := hO.sl
    rw [show i = t.length by omega, intV, List.length_map] at hO
    exact ⟨hf2, v1, v2, v, rfl, hO⟩
end
end Go.Ab.Dirs
end

set_option maxRecDepth 100000
noncomputable section
namespace Go.Ab.Dirs
open Go Go.Ab

section
variable {σ s0 : St} {t : List ND} {tv : AVal} {e0 : Env}
set_option maxHeartbeats 16000000 in
/-- Each node's way is the sheet's, or its parent's. -/
theorem iso_sheets {x1 x2 x7 : AVal} (ht : TreeI σ tv t) (hwf : ∀ n ∈ t, NWF n) (hR : rightS t = true) (hf : Fr σ s0) (hN : t.length ≤ 300) {b : Nat} (hO : OwnB s0 b (allS t)) (hal : (allS t).length = t.length)
    (v0 : V e0 0 = tv) (v1 : V e0 1 = x1) (v2 : V e0 2 = x2) (v7 : V e0 7 = x7) (v9 : V e0 9 = .slice b 0 t.length 1) (v11 : V e0 11 = .int .i64 1) (hp : 0 < t.length) :
    W TS false (.loop L7_3) e0 s0 fun o e s => o = .exit 2 ∧ Fr s0 s ∧ V e 0 = tv ∧ V e 1 = x1 ∧ V e 2 = x2 ∧ V e 7 = x7 ∧ V e 9 = .slice b 0 t.length 1 := by
  have hP := rightP_iff.2 hR
  refine W_loop (fun n e s => ∃ i : Nat, i + n = t.length ∧ 0 < i ∧ Fr s0 s ∧ V e 0 = tv ∧ V e 1 = x1 ∧ V e 2 = x2 ∧ V e 7 = x7 ∧ V e 9 = .slice b 0 t.length 1 ∧ V e 11 = .int .i64 (i : Int)) (t.length - 1) ⟨1, by omega, by decide, Fr.refl _, v0, v1, v2, v7, v9, v11⟩ ?_
  clear v0 v1 v2 v7 v9 v11
  rintro n e s ⟨i, hin, hi0, hf2, w0, w1, w2, w7, w9, w11⟩
  have hf3 := hf.trans hf2
  repeat' (first | ((first | apply RG_step | apply DG_step | apply DG_read); focus (intro hgd; have hgd2 := hgd; (try simp only [sB] at hgd); (try simp only [sP] at hgd2); simp (maxSteps := 1000000) (disch := (first | omega | assumption | exact Fr.refl _)) only [hgd, sR, reduceIte, Nat.reduceEqDiff, Int.reduceLT, Int.reduceLE, Int.reduceEq, Int.reduceNeg, reduceCtorEq, Nat.reduceAdd, Int.reduceToNat, L7_3, B7_6, w0, w11, ht.len]; exact StepIs_refl)) | ((first | refine Br_intro ?_ ?_ | refine BrB_intro ?_ ?_) <;> intro hbr hbe <;> simp (maxSteps := 1000000) (disch := (first | omega | assumption | exact Fr.refl _)) only [hbe, sR, reduceIte, Nat.reduceEqDiff, Int.reduceLT, Int.reduceLE, Int.reduceEq, Int.reduceNeg, reduceCtorEq, Nat.reduceAdd, Int.reduceToNat, L7_3, B7_6, w0, w11, ht.len] <;> clear hbe) | simp (maxSteps := 1000000) (disch := (first | omega | assumption | exact Fr.refl _)) only [sR, reduceIte, Nat.reduceEqDiff, Int.reduceLT, Int.reduceLE, Int.reduceEq, Int.reduceNeg, reduceCtorEq, Nat.reduceAdd, Int.reduceToNat, L7_3, B7_6, w0, w11, ht.len])
  · have hi : i < t.length := by omega
    obtain ⟨u, hu, hlt⟩ := hP.sh.upsR i hi0 hi
    have hway := allS_at hR hi0 hi
    rw [show (t.getD i dN).up = (u : Int) from hu, Int.toNat_natCast] at hway
    repeat' (first | ((first | apply RG_step | apply DG_step | apply DG_read); focus (intro hgd; have hgd2 := hgd; (try simp only [sB] at hgd); (try simp only [sP] at hgd2); simp (maxSteps := 1000000) (disch := (first | omega | assumption | exact Fr.refl _)) only [hgd, sR, reduceIte, Nat.reduceEqDiff, Int.reduceLT, Int.reduceLE, Int.reduceEq, Int.reduceNeg, reduceCtorEq, Nat.reduceAdd, Int.reduceToNat, B7_9, B7_7, w0, w11]; exact StepIs_refl)) | ((first | refine Br_intro ?_ ?_ | refine BrB_intro ?_ ?_) <;> intro hbr hbe <;> simp (maxSteps := 1000000) (disch := (first | omega | assumption | exact Fr.refl _)) only [hbe, sR, reduceIte, Nat.reduceEqDiff, Int.reduceLT, Int.reduceLE, Int.reduceEq, Int.reduceNeg, reduceCtorEq, Nat.reduceAdd, Int.reduceToNat, B7_9, B7_7, w0, w11] <;> clear hbe) | simp (maxSteps := 1000000) (disch := (first | omega | assumption | exact Fr.refl _)) only [sR, reduceIte, Nat.reduceEqDiff, Int.reduceLT, Int.reduceLE, Int.reduceEq, Int.reduceNeg, reduceCtorEq, Nat.reduceAdd, Int.reduceToNat, B7_9, B7_7, w0, w11])
    refine Bd_call (pSheet_ok (ht.fr hf3) hwf (Fr.refl _)) ?_
    rintro _ s1 ⟨hf4, rfl⟩
    have hO1 := (hO.fr hf2).fr hf4
    have hf5 := hf3.trans hf4
    have fin : ∀ e' : Env, (V e' 0 = tv ∧ V e' 1 = x1 ∧ V e' 2 = x2 ∧ V e' 7 = x7 ∧ V e' 9 = .slice b 0 t.length 1) → V e' 11 = .int .i64 ((i + 1 : Nat) : Int) → ∃ m, m < n ∧ ∃ i : Nat, i + m = t.length ∧ 0 < i ∧ Fr s0 s1 ∧ V e' 0 = tv ∧ V e' 1 = x1 ∧ V e' 2 = x2 ∧ V e' 7 = x7 ∧ V e' 9 = .slice b 0 t.length 1 ∧ V e' 11 = .int .i64 (i : Int) := by
      rintro e' ⟨a, b, c, d, f⟩ h2
      exact ⟨n - 1, by omega, i + 1, by omega, by omega, hf2.trans hf4, a, b, c, d, f, h2⟩
    have hel : elemS t (i : Int) = decide ((t.getD i nd0).kind = 1) := by
      unfold elemS
      rw [hR, decide_eq_true (show (0 : Int) < (i : Int) by omega), decide_eq_true (show (i : Int) < (t.length : Int) by omega), Int.toNat_natCast, Bool.and_true]; rfl
    by_cases hk : (t.getD i nd0).kind = 1
    · rw [if_pos (show (t.getD i dN).kind = 1 from hk)] at hway
      rw [decide_eq_true hk] at hel
      cases hd : sheetD t i with
      | some w =>
        rw [hd] at hway
        have hway : (allS t).getD i 0 = w := hway
        repeat' (first | ((first | apply RG_step | apply DG_step | apply DG_read); focus (intro hgd; have hgd2 := hgd; (try simp only [sB] at hgd); (try simp only [sP] at hgd2); simp (maxSteps := 1000000) (disch := (first | omega | assumption | exact Fr.refl _)) only [hgd, sR, reduceIte, Nat.reduceEqDiff, Int.reduceLT, Int.reduceLE, Int.reduceEq, Int.reduceNeg, reduceCtorEq, Nat.reduceAdd, Int.reduceToNat, hel, hd, sheetV, opExtract, B7_8, w0, w9, w11, Int.toNat_natCast, Option.getD_some, Option.isSome_some, ixS_sl, hO1.ld, Nat.mul_one, hway, B7_10, w_add1]; exact StepIs_refl)) | ((first | refine Br_intro ?_ ?_ | refine BrB_intro ?_ ?_) <;> intro hbr hbe <;> simp (maxSteps := 1000000) (disch := (first | omega | assumption | exact Fr.refl _)) only [hbe, sR, reduceIte, Nat.reduceEqDiff, Int.reduceLT, Int.reduceLE, Int.reduceEq, Int.reduceNeg, reduceCtorEq, Nat.reduceAdd, Int.reduceToNat, hel, hd, sheetV, opExtract, B7_8, w0, w9, w11, Int.toNat_natCast, Option.getD_some, Option.isSome_some, ixS_sl, hO1.ld, Nat.mul_one, hway, B7_10, w_add1] <;> clear hbe) | simp (maxSteps := 1000000) (disch := (first | omega | assumption | exact Fr.refl _)) only [sR, reduceIte, Nat.reduceEqDiff, Int.reduceLT, Int.reduceLE, Int.reduceEq, Int.reduceNeg, reduceCtorEq, Nat.reduceAdd, Int.reduceToNat, hel, hd, sheetV, opExtract, B7_8, w0, w9, w11, Int.toNat_natCast, Option.getD_some, Option.isSome_some, ixS_sl, hO1.ld, Nat.mul_one, hway, B7_10, w_add1])
        exact fin _ (by simp only [sV, Nat.reduceEqDiff, reduceIte, Nat.reduceAdd, w0, w1, w2, w7, w9, and_self]) (by simp only [sV, Nat.reduceEqDiff, reduceIte, Nat.reduceAdd])
      | none =>
        rw [hd] at hway
        have hway : (allS t).getD i 0 = (allS t).getD u 0 := hway
        repeat' (first | ((first | apply RG_step | apply DG_step | apply DG_read); focus (intro hgd; have hgd2 := hgd; (try simp only [sB] at hgd); (try simp only [sP] at hgd2); simp (maxSteps := 1000000) (disch := (first | omega | assumption | exact Fr.refl _)) only [hgd, sR, reduceIte, Nat.reduceEqDiff, Int.reduceLT, Int.reduceLE, Int.reduceEq, Int.reduceNeg, reduceCtorEq, Nat.reduceAdd, Int.reduceToNat, hel, hd, sheetV, opExtract, B7_8, w0, w9, w11, Int.toNat_natCast, Option.getD_none, Option.isSome_none, ixS_sl, hO1.ld, Nat.mul_one, hway, B7_10, w_add1, ht.ixz, ht.a4, ht.n4, hu]; exact StepIs_refl)) | ((first | refine Br_intro ?_ ?_ | refine BrB_intro ?_ ?_) <;> intro hbr hbe <;> simp (maxSteps := 1000000) (disch := (first | omega | assumption | exact Fr.refl _)) only [hbe, sR, reduceIte, Nat.reduceEqDiff, Int.reduceLT, Int.reduceLE, Int.reduceEq, Int.reduceNeg, reduceCtorEq, Nat.reduceAdd, Int.reduceToNat, hel, hd, sheetV, opExtract, B7_8, w0, w9, w11, Int.toNat_natCast, Option.getD_none, Option.isSome_none, ixS_sl, hO1.ld, Nat.mul_one, hway, B7_10, w_add1, ht.ixz, ht.a4, ht.n4, hu] <;> clear hbe) | simp (maxSteps := 1000000) (disch := (first | omega | assumption | exact Fr.refl _)) only [sR, reduceIte, Nat.reduceEqDiff, Int.reduceLT, Int.reduceLE, Int.reduceEq, Int.reduceNeg, reduceCtorEq, Nat.reduceAdd, Int.reduceToNat, hel, hd, sheetV, opExtract, B7_8, w0, w9, w11, Int.toNat_natCast, Option.getD_none, Option.isSome_none, ixS_sl, hO1.ld, Nat.mul_one, hway, B7_10, w_add1, ht.ixz, ht.a4, ht.n4, hu])
        exact fin _ (by simp only [sV, Nat.reduceEqDiff, reduceIte, Nat.reduceAdd, w0, w1, w2, w7, w9, and_self]) (by simp only [sV, Nat.reduceEqDiff, reduceIte, Nat.reduceAdd])
    · rw [if_neg (show ¬ (t.getD i dN).kind = 1 from hk)] at hway
      rw [decide_eq_false hk] at hel
      repeat' (first | ((first | apply RG_step | apply DG_step | apply DG_read); focus (intro hgd; have hgd2 := hgd; (try simp only [sB] at hgd); (try simp only [sP] at hgd2); simp (maxSteps := 1000000) (disch := (first | omega | assumption | exact Fr.refl _)) only [hgd, sR, reduceIte, Nat.reduceEqDiff, Int.reduceLT, Int.reduceLE, Int.reduceEq, Int.reduceNeg, reduceCtorEq, Nat.reduceAdd, Int.reduceToNat, hel, sheetV, opExtract, B7_8, w0, w9, w11, Int.toNat_natCast, Option.getD_none, Option.isSome_none, ixS_sl, hO1.ld, Nat.mul_one, hway, B7_10, w_add1, ht.ixz, ht.a4, ht.n4, hu]; exact StepIs_refl)) | ((first | refine Br_intro ?_ ?_ | refine BrB_intro ?_ ?_) <;> intro hbr hbe <;> simp (maxSteps := 1000000) (disch := (first | omega | assumption | exact Fr.refl _)) only [hbe, sR, reduceIte, Nat.reduceEqDiff, Int.reduceLT, Int.reduceLE, Int.reduceEq, Int.reduceNeg, reduceCtorEq, Nat.reduceAdd, Int.reduceToNat, hel, sheetV, opExtract, B7_8, w0, w9, w11, Int.toNat_natCast, Option.getD_none, Option.isSome_none, ixS_sl, hO1.ld, Nat.mul_one, hway, B7_10, w_add1, ht.ixz, ht.a4, ht.n4, hu] <;> clear hbe) | simp (maxSteps := 1000000) (disch := (first | omega | assumption | exact Fr.refl _)) only [sR, reduceIte, Nat.reduceEqDiff, Int.reduceLT, Int.reduceLE, Int.reduceEq, Int.reduceNeg, reduceCtorEq, Nat.reduceAdd, Int.reduceToNat, hel, sheetV, opExtract, B7_8, w0, w9, w11, Int.toNat_natCast, Option.getD_none, Option.isSome_none, ixS_sl, hO1.ld, Nat.mul_one, hway, B7_10, w_add1, ht.ixz, ht.a4, ht.n4, hu])
      exact fin _ (by simp only [sV, Nat.reduceEqDiff, reduceIte, Nat.reduceAdd, w0, w1, w2, w7, w9, and_self]) (by simp only [sV, Nat.reduceEqDiff, reduceIte, Nat.reduceAdd])
  · exact ⟨hf2, w1, w2, w7, w9⟩

set_option maxHeartbeats 16000000 in
/-- The innermost element above a text that keeps it in. -/
theorem iso_top {x2 x9 x15 : AVal} (ht : TreeI σ tv t) (hwf : ∀ n ∈ t, NWF n) (hR : rightS t = true) (hf : Fr σ s0) (hN : t.length ≤ 300) {u0 : Nat} (hu0 : u0 < t.length) (v0 : V e0 0 = tv) (v2 : V e0 2 = x2) (v9 : V e0 9 = x9) (v15 : V e0 15 = x15) (v16 : V e0 16 = .int .i64 (u0 : Int)) :
    W TS false (.loop L7_2) e0 s0 fun o e s => o = .exit 4 ∧ Fr s0 s ∧ V e 0 = tv ∧ V e 2 = x2 ∧ V e 9 = x9 ∧ V e 15 = x15 ∧ ∃ top : Nat, V e 16 = .int .i64 (top : Int) ∧ top < t.length ∧ top ∈ anc t u0 ∧ (top = 0 ∨ openS (t.getD top nd0) = false) := by
  have hP := rightP_iff.2 hR
  have hU : UpB t t.length := fun a b c => hP.sh.upsR a b c
  have hself : ∀ k, k < t.length → k ∈ anc t k := fun k hk => by
    rcases Nat.eq_zero_or_pos k with h | h
    · subst h; rw [anc_zero]; simp
    · obtain ⟨v, h1, h2⟩ := hP.sh.upsR k h hk
      rw [anc_pos hU hk h h1 h2]; simp
  refine W_loop (fun n e s => ∃ k : Nat, n = k ∧ k < t.length ∧ Fr s0 s ∧ V e 0 = tv ∧ V e 2 = x2 ∧ V e 9 = x9 ∧ V e 15 = x15 ∧ V e 16 = .int .i64 (k : Int) ∧ (∀ x, x ∈ anc t k → x ∈ anc t u0)) u0 ⟨u0, rfl, hu0, Fr.refl _, v0, v2, v9, v15, v16, fun _ h => h⟩ ?_
  clear v0 v2 v9 v15 v16
  rintro n e s ⟨k, rfl, hk, hf2, w0, w2, w9, w15, w16, hA⟩
  have hf3 := hf.trans hf2
  repeat' (first | ((first | apply RG_step | apply DG_step | apply DG_read); focus (intro hgd; have hgd2 := hgd; (try simp only [sB] at hgd); (try simp only [sP] at hgd2); simp (maxSteps := 1000000) (disch := (first | omega | assumption | exact Fr.refl _)) only [hgd, sR, reduceIte, Nat.reduceEqDiff, Int.reduceLT, Int.reduceLE, Int.reduceEq, Int.reduceNeg, reduceCtorEq, Nat.reduceAdd, Int.reduceToNat, L7_2, B7_4, w0, w16, ht.ixz, ht.a1, ht.n1]; exact StepIs_refl)) | ((first | refine Br_intro ?_ ?_ | refine BrB_intro ?_ ?_) <;> intro hbr hbe <;> simp (maxSteps := 1000000) (disch := (first | omega | assumption | exact Fr.refl _)) only [hbe, sR, reduceIte, Nat.reduceEqDiff, Int.reduceLT, Int.reduceLE, Int.reduceEq, Int.reduceNeg, reduceCtorEq, Nat.reduceAdd, Int.reduceToNat, L7_2, B7_4, w0, w16, ht.ixz, ht.a1, ht.n1] <;> clear hbe) | simp (maxSteps := 1000000) (disch := (first | omega | assumption | exact Fr.refl _)) only [sR, reduceIte, Nat.reduceEqDiff, Int.reduceLT, Int.reduceLE, Int.reduceEq, Int.reduceNeg, reduceCtorEq, Nat.reduceAdd, Int.reduceToNat, L7_2, B7_4, w0, w16, ht.ixz, ht.a1, ht.n1])
  have hkd : 0 < n → (t.getD n nd0).kind = 1 ∨ (t.getD n nd0).kind = 2 := fun h0 => by
    rcases right_node hR h0 hk with h | h
    · exact .inl h.1
    · exact .inr h.1
  (refine RG_split ?_ ?_ <;> intro hs <;> have hs2 := hs <;> (try simp only [sB] at hs) <;> (try simp only [sP] at hs2))
  · have h0 : 0 < n := by omega
    obtain ⟨v, hv1, hv2⟩ := hP.sh.upsR n h0 hk
    repeat' (first | ((first | apply RG_step | apply DG_step | apply DG_read); focus (intro hgd; have hgd2 := hgd; (try simp only [sB] at hgd); (try simp only [sP] at hgd2); simp (maxSteps := 1000000) (disch := (first | omega | assumption | exact Fr.refl _)) only [hgd, sR, reduceIte, Nat.reduceEqDiff, Int.reduceLT, Int.reduceLE, Int.reduceEq, Int.reduceNeg, reduceCtorEq, Nat.reduceAdd, Int.reduceToNat, hs]; exact StepIs_refl)) | ((first | refine Br_intro ?_ ?_ | refine BrB_intro ?_ ?_) <;> intro hbr hbe <;> simp (maxSteps := 1000000) (disch := (first | omega | assumption | exact Fr.refl _)) only [hbe, sR, reduceIte, Nat.reduceEqDiff, Int.reduceLT, Int.reduceLE, Int.reduceEq, Int.reduceNeg, reduceCtorEq, Nat.reduceAdd, Int.reduceToNat, hs] <;> clear hbe) | simp (maxSteps := 1000000) (disch := (first | omega | assumption | exact Fr.refl _)) only [sR, reduceIte, Nat.reduceEqDiff, Int.reduceLT, Int.reduceLE, Int.reduceEq, Int.reduceNeg, reduceCtorEq, Nat.reduceAdd, Int.reduceToNat, hs])
    refine Bd_call (CW_fr (State_ok (ht.fr hf3) hwf (n : Int))) ?_
    rintro _ s1 ⟨rfl, hf4⟩
    have hf5 := hf3.trans hf4
    have hS : (t.getD n nd0).kind = 1 → StateS t (n : Int) = stateS (t.getD n nd0).attrs := by
      intro h1
      have hel : elemS t (n : Int) = true := by
        unfold elemS
        rw [hR, decide_eq_true (show (0 : Int) < (n : Int) by omega), decide_eq_true (show (n : Int) < (t.length : Int) by omega), Int.toNat_natCast, decide_eq_true (show (t.getD n dN).kind = 1 from h1)]; rfl
      unfold StateS; rw [hel, if_pos rfl, Int.toNat_natCast]
    cases hst : decide ((StateS t (n : Int) : Int) = 0) with
    | true =>
      repeat' (first | ((first | apply RG_step | apply DG_step | apply DG_read); focus (intro hgd; have hgd2 := hgd; (try simp only [sB] at hgd); (try simp only [sP] at hgd2); simp (maxSteps := 1000000) (disch := (first | omega | assumption | exact Fr.refl _)) only [hgd, sR, reduceIte, Nat.reduceEqDiff, Int.reduceLT, Int.reduceLE, Int.reduceEq, Int.reduceNeg, reduceCtorEq, Nat.reduceAdd, Int.reduceToNat, hs, hst, w0, w16, B7_5, ht.ixz, ht.a4, ht.n4, hv1]; exact StepIs_refl)) | ((first | refine Br_intro ?_ ?_ | refine BrB_intro ?_ ?_) <;> intro hbr hbe <;> simp (maxSteps := 1000000) (disch := (first | omega | assumption | exact Fr.refl _)) only [hbe, sR, reduceIte, Nat.reduceEqDiff, Int.reduceLT, Int.reduceLE, Int.reduceEq, Int.reduceNeg, reduceCtorEq, Nat.reduceAdd, Int.reduceToNat, hs, hst, w0, w16, B7_5, ht.ixz, ht.a4, ht.n4, hv1] <;> clear hbe) | simp (maxSteps := 1000000) (disch := (first | omega | assumption | exact Fr.refl _)) only [sR, reduceIte, Nat.reduceEqDiff, Int.reduceLT, Int.reduceLE, Int.reduceEq, Int.reduceNeg, reduceCtorEq, Nat.reduceAdd, Int.reduceToNat, hs, hst, w0, w16, B7_5, ht.ixz, ht.a4, ht.n4, hv1])
      exact ⟨v, hv2, v, rfl, by omega, hf2.trans hf4, by simp only [sV, Nat.reduceEqDiff, reduceIte, Nat.reduceAdd, w0], by simp only [sV, Nat.reduceEqDiff, reduceIte, Nat.reduceAdd, w2], by simp only [sV, Nat.reduceEqDiff, reduceIte, Nat.reduceAdd, w9], by simp only [sV, Nat.reduceEqDiff, reduceIte, Nat.reduceAdd, w15], by simp only [sV, Nat.reduceEqDiff, reduceIte, Nat.reduceAdd, hv1], fun x hx => hA x ((anc_mem hU hk h0 hv1 hv2).2 (.inr hx))⟩
    | false =>
      repeat' (first | ((first | apply RG_step | apply DG_step | apply DG_read); focus (intro hgd; have hgd2 := hgd; (try simp only [sB] at hgd); (try simp only [sP] at hgd2); simp (maxSteps := 1000000) (disch := (first | omega | assumption | exact Fr.refl _)) only [hgd, sR, reduceIte, Nat.reduceEqDiff, Int.reduceLT, Int.reduceLE, Int.reduceEq, Int.reduceNeg, reduceCtorEq, Nat.reduceAdd, Int.reduceToNat, hs, hst, w0, w16]; exact StepIs_refl)) | ((first | refine Br_intro ?_ ?_ | refine BrB_intro ?_ ?_) <;> intro hbr hbe <;> simp (maxSteps := 1000000) (disch := (first | omega | assumption | exact Fr.refl _)) only [hbe, sR, reduceIte, Nat.reduceEqDiff, Int.reduceLT, Int.reduceLE, Int.reduceEq, Int.reduceNeg, reduceCtorEq, Nat.reduceAdd, Int.reduceToNat, hs, hst, w0, w16] <;> clear hbe) | simp (maxSteps := 1000000) (disch := (first | omega | assumption | exact Fr.refl _)) only [sR, reduceIte, Nat.reduceEqDiff, Int.reduceLT, Int.reduceLE, Int.reduceEq, Int.reduceNeg, reduceCtorEq, Nat.reduceAdd, Int.reduceToNat, hs, hst, w0, w16])
      refine ⟨hf2.trans hf4, w2, w9, w15, n, rfl, hk, hA n (hself n hk), .inr ?_⟩
      unfold openS
      rw [decide_eq_false_iff_not] at hst
      rcases hkd h0 with h | h
      · have := hS h
        rw [decide_eq_false (p := stateS _ = 0) (by omega), Bool.and_false, Bool.and_false]
      · rw [decide_eq_false (by omega), Bool.false_and]
  · simp only [Bool.and_eq_false_iff, decide_eq_false_iff_not, Bool.not_eq_false', decide_eq_true_eq] at hs2
    repeat' (first | ((first | apply RG_step | apply DG_step | apply DG_read); focus (intro hgd; have hgd2 := hgd; (try simp only [sB] at hgd); (try simp only [sP] at hgd2); simp (maxSteps := 1000000) (disch := (first | omega | assumption | exact Fr.refl _)) only [hgd, sR, reduceIte, Nat.reduceEqDiff, Int.reduceLT, Int.reduceLE, Int.reduceEq, Int.reduceNeg, reduceCtorEq, Nat.reduceAdd, Int.reduceToNat, hs, w0, w16]; exact StepIs_refl)) | ((first | refine Br_intro ?_ ?_ | refine BrB_intro ?_ ?_) <;> intro hbr hbe <;> simp (maxSteps := 1000000) (disch := (first | omega | assumption | exact Fr.refl _)) only [hbe, sR, reduceIte, Nat.reduceEqDiff, Int.reduceLT, Int.reduceLE, Int.reduceEq, Int.reduceNeg, reduceCtorEq, Nat.reduceAdd, Int.reduceToNat, hs, w0, w16] <;> clear hbe) | simp (maxSteps := 1000000) (disch := (first | omega | assumption | exact Fr.refl _)) only [sR, reduceIte, Nat.reduceEqDiff, Int.reduceLT, Int.reduceLE, Int.reduceEq, Int.reduceNeg, reduceCtorEq, Nat.reduceAdd, Int.reduceToNat, hs, w0, w16])
    refine ⟨hf2, w2, w9, w15, n, rfl, hk, hA n (hself n hk), ?_⟩
    rcases hs2 with h | h
    · exact .inl (by omega)
    · right; unfold openS; rw [decide_eq_false (p := _ ≠ [98, 100, 105]) (fun g => g h), Bool.false_and, Bool.and_false]
end
end Go.Ab.Dirs
end
