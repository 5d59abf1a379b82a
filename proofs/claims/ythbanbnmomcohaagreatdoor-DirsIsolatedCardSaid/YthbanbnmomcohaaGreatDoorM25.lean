/- tree.Right: whole. -/
import Derived.Test.YthbanbnmomcohaaGreatDoorM24
import Derived.Test.YthbanbnmomcohaaGreatDoorM23
import Derived.Test.YthbanbnmomcohaaGreatDoorM20
set_option linter.all false
set_option linter.unusedSimpArgs false
set_option maxRecDepth 10000
noncomputable section
namespace Go.Ab.Dirs
open Go Go.Ab

def mkS (σ : St) (e : TypeId) (s bytes : Nat) (z : List AVal) (len cap : AVal) : Option (AVal × St) := match len, cap with
  | .int _ l, .int _ c => if 0 ≤ l ∧ l ≤ c ∧ c * (bytes : Int) ≤ 1099511627776 ∧ c ≤ 1099511627776 then some (.slice σ.next 0 l.toNat s, σ.new (.cells true e (rep z c.toNat))) else none
  | _, _ => none
theorem opMkSlice_s {T : Tab} {q : Bool} {e : TypeId} {s bytes : Nat} {z : List AVal} {x y : Opd} {env : Env} {σ : St} : opMkSlice T q e s bytes z x y env σ = (if q then none else mkS σ e s bytes z (x.ev T env) (y.ev T env)) := by
  unfold opMkSlice mkS
  simp only [St.newK_eq]
  rfl
theorem mkS_nat {σ : St} {e : TypeId} {s bytes n : Nat} {z : List AVal} (h : n * bytes ≤ 1099511627776) (h2 : n ≤ 1099511627776) : mkS σ e s bytes z (.int .i64 (n : Int)) (.int .i64 (n : Int)) = some (.slice σ.next 0 n s, σ.new (.cells true e (rep z n))) := by
  unfold mkS
  simp only [Int.toNat_natCast]
  have : (n : Int) * (bytes : Int) ≤ 1099511627776 := by
    have := Int.ofNat_le.2 h
    simpa using this
  rw [if_pos ⟨by omega, by omega, this, by omega⟩]
theorem rep_0 : ∀ n : Nat, rep [.int .i64 0] n = (List.replicate n 0).map fun x : Nat => AVal.int .i64 (x : Int)
  | 0 => rfl
  | n + 1 => by rw [rep, rep_0 n]; rfl

def finS (t : List ND) (cnt : List Nat) : Nat → Nat → Bool
  | 0, _ => true
  | m + 1, i => decide (cnt.getD i 0 = (t.getD i dN).kids.length) && finS t cnt m (i + 1)

theorem fin_loop {t : List ND} {tv : AVal} (hN : t.length ≤ 16384) (bk : Nat) (cnt : List Nat) (hcl : cnt.length = t.length) : ∀ (m i : Nat) (e : Env) (σ : St) (r : Option (Out × Env × St)), i + m = t.length → TreeI σ tv t → OwnI σ bk cnt → Ew TS false (.loop L13_1) e σ = r →
    V e 0 = tv → V e 4 = .slice bk 0 t.length 1 → V e 117 = tv → V e 118 = .int .i64 (t.length : Int) → V e 119 = .int .i64 (i : Int) →
    ∃ e' σ', Fr σ σ' ∧ ((finS t cnt m i = false ∧ r = some (.ret, e', σ') ∧ V e' 2 = .int .i64 53) ∨ (finS t cnt m i = true ∧ r = some (.exit 4, e', σ')))
  | 0, i, e, σ, r, hi, ht, hc, hr, h0, h4, h117, h118, h119 => by
    have hlt : ¬ ((i : Int) < (t.length : Int)) := by omega
    rw [Ew_loop] at hr
    simp only [L13_1, sA, reduceIte, Nat.reduceEqDiff, Int.reduceLT, Int.reduceLE, Int.reduceEq, Int.reduceNeg, reduceCtorEq, Nat.reduceAdd, h118, h119, hlt] at hr
    exact ⟨_, _, Fr.refl _, .inr ⟨rfl, hr.symm⟩⟩
  | m + 1, i, e, σ, r, hi, ht, hc, hr, h0, h4, h117, h118, h119 => by
    have hlt : ((i : Int) < (t.length : Int)) := by omega
    have hit : i < t.length := by omega
    have hw : wrapI .i64 ((i : Int) + 1) = ((i + 1 : Nat) : Int) := by rw [wrap_i64 (by omega) (by omega)]; omega
    obtain ⟨av, kv, x1, x2⟩ := ht.get hit
    have x1 := x1 .i64
    have o1 := x2.attrs.one
    have o2 := x2.kids.one
    have hcp := Copy.of (z := .nils) (f := true) (t := 36) (zs := [.int .u8 0, .str [], .nils, .str [], .int .i64 0, .nils]) x2
    have hf2 : Fr σ ((σ.new (.cells true 36 [.int .u8 0, .str [], .nils, .str [], .int .i64 0, .nils])).put σ.next (.cells true 36 [.int .u8 (t[i].kind : Int), .str t[i].name, av, .str t[i].data, .int .i64 t[i].up, kv])) := (Fr.new _ _).put (Nat.le_refl _) _
    have x2l := x2.ld
    generalize e2 : (σ.new (.cells true 36 [.int .u8 0, .str [], .nils, .str [], .int .i64 0, .nils])).put σ.next (.cells true 36 [.int .u8 (t[i].kind : Int), .str t[i].name, av, .str t[i].data, .int .i64 t[i].up, kv]) = σ2 at hcp hf2
    obtain ⟨⟨f, ty, hg⟩, -, -, hk⟩ := hcp
    have hl := SlI.len hk
    have hic : i < cnt.length := by omega
    obtain ⟨k1, k2⟩ := (hc.fr hf2).ints.get (i := i) (by simpa using hic) (k := .i64)
    simp only [List.getElem_map, Int.ofNat_eq_natCast] at k2
    rw [← hcl] at h4
    rw [finS, getD_at hic, getD_at hit]
    rw [Ew_loop] at hr
    by_cases hx : (cnt[i] : Int) = (t[i].kids.length : Int)
    · have hx' := eq_true hx
      have hd : decide (cnt[i] = t[i].kids.length) = true := by simp; omega
      simp only [L13_1, B13_3, B13_1, B13_2, B13_4, sA, reduceIte, Nat.reduceEqDiff, Int.reduceLT, Int.reduceLE, Int.reduceEq, Int.reduceNeg, reduceCtorEq, Nat.reduceAdd, sD, sM, h0, h4, h117, h118, h119, hlt, x1, x2l, o1, o2, e2, hg, hl, k1, k2, hx', hw] at hr
      obtain ⟨e', σ', hf', hh⟩ := fin_loop hN bk cnt hcl m (i + 1) _ σ2 r (by omega) (ht.fr hf2) (hc.fr hf2) hr (by simp only [sV, Nat.reduceEqDiff, reduceIte, Nat.reduceAdd, h0]) (by simp only [sV, Nat.reduceEqDiff, reduceIte, Nat.reduceAdd, h4, hcl]) (by simp only [sV, Nat.reduceEqDiff, reduceIte, Nat.reduceAdd, h117]) (by simp only [sV, Nat.reduceEqDiff, reduceIte, Nat.reduceAdd, h118]) (by simp only [sV, Nat.reduceEqDiff, reduceIte, Nat.reduceAdd])
      refine ⟨e', σ', hf2.trans hf', ?_⟩
      rw [hd, Bool.true_and]; exact hh
    · have hd : decide (cnt[i] = t[i].kids.length) = false := by simp; omega
      simp only [L13_1, B13_3, B13_1, B13_2, B13_4, sA, reduceIte, Nat.reduceEqDiff, Int.reduceLT, Int.reduceLE, Int.reduceEq, Int.reduceNeg, reduceCtorEq, Nat.reduceAdd, sD, sM, h0, h4, h117, h118, h119, hlt, x1, x2l, o1, o2, e2, hg, hl, k1, k2, hx, hw] at hr
      exact ⟨_, _, hf2, .inl ⟨by rw [hd, Bool.false_and], hr.symm, by simp only [sV, Nat.reduceEqDiff, reduceIte, Nat.reduceAdd]⟩⟩

/-- The beginning of a tree. -/
def headS (t : List ND) : Bool := decide (t.length ≠ 0) && (decide (t.length ≤ 16384) && (decide ((t.getD 0 dN).kind = 0) && decide ((t.getD 0 dN).up = -1)))
/-- Is a tree right? -/
def rightS (t : List ND) : Bool := headS t && match rightG t t.length 0 [0] (List.replicate t.length 0) with | none => false | some cnt => finS t cnt t.length 0

theorem right_15 {e : Env} {σ : St} {r : Option (Out × Env × St)} {t : List ND} {tv : AVal} (hr : Ew TS false B13_15 e σ = r) (ht : TreeI σ tv t) (h0 : V e 0 = tv) : ∃ e', r = some (.normal, e', σ) ∧ V e' 30 = .bool (!headS t) ∧ V e' 0 = tv := by
  have hl := ht.len
  by_cases h1 : (t.length : Int) = 0
  · have h1' := eq_true h1
    have hh : headS t = false := by unfold headS; simp only [Bool.and_eq_false_iff]; left; simp; exact List.eq_nil_of_length_eq_zero (by omega)
    simp only [B13_15, sA, reduceIte, Nat.reduceEqDiff, Int.reduceLT, Int.reduceLE, Int.reduceEq, Int.reduceNeg, reduceCtorEq, Nat.reduceAdd, h0, hl, h1'] at hr
    exact ⟨_, hr.symm, by simp only [sV, Nat.reduceEqDiff, reduceIte, Nat.reduceAdd, hh, Bool.not_false], by simp only [sV, Nat.reduceEqDiff, reduceIte, Nat.reduceAdd, h0]⟩
  · have hpos : 0 < t.length := by omega
    obtain ⟨av, kv, x1, x2⟩ := ht.get hpos
    have x1 := x1 .i64
    simp only [Int.natCast_zero] at x1
    have hg0 : t.getD 0 dN = t[0] := getD_at hpos dN
    by_cases h2 : (16384 : Int) < (t.length : Int)
    · have hh : headS t = false := by
        unfold headS
        have : decide (t.length ≤ 16384) = false := by simp; omega
        rw [this]; simp
      simp only [B13_15, sA, reduceIte, Nat.reduceEqDiff, Int.reduceLT, Int.reduceLE, Int.reduceEq, Int.reduceNeg, reduceCtorEq, Nat.reduceAdd, h0, hl, h1, h2] at hr
      exact ⟨_, hr.symm, by simp only [sV, Nat.reduceEqDiff, reduceIte, Nat.reduceAdd, hh, Bool.not_false], by simp only [sV, Nat.reduceEqDiff, reduceIte, Nat.reduceAdd, h0]⟩
    · have d1 : decide (t.length ≠ 0) = true := by simp; intro h; subst h; simp at hpos
      have d2 : decide (t.length ≤ 16384) = true := by simp; omega
      by_cases h3 : (t[0].kind : Int) = 0
      · have h3' := eq_true h3
        have d3 : decide (t[0].kind = 0) = true := by simp; omega
        by_cases h4 : t[0].up = -1
        · have h4' := eq_true h4
          have hh : headS t = true := by unfold headS; rw [hg0, d1, d2, d3, h4]; rfl
          simp only [B13_15, sA, reduceIte, Nat.reduceEqDiff, Int.reduceLT, Int.reduceLE, Int.reduceEq, Int.reduceNeg, reduceCtorEq, Nat.reduceAdd, opIaSl_s, opFieldAddr_s, opLoad_s, h0, hl, h1, h2, x1, x2.f0, x2.l0, x2.f4, x2.l4, h3', h4'] at hr
          exact ⟨_, hr.symm, by simp only [sV, Nat.reduceEqDiff, reduceIte, Nat.reduceAdd, hh, Bool.not_true], by simp only [sV, Nat.reduceEqDiff, reduceIte, Nat.reduceAdd, h0]⟩
        · have hh : headS t = false := by unfold headS; rw [hg0, d1, d2, d3, decide_eq_false h4]; rfl
          simp only [B13_15, sA, reduceIte, Nat.reduceEqDiff, Int.reduceLT, Int.reduceLE, Int.reduceEq, Int.reduceNeg, reduceCtorEq, Nat.reduceAdd, opIaSl_s, opFieldAddr_s, opLoad_s, h0, hl, h1, h2, x1, x2.f0, x2.l0, x2.f4, x2.l4, h3', h4] at hr
          exact ⟨_, hr.symm, by simp only [sV, Nat.reduceEqDiff, reduceIte, Nat.reduceAdd, hh, Bool.not_false], by simp only [sV, Nat.reduceEqDiff, reduceIte, Nat.reduceAdd, h0]⟩
      · have d3 : decide (t[0].kind = 0) = false := by simp; omega
        have hh : headS t = false := by unfold headS; rw [hg0, d1, d2, d3]; rfl
        simp only [B13_15, sA, reduceIte, Nat.reduceEqDiff, Int.reduceLT, Int.reduceLE, Int.reduceEq, Int.reduceNeg, reduceCtorEq, Nat.reduceAdd, opIaSl_s, opFieldAddr_s, opLoad_s, h0, hl, h1, h2, x1, x2.f0, x2.l0, h3] at hr
        exact ⟨_, hr.symm, by simp only [sV, Nat.reduceEqDiff, reduceIte, Nat.reduceAdd, hh, Bool.not_false], by simp only [sV, Nat.reduceEqDiff, reduceIte, Nat.reduceAdd, h0]⟩

theorem Right_ok {σ : St} {t : List ND} {tv : AVal} (ht : TreeI σ tv t) (hwf : ∀ n ∈ t, NWF n) : ∃ σ', Fr σ σ' ∧ Cw TS false 13 [tv] σ = some (.int .i64 (if rightS t then 0 else 53), σ') := by
  rw [Cw_of fn13 false _ σ rfl]
  simp only [c13, sA, reduceIte, Nat.reduceEqDiff, Int.reduceLT, Int.reduceLE, Int.reduceEq, Int.reduceNeg, reduceCtorEq, Nat.reduceAdd]
  generalize hr15 : Ew TS false B13_15 _ _ = r15
  obtain ⟨e1, rfl, h30, h0⟩ := right_15 hr15 ht (by simp only [sV, Nat.reduceEqDiff, reduceIte, Nat.reduceAdd])
  cases hh : headS t with
  | false =>
    rw [hh] at h30
    have hrs : rightS t = false := by unfold rightS; rw [hh]; rfl
    simp only [sA, reduceIte, Nat.reduceEqDiff, Int.reduceLT, Int.reduceLE, Int.reduceEq, Int.reduceNeg, reduceCtorEq, Nat.reduceAdd, h30, hrs, Bool.false_eq_true]
    exact ⟨_, Fr.refl _, rfl⟩
  | true =>
    rw [hh] at h30
    have hpos : 0 < t.length := by
      unfold headS at hh
      simp only [Bool.and_eq_true, decide_eq_true_eq] at hh
      omega
    have hN : t.length ≤ 16384 := by
      unfold headS at hh
      simp only [Bool.and_eq_true, decide_eq_true_eq] at hh
      omega
    have hl2 := (ht.fr (Fr.new σ (.cells true 3 [.int .i64 0]))).len
    have hmk := mkS_nat (σ := σ.new (.cells true 3 [.int .i64 0])) (e := 3) (s := 1) (bytes := 8) (n := t.length) (z := [.int .i64 0]) (by omega) (by omega)
    have hl3 := ((ht.fr (Fr.new σ (.cells true 3 [.int .i64 0]))).fr (Fr.new _ (.cells true 3 (rep [.int .i64 0] t.length)))).len
    simp only [sA, reduceIte, Nat.reduceEqDiff, Int.reduceLT, Int.reduceLE, Int.reduceEq, Int.reduceNeg, reduceCtorEq, Nat.reduceAdd, h30, h0, B13_16, B13_17, B13_18, opBuildSlice_s, bsS, fillL_int1, List.map_cons, List.map_nil, Bool.false_eq_true, opMkSlice_s, hl2, hmk, hl3]
    have hfs : Fr σ ((σ.new (.cells true 3 [.int .i64 0])).new (.cells true 3 (rep [.int .i64 0] t.length))) := (Fr.new _ _).trans (Fr.new _ _)
    have hp : OwnI ((σ.new (.cells true 3 [.int .i64 0])).new (.cells true 3 (rep [.int .i64 0] t.length))) σ.next [0] := by
      have : OwnI (σ.new (.cells true 3 [.int .i64 0])) σ.next [0] := ⟨Nat.lt_succ_self _, true, _, St.get_new_same _ _, Nat.le_refl _, rfl⟩
      exact this.fr (Fr.new _ _)
    have hk : OwnI ((σ.new (.cells true 3 [.int .i64 0])).new (.cells true 3 (rep [.int .i64 0] t.length))) (σ.new (.cells true 3 [.int .i64 0])).next (List.replicate t.length 0) := by
      refine ⟨Nat.lt_succ_self _, true, _, St.get_new_same _ _, ?_, ?_⟩
      · rw [rep_0]; simp
      · rw [rep_0, List.take_of_length_le (by simp)]
    generalize hr : Ew TS false (.loop L13_3) _ _ = r
    have hinv : InvR t 0 [0] (List.replicate t.length 0) := by
      refine ⟨by simp, by simpa using hpos, by simp, by simp, ?_⟩
      intro u hu
      have : (List.replicate t.length 0).getD u 0 = 0 := by rw [getD_at (by simpa using hu)]; simp
      rw [this]
      exact ⟨Nat.zero_le _, fun j hj => absurd hj (Nat.not_lt_zero _)⟩
    obtain ⟨e2, σ2, hf2, ⟨g1, rfl, g3⟩ | ⟨cnt, g1, rfl, g3, g4, g5, g6⟩⟩ := right_loop ht hwf hN (σ.new (.cells true 3 [.int .i64 0])).next (Nat.le_succ _) t.length 0 [0] (List.replicate t.length 0) σ.next _ _ r (by omega) hinv hfs (Nat.le_refl _) (by rw [St.new_next]; omega) hp hk hr (by simp only [sV, Nat.reduceEqDiff, reduceIte, Nat.reduceAdd, h0]) (by simp only [sV, Nat.reduceEqDiff, reduceIte, Nat.reduceAdd]; rfl) (by simp only [sV, Nat.reduceEqDiff, reduceIte, Nat.reduceAdd]) (by simp only [sV, Nat.reduceEqDiff, reduceIte, Nat.reduceAdd]) (by simp only [sV, Nat.reduceEqDiff, reduceIte, Nat.reduceAdd]) (by simp only [sV, Nat.reduceEqDiff, reduceIte, Nat.reduceAdd]; rfl)
    · have hrs : rightS t = false := by unfold rightS; rw [hh, g1]; rfl
      simp only [sA, reduceIte, Nat.reduceEqDiff, Int.reduceLT, Int.reduceLE, Int.reduceEq, Int.reduceNeg, reduceCtorEq, Nat.reduceAdd, g3, hrs, Bool.false_eq_true]
      exact ⟨_, hf2, rfl⟩
    · have hl4 := (ht.fr hf2).len
      simp only [sA, reduceIte, Nat.reduceEqDiff, Int.reduceLT, Int.reduceLE, Int.reduceEq, Int.reduceNeg, reduceCtorEq, Nat.reduceAdd, B13_19, g3, hl4]
      generalize hr : Ew TS false (.loop L13_1) _ _ = r
      obtain ⟨e3, σ3, hf3, ⟨k1, rfl, k3⟩ | ⟨k1, rfl⟩⟩ := fin_loop hN _ cnt g6 t.length 0 _ σ2 r (by omega) (ht.fr hf2) g5 hr (by simp only [sV, Nat.reduceEqDiff, reduceIte, Nat.reduceAdd, g3]) (by simp only [sV, Nat.reduceEqDiff, reduceIte, Nat.reduceAdd, g4]) (by simp only [sV, Nat.reduceEqDiff, reduceIte, Nat.reduceAdd]) (by simp only [sV, Nat.reduceEqDiff, reduceIte, Nat.reduceAdd]) (by simp only [sV, Nat.reduceEqDiff, reduceIte, Nat.reduceAdd]; rfl)
      · have hrs : rightS t = false := by unfold rightS; rw [hh, g1]; exact k1
        simp only [sA, reduceIte, Nat.reduceEqDiff, Int.reduceLT, Int.reduceLE, Int.reduceEq, Int.reduceNeg, reduceCtorEq, Nat.reduceAdd, k3, hrs, Bool.false_eq_true]
        exact ⟨_, hf2.trans hf3, rfl⟩
      · have hrs : rightS t = true := by unfold rightS; rw [hh, g1]; exact k1
        simp only [sA, reduceIte, Nat.reduceEqDiff, Int.reduceLT, Int.reduceLE, Int.reduceEq, Int.reduceNeg, reduceCtorEq, Nat.reduceAdd, hrs]
        exact ⟨_, hf2.trans hf3, rfl⟩
end Go.Ab.Dirs
end

set_option maxRecDepth 10000
noncomputable section
namespace Go.Ab.Dirs
open Go Go.Ab

theorem decodeL_size {l : List Nat} (h : l ≠ []) : 1 ≤ (decodeL l).2 ∧ (decodeL l).2 ≤ l.length := by
  have hl : 1 ≤ l.length := by
    cases l with
    | nil => exact absurd rfl h
    | cons a l => simp
  unfold decodeL
  simp only [lenL_eq, Bool.and_eq_true, decide_eq_true_eq]
  repeat' split
  all_goals first | (constructor <;> simp only <;> omega) | skip

/-- What a class tells. -/
def clsW (c : Int) : Option Nat := if c = 1 then some 0 else if c = 2 then some 1 else if c = 3 then some 1 else none
/-- What the first strong character of a text tells. -/
def firstS : List Nat → Option Nat
  | [] => none
  | a :: l => match clsW (classS ((decodeL (a :: l)).1 : Int)) with
    | some w => some w
    | none => firstS (l.drop ((decodeL (a :: l)).2 - 1))
  termination_by s => s.length
  decreasing_by simp; omega
theorem firstS_nil : firstS [] = none := by unfold firstS; rfl
theorem firstS_some {l : List Nat} (h : l ≠ []) {w : Nat} (hw : clsW (classS ((decodeL l).1 : Int)) = some w) : firstS l = some w := by
  cases l with
  | nil => exact absurd rfl h
  | cons a l => unfold firstS; rw [hw]
theorem firstS_none {l : List Nat} (h : l ≠ []) (hw : clsW (classS ((decodeL l).1 : Int)) = none) : firstS l = firstS (l.drop (decodeL l).2) := by
  cases l with
  | nil => exact absurd rfl h
  | cons a l =>
    have := (decodeL_size h).1
    rw [firstS, hw]
    obtain ⟨m, hm⟩ : ∃ m, (decodeL (a :: l)).2 = m + 1 := ⟨(decodeL (a :: l)).2 - 1, by omega⟩
    rw [hm]; simp

def openS (n : ND) : Bool := decide (n.kind = 1) && (decide (n.name ≠ [98, 100, 105]) && decide (stateS n.attrs = 0))
def scanL (g : Nat → Option Nat) : List Int → Option Nat
  | [] => none
  | z :: l => match g z.toNat with
    | some w => some w
    | none => scanL g l
/-- What scanning tells, so many levels deep. -/
def scanF (t : List ND) : Nat → Nat → Option Nat
  | 0, _ => none
  | f + 1, i => scanL (fun k => match (if openS (t.getD k dN) then scanF t f k else none) with
    | some w => some w
    | none => firstS (t.getD k dN).data) (t.getD i dN).kids

/-- The variables of a scan. -/
structure Sc (σe σ : St) (bt bl bf bw : Nat) (tv : AVal) (o : Option Nat) : Prop where
  fr : Fr σe σ
  gt : ∃ f e, σ.get bt = some (.cells f e [tv])
  gl : ∃ f e, σ.get bl = some (.cells f e [.func 46 [] [.ptr bt 0, .ptr bl 0, .ptr bf 0, .ptr bw 0]])
  gf : ∃ f e, σ.get bf = some (.cells f e [.bool o.isSome])
  gw : ∃ f e, σ.get bw = some (.cells f e [.int .u8 ((o.getD 0 : Nat) : Int)])
  et : σe.next ≤ bt ∧ bt < σ.next
  el : σe.next ≤ bl ∧ bl < σ.next
  ef : σe.next ≤ bf ∧ bf < σ.next
  ew : σe.next ≤ bw ∧ bw < σ.next
  ne : bf ≠ bw ∧ bf ≠ bt ∧ bf ≠ bl ∧ bw ≠ bt ∧ bw ≠ bl

section
variable {σe : St} {bt bl bf bw : Nat} {tv : AVal}

theorem Sc.next {σ σ' : St} {o : Option Nat} (h : Sc σe σ bt bl bf bw tv o) (hf : Fr σ σ') : Sc σe σ' bt bl bf bw tv o := by
  obtain ⟨f1, ⟨a, b, gt⟩, ⟨c, d, gl⟩, ⟨e, f, gf⟩, ⟨g, i, gw⟩, h1, h2, h3, h4, h5⟩ := h
  have hn := hf.next
  refine ⟨f1.trans hf, ⟨a, b, ?_⟩, ⟨c, d, ?_⟩, ⟨e, f, ?_⟩, ⟨g, i, ?_⟩, ⟨h1.1, ?_⟩, ⟨h2.1, ?_⟩, ⟨h3.1, ?_⟩, ⟨h4.1, ?_⟩, h5⟩
  · rw [hf.get _ h1.2]; exact gt
  · rw [hf.get _ h2.2]; exact gl
  · rw [hf.get _ h3.2]; exact gf
  · rw [hf.get _ h4.2]; exact gw
  all_goals omega

/-- A block apart is written. -/
theorem Sc.putO {σ : St} {o : Option Nat} (h : Sc σe σ bt bl bf bw tv o) {b : Nat} (hb : σe.next ≤ b) (h1 : b ≠ bt) (h2 : b ≠ bl) (h3 : b ≠ bf) (h4 : b ≠ bw) (x : AObj) : Sc σe (σ.put b x) bt bl bf bw tv o := by
  obtain ⟨f1, ⟨a, b', gt⟩, ⟨c, d, gl⟩, ⟨e, f, gf⟩, ⟨g, i, gw⟩, k1, k2, k3, k4, k5⟩ := h
  refine ⟨f1.put hb _, ⟨a, b', ?_⟩, ⟨c, d, ?_⟩, ⟨e, f, ?_⟩, ⟨g, i, ?_⟩, k1, k2, k3, k4, k5⟩
  · rw [St.get_put_other _ _ (Ne.symm h1)]; exact gt
  · rw [St.get_put_other _ _ (Ne.symm h2)]; exact gl
  · rw [St.get_put_other _ _ (Ne.symm h3)]; exact gf
  · rw [St.get_put_other _ _ (Ne.symm h4)]; exact gw

/-- The answer is written. -/
theorem Sc.found {σ : St} {o : Option Nat} (h : Sc σe σ bt bl bf bw tv o) (w : Nat) : ∃ σ', Sc σe σ' bt bl bf bw tv (some w) ∧ σ.next ≤ σ'.next ∧
    (∀ c1 c2, σ.get bw = some c1 → (match c1 with | .cells f e _ => some (σ.put bw (.cells f e [.int .u8 (w : Int)])) | _ => none) = some c2 → ∃ f e, c2.get bf = some (.cells f e [.bool o.isSome]) ∧ σ' = c2.put bf (.cells f e [.bool true])) := by
  obtain ⟨f1, ⟨a, b', gt⟩, ⟨c, d, gl⟩, ⟨e, f, gf⟩, ⟨g, i, gw⟩, k1, k2, k3, k4, ⟨n1, n2, n3, n4, n5⟩⟩ := h
  refine ⟨(σ.put bw (.cells g i [.int .u8 (w : Int)])).put bf (.cells e f [.bool true]), ⟨(f1.put k4.1 _).put k3.1 _, ⟨a, b', ?_⟩, ⟨c, d, ?_⟩, ⟨e, f, ?_⟩, ⟨g, i, ?_⟩, k1, k2, k3, k4, ⟨n1, n2, n3, n4, n5⟩⟩, Nat.le_refl _, ?_⟩
  · rw [St.get_put_other _ _ (Ne.symm n2), St.get_put_other _ _ (Ne.symm n4)]; exact gt
  · rw [St.get_put_other _ _ (Ne.symm n3), St.get_put_other _ _ (Ne.symm n5)]; exact gl
  · rw [St.get_put_same]; rfl
  · rw [St.get_put_other _ _ (Ne.symm n1), St.get_put_same]; rfl
  · intro c1 c2 h1 h2
    rw [gw] at h1; cases h1
    simp only [Option.some.injEq] at h2
    subst h2
    exact ⟨e, f, by rw [St.get_put_other _ _ n1]; exact gf, rfl⟩

theorem opNext_s {T : Tab} {x : Opd} {env : Env} {σ : St} {b pos : Nat} {rest : List Nat} (hx : x.ev T env = .ptr b 0) (hg : σ.get b = some (.iter pos rest)) (hr : rest ≠ []) :
    ∃ p, opNext T false x env σ = some (.tuple [.bool true, .int .i64 (pos : Int), .int .i32 ((decodeL rest).1 : Int)], σ.put b (.iter p (rest.drop (decodeL rest).2))) := by
  obtain ⟨d1, d2⟩ := decodeL_size hr
  refine ⟨pos + (decodeL rest).2, ?_⟩
  unfold opNext
  simp only [hx, hg, Bool.false_eq_true, if_false]
  cases rest with
  | nil => exact absurd rfl hr
  | cons a l =>
    simp only
    rw [dropX_eq.2 ⟨d2, rfl⟩]
    simp only [forceI_eq, St.putK_eq, Int.ofNat_eq_natCast, Int.toNat_natCast]
theorem opNext_0 {T : Tab} {x : Opd} {env : Env} {σ : St} {b pos : Nat} (hx : x.ev T env = .ptr b 0) (hg : σ.get b = some (.iter pos [])) : opNext T false x env σ = some (.tuple [.bool false], σ) := by
  unfold opNext
  simp only [hx, hg, Bool.false_eq_true, if_false]
end
end Go.Ab.Dirs
end

set_option maxRecDepth 100000
noncomputable section
namespace Go.Ab.Dirs
open Go Go.Ab

theorem bv32 {x : Nat} (h : x < 4294967296) : (BitVec.ofInt 32 (x : Int)).toNat = x := by
  rw [BitVec.ofInt_natCast, BitVec.toNat_ofNat, Nat.mod_eq_of_lt h]
theorem bv8 {x : Nat} (h : x < 256) : (BitVec.ofInt 8 (x : Int)).toNat = x := by
  rw [BitVec.ofInt_natCast, BitVec.toNat_ofNat, Nat.mod_eq_of_lt h]
theorem and63 {a : Nat} (h : a < 256) : intArith .and .u8 (a : Int) 63 = some (.int .u8 ((a % 64 : Nat) : Int)) := by
  show some (AVal.int .u8 (wrapI .u8 (((BitVec.ofInt 8 (a : Int) &&& BitVec.ofInt 8 ((63 : Nat) : Int)).toNat : Nat) : Int))) = _
  rw [BitVec.toNat_and, bv8 h, bv8 (by decide), show (63 : Nat) = 2 ^ 6 - 1 from rfl, Nat.and_two_pow_sub_one_eq_mod, wrap_u8 (by omega) (by omega)]
theorem and32 {a k : Nat} (h : a < 256) (hk : k ≤ 8) : intArith .and .i32 (a : Int) ((2 ^ k - 1 : Nat) : Int) = some (.int .i32 ((a % 2 ^ k : Nat) : Int)) := by
  show some (AVal.int .i32 (wrapI .i32 (((BitVec.ofInt 32 (a : Int) &&& BitVec.ofInt 32 ((2 ^ k - 1 : Nat) : Int)).toNat : Nat) : Int))) = _
  have h2 : 2 ^ k ≤ 2 ^ 8 := Nat.pow_le_pow_right (by omega) hk
  have h3 := Nat.mod_le a (2 ^ k)
  rw [BitVec.toNat_and, bv32 (by omega), bv32 (by omega), Nat.and_two_pow_sub_one_eq_mod, wrap_i32 (by omega) (by omega)]
theorem or32 {x b : Nat} (h : x < 1048576) (hb : b < 64) : intArith .or .i32 ((x * 64 : Nat) : Int) (b : Int) = some (.int .i32 ((x * 64 + b : Nat) : Int)) := by
  show some (AVal.int .i32 (wrapI .i32 (((BitVec.ofInt 32 ((x * 64 : Nat) : Int) ||| BitVec.ofInt 32 (b : Int)).toNat : Nat) : Int))) = _
  rw [BitVec.toNat_or, bv32 (by omega), bv32 (by omega), show x * 64 = x <<< 6 by rw [Nat.shiftLeft_eq], ← Nat.shiftLeft_add_eq_or_of_lt (by omega : b < 2 ^ 6), Nat.shiftLeft_eq, wrap_i32 (by omega) (by omega)]
theorem shl32 {x : Nat} (h : x < 1048576) : shiftI .shl .i32 (x : Int) 6 = some (.int .i32 ((x * 64 : Nat) : Int)) := by
  show some (AVal.int .i32 (wrapI .i32 ((x : Int) * 2 ^ 6))) = _
  rw [wrap_i32 (by omega) (by omega)]
  congr 2

theorem resV_c3 {T : Tab} {env : Env} {σ : St} {b k : Nat} {f : Bool} {e : TypeId} {x y z : AVal} (h : V env k = .ptr b 0) (hg : σ.get b = some (.cells f e [x, y, z])) : resV T env σ [.cell (path k) (some 3)] = some (.agg [x, y, z]) := by
  have h' : (Opd.t (path k)).ev T env = .ptr b 0 := h
  simp only [resV, resAll, resOne, h', hg, dropX_zero, loadL_3]
theorem fill_part (r n o : AVal) (h1 : lenL r.cells = 1) (h2 : lenL n.cells = 1) (h3 : lenL o.cells = 1) (a b c : AVal) : fillL [(0, 1, r), (1, 1, n), (2, 1, o)] 0 [a, b, c] = some (r.cells ++ (n.cells ++ (o.cells ++ []))) := by
  simp only [fillL, h1, h2, h3]; rfl
theorem fill_pt (r n : Int) (o : Bool) : fillL [(0, 1, .int .i32 r), (1, 1, .int .i64 n), (2, 1, .bool o)] 0 [.int .i32 0, .int .i64 0, .bool false] = some [.int .i32 r, .int .i64 n, .bool o] := by kernel_rfl

/-- A byte may follow. -/
def goodC (s : List Nat) (i : Nat) : Prop := i < s.length ∧ (i = 1 → secS (s.getD 0 0) (s.getD 1 0) = true) ∧ 128 ≤ s.getD i 0 ∧ s.getD i 0 ≤ 191

theorem cut_it {s : List Nat} {n i x b : Nat} {f : Bool} {ty : TypeId} {env : Env} {σ : St} {r : Option (Out × Env × St)} (hs : ∀ c ∈ s, c < 256) (hr : Ew TS false (.loop L36_1) env σ = r) (hi : 1 ≤ i) (hin : i < n) (hn : n ≤ 4) (hl : 0 < s.length) (hx : x < 1048576)
    (hg : σ.get b = some (.cells f ty [.int .i32 0, .int .i64 0, .bool false]))
    (h0 : V env 0 = .str s) (h2 : V env 2 = .ptr b 0) (h3 : V env 3 = .int .i64 (n : Int)) (h4 : V env 4 = .int .i32 (x : Int)) (h5 : V env 5 = .int .i64 (i : Int)) :
    ∃ e', (goodC s i ∧ Ew TS false (.loop L36_1) e' σ = r ∧ V e' 0 = .str s ∧ V e' 2 = .ptr b 0 ∧ V e' 3 = .int .i64 (n : Int) ∧ V e' 4 = .int .i32 ((x * 64 + s.getD i 0 % 64 : Nat) : Int) ∧ V e' 5 = .int .i64 ((i + 1 : Nat) : Int)) ∨
      (¬ goodC s i ∧ r = some (.ret, e', σ.put b (.cells f ty [.int .i32 65533, .int .i64 (i : Int), .bool false])) ∧ V e' 2 = .ptr b 0) := by
  have hin' : (i : Int) < (n : Int) := by omega
  rw [Ew_loop] at hr
  have bad : ∀ {e' : Env} {p q : Prop}, ¬ goodC s i → p → q → ∃ e', (goodC s i ∧ Ew TS false (.loop L36_1) e' σ = r ∧ V e' 0 = .str s ∧ V e' 2 = .ptr b 0 ∧ V e' 3 = .int .i64 (n : Int) ∧ V e' 4 = .int .i32 ((x * 64 + s.getD i 0 % 64 : Nat) : Int) ∧ V e' 5 = .int .i64 ((i + 1 : Nat) : Int)) ∨ (¬ goodC s i ∧ p ∧ q) := fun a b c => ⟨by assumption, .inr ⟨a, b, c⟩⟩
  clear bad
  by_cases g1 : (s.length : Int) ≤ (i : Int)
  · simp only [L36_1, sA, reduceIte, Nat.reduceEqDiff, Int.reduceLT, Int.reduceLE, Int.reduceEq, Int.reduceNeg, reduceCtorEq, Nat.reduceAdd, sD, sM, opBuild, List.map_cons, List.map_nil, opIxStr_s, h0, h2, h3, h4, h5, hin', g1, fill_pt, hg] at hr
    exact ⟨_, .inr ⟨fun h => by have := h.1; omega, hr.symm, by simp only [sV, Nat.reduceEqDiff, reduceIte, Nat.reduceAdd, h2]⟩⟩
  have his : i < s.length := by omega
  have c0 := ixC_at (s := s) (k := .i64) (n := 0) hl
  have ci := ixC_at (s := s) (k := .i64) (n := i) his
  have hb256 : s.getD i 0 < 256 := by rw [List.getD_eq_getElem?_getD, List.getElem?_eq_getElem his]; exact hs _ (List.getElem_mem _)
  simp only [Int.cast_ofNat_Int, Int.natCast_zero, Int.natCast_one] at c0
  have key : (¬ (128 ≤ s.getD i 0) ∨ (128 ≤ s.getD i 0 ∧ ¬ s.getD i 0 ≤ 191)) ∨ (128 ≤ s.getD i 0 ∧ s.getD i 0 ≤ 191) := by omega
  have hw : wrapI .i64 ((i : Int) + 1) = ((i + 1 : Nat) : Int) := by rw [wrap_i64 (by omega) (by omega)]; omega
  have hsh := shl32 hx
  have han := and63 hb256
  have hwr : wrapI .i32 ((s.getD i 0 % 64 : Nat) : Int) = ((s.getD i 0 % 64 : Nat) : Int) := wrap_i32 (by omega) (by omega)
  have hor := or32 hx (Nat.mod_lt (s.getD i 0) (by decide : 0 < 64))
  by_cases e1 : (i : Int) = 1
  · obtain rfl : i = 1 := by omega
    have e1' := eq_true e1
    have c1 := ci
    simp only [Int.natCast_one] at c1 h5 hin' g1 hw
    have sec := second_ok false (s.getD 0 0) (s.getD 1 0) σ
    have sec2 := second_ok true (s.getD 0 0) (s.getD 1 0) σ
    cases hsec : secS (s.getD 0 0) (s.getD 1 0) with
    | false =>
      rw [hsec] at sec sec2
      simp only [L36_1, sA, reduceIte, Nat.reduceEqDiff, Int.reduceLT, Int.reduceLE, Int.reduceEq, Int.reduceNeg, reduceCtorEq, Nat.reduceAdd, sD, sM, opBuild, opCall, argsOf, List.map_cons, List.map_nil, opIxStr_s, h0, h2, h3, h4, h5, hin', g1, c0, c1, sec, sec2, fill_pt, hg] at hr
      exact ⟨_, .inr ⟨fun h => by have := h.2.1 rfl; rw [hsec] at this; exact absurd this (by decide), hr.symm, by simp only [sV, Nat.reduceEqDiff, reduceIte, Nat.reduceAdd, h2]⟩⟩
    | true =>
      rw [hsec] at sec sec2
      rcases key with (k1 | ⟨k1, k2⟩) | ⟨k1, k2⟩
      · have k1' : ((s.getD 1 0 : Nat) : Int) < 128 := by omega
        simp only [L36_1, sA, reduceIte, Nat.reduceEqDiff, Int.reduceLT, Int.reduceLE, Int.reduceEq, Int.reduceNeg, reduceCtorEq, Nat.reduceAdd, sD, sM, opBuild, opCall, argsOf, List.map_cons, List.map_nil, opIxStr_s, h0, h2, h3, h4, h5, hin', g1, c0, c1, sec, sec2, k1', fill_pt, hg] at hr
        exact ⟨_, .inr ⟨fun h => k1 h.2.2.1, hr.symm, by simp only [sV, Nat.reduceEqDiff, reduceIte, Nat.reduceAdd, h2]⟩⟩
      · have k1' : ¬ ((s.getD 1 0 : Nat) : Int) < 128 := by omega
        have k2' : (191 : Int) < ((s.getD 1 0 : Nat) : Int) := by omega
        simp only [L36_1, sA, reduceIte, Nat.reduceEqDiff, Int.reduceLT, Int.reduceLE, Int.reduceEq, Int.reduceNeg, reduceCtorEq, Nat.reduceAdd, sD, sM, opBuild, opCall, argsOf, List.map_cons, List.map_nil, opIxStr_s, h0, h2, h3, h4, h5, hin', g1, c0, c1, sec, sec2, k1', k2', fill_pt, hg] at hr
        exact ⟨_, .inr ⟨fun h => k2 h.2.2.2, hr.symm, by simp only [sV, Nat.reduceEqDiff, reduceIte, Nat.reduceAdd, h2]⟩⟩
      · have k1' : ¬ ((s.getD 1 0 : Nat) : Int) < 128 := by omega
        have k2' : ¬ (191 : Int) < ((s.getD 1 0 : Nat) : Int) := by omega
        simp only [L36_1, sA, reduceIte, Nat.reduceEqDiff, Int.reduceLT, Int.reduceLE, Int.reduceEq, Int.reduceNeg, reduceCtorEq, Nat.reduceAdd, sD, sM, opBuild, opCall, argsOf, List.map_cons, List.map_nil, opIxStr_s, h0, h2, h3, h4, h5, hin', g1, c0, c1, sec, sec2, k1', k2', fill_pt, hg, hsh, han, hwr, hor, hw] at hr
        exact ⟨_, .inl ⟨⟨his, fun _ => hsec, k1, k2⟩, hr, by simp only [sV, Nat.reduceEqDiff, reduceIte, Nat.reduceAdd, h0], by simp only [sV, Nat.reduceEqDiff, reduceIte, Nat.reduceAdd, h2], by simp only [sV, Nat.reduceEqDiff, reduceIte, Nat.reduceAdd, h3], by simp only [sV, Nat.reduceEqDiff, reduceIte, Nat.reduceAdd], by simp only [sV, Nat.reduceEqDiff, reduceIte, Nat.reduceAdd]⟩⟩
  · rcases key with (k1 | ⟨k1, k2⟩) | ⟨k1, k2⟩
    · have k1' : ((s.getD i 0 : Nat) : Int) < 128 := by omega
      simp only [L36_1, sA, reduceIte, Nat.reduceEqDiff, Int.reduceLT, Int.reduceLE, Int.reduceEq, Int.reduceNeg, reduceCtorEq, Nat.reduceAdd, sD, sM, opBuild, opCall, argsOf, List.map_cons, List.map_nil, opIxStr_s, h0, h2, h3, h4, h5, hin', g1, e1, ci, k1', fill_pt, hg] at hr
      exact ⟨_, .inr ⟨fun h => k1 h.2.2.1, hr.symm, by simp only [sV, Nat.reduceEqDiff, reduceIte, Nat.reduceAdd, h2]⟩⟩
    · have k1' : ¬ ((s.getD i 0 : Nat) : Int) < 128 := by omega
      have k2' : (191 : Int) < ((s.getD i 0 : Nat) : Int) := by omega
      simp only [L36_1, sA, reduceIte, Nat.reduceEqDiff, Int.reduceLT, Int.reduceLE, Int.reduceEq, Int.reduceNeg, reduceCtorEq, Nat.reduceAdd, sD, sM, opBuild, opCall, argsOf, List.map_cons, List.map_nil, opIxStr_s, h0, h2, h3, h4, h5, hin', g1, e1, ci, k1', k2', fill_pt, hg] at hr
      exact ⟨_, .inr ⟨fun h => k2 h.2.2.2, hr.symm, by simp only [sV, Nat.reduceEqDiff, reduceIte, Nat.reduceAdd, h2]⟩⟩
    · have k1' : ¬ ((s.getD i 0 : Nat) : Int) < 128 := by omega
      have k2' : ¬ (191 : Int) < ((s.getD i 0 : Nat) : Int) := by omega
      simp only [L36_1, sA, reduceIte, Nat.reduceEqDiff, Int.reduceLT, Int.reduceLE, Int.reduceEq, Int.reduceNeg, reduceCtorEq, Nat.reduceAdd, sD, sM, opBuild, opCall, argsOf, List.map_cons, List.map_nil, opIxStr_s, h0, h2, h3, h4, h5, hin', g1, e1, ci, k1', k2', fill_pt, hg, hsh, han, hwr, hor, hw] at hr
      exact ⟨_, .inl ⟨⟨his, fun h => absurd h (by omega), k1, k2⟩, hr, by simp only [sV, Nat.reduceEqDiff, reduceIte, Nat.reduceAdd, h0], by simp only [sV, Nat.reduceEqDiff, reduceIte, Nat.reduceAdd, h2], by simp only [sV, Nat.reduceEqDiff, reduceIte, Nat.reduceAdd, h3], by simp only [sV, Nat.reduceEqDiff, reduceIte, Nat.reduceAdd], by simp only [sV, Nat.reduceEqDiff, reduceIte, Nat.reduceAdd]⟩⟩
end Go.Ab.Dirs
end

set_option maxRecDepth 100000
noncomputable section
namespace Go.Ab.Dirs
open Go Go.Ab

theorem acc_sec {a b : Nat} (h1 : 194 ≤ a) (h2 : a ≤ 244) : ∃ lo hi, accS a = some (sizeS a, lo, hi) ∧ (secS a b = true ↔ lo ≤ b ∧ b ≤ hi) ∧ 128 ≤ lo ∧ hi ≤ 191 := by
  have D : ∀ lo hi : Nat, (decide (lo ≤ b) && decide (b ≤ hi)) = true ↔ lo ≤ b ∧ b ≤ hi := by intro lo hi; simp
  by_cases c1 : a ≤ 223
  · refine ⟨128, 191, ?_, ?_, by omega, by omega⟩
    · unfold accS sizeS; rw [if_neg (by omega), if_pos c1, if_neg (by omega), if_pos (by omega)]
    · unfold secS; rw [if_neg (by omega), if_neg (by omega), if_neg (by omega), if_neg (by omega)]; exact D _ _
  by_cases c2 : a = 224
  · subst c2; exact ⟨160, 191, by decide, D _ _, by omega, by omega⟩
  by_cases c3 : a ≤ 236
  · refine ⟨128, 191, ?_, ?_, by omega, by omega⟩
    · unfold accS sizeS; rw [if_neg (by omega), if_neg c1, if_neg c2, if_pos c3, if_neg (by omega), if_neg (by omega), if_pos (by omega)]
    · unfold secS; rw [if_neg (by omega), if_neg (by omega), if_neg (by omega), if_neg (by omega)]; exact D _ _
  by_cases c4 : a = 237
  · subst c4; exact ⟨128, 159, by decide, D _ _, by omega, by omega⟩
  by_cases c5 : a ≤ 239
  · refine ⟨128, 191, ?_, ?_, by omega, by omega⟩
    · unfold accS sizeS; rw [if_neg (by omega), if_neg c1, if_neg c2, if_neg c3, if_neg c4, if_pos c5, if_neg (by omega), if_neg (by omega), if_pos (by omega)]
    · unfold secS; rw [if_neg (by omega), if_neg (by omega), if_neg (by omega), if_neg (by omega)]; exact D _ _
  by_cases c6 : a = 240
  · subst c6; exact ⟨144, 191, by decide, D _ _, by omega, by omega⟩
  by_cases c7 : a ≤ 243
  · refine ⟨128, 191, ?_, ?_, by omega, by omega⟩
    · unfold accS sizeS; rw [if_neg (by omega), if_neg c1, if_neg c2, if_neg c3, if_neg c4, if_neg c5, if_neg c6, if_pos c7, if_neg (by omega), if_neg (by omega), if_neg (by omega), if_pos (by omega)]
    · unfold secS; rw [if_neg (by omega), if_neg (by omega), if_neg (by omega), if_neg (by omega)]; exact D _ _
  obtain rfl : a = 244 := by omega
  exact ⟨128, 143, by decide, D _ _, by omega, by omega⟩

/-- All bytes that must follow do. -/
def goodAll (s : List Nat) : Prop := goodC s 1 ∧ (3 ≤ sizeS (s.getD 0 0) → goodC s 2) ∧ (4 ≤ sizeS (s.getD 0 0) → goodC s 3)
theorem size_le (a : Nat) : sizeS a ≤ 4 := by unfold sizeS; repeat' split <;> try omega
theorem size_2 {a : Nat} (h1 : 194 ≤ a) (h2 : a ≤ 244) : 2 ≤ sizeS a := by unfold sizeS; repeat' split <;> try omega
theorem cut_good {s : List Nat} (h1 : 194 ≤ s.getD 0 0) (h2 : s.getD 0 0 ≤ 244) (hg : goodAll s) : cutS s = some (sizeS (s.getD 0 0)) := by
  obtain ⟨lo, hi, e, hsec, h3, h4⟩ := acc_sec (b := s.getD 1 0) h1 h2
  obtain ⟨g1, g2, g3⟩ := hg
  have := hsec.1 (g1.2.1 rfl)
  have h5 := size_le (s.getD 0 0)
  unfold cutS
  rw [if_neg (by omega), e]
  simp only
  rw [if_pos]
  refine ⟨?_, this.1, this.2, fun h => ⟨(g2 h).2.2.1, (g2 h).2.2.2⟩, fun h => ⟨(g3 h).2.2.1, (g3 h).2.2.2⟩⟩
  by_cases c4 : 4 ≤ sizeS (s.getD 0 0)
  · have := (g3 c4).1; omega
  by_cases c3 : 3 ≤ sizeS (s.getD 0 0)
  · have := (g2 c3).1; omega
  have := g1.1; omega
theorem cut_bad {s : List Nat} (h1 : 194 ≤ s.getD 0 0) (h2 : s.getD 0 0 ≤ 244) (hg : ¬ goodAll s) : cutS s = none := by
  obtain ⟨lo, hi, e, hsec, h3, h4⟩ := acc_sec (b := s.getD 1 0) h1 h2
  have h5 := size_2 h1 h2
  unfold cutS
  rw [if_neg (by omega), e]
  simp only
  rw [if_neg]
  rintro ⟨k1, k2, k3, k4, k5⟩
  exact hg ⟨⟨by omega, fun _ => hsec.2 ⟨k2, k3⟩, by omega, by omega⟩, fun h => ⟨by omega, fun h => absurd h (by decide), (k4 h).1, (k4 h).2⟩, fun h => ⟨by omega, fun h => absurd h (by decide), (k5 h).1, (k5 h).2⟩⟩
theorem cut_none {s : List Nat} (h : sizeS (s.getD 0 0) = 0) : cutS s = none := by
  unfold sizeS at h
  unfold cutS accS
  split at h
  · exact absurd h (by decide)
  rename_i h0
  rw [if_neg h0]
  split at h
  · exact absurd h (by decide)
  split at h
  · exact absurd h (by decide)
  split at h
  · exact absurd h (by decide)
  by_cases c : s.getD 0 0 < 194
  · rw [if_pos c]
  · rw [if_neg c, if_neg (by omega), if_neg (by omega), if_neg (by omega), if_neg (by omega), if_neg (by omega), if_neg (by omega), if_neg (by omega), if_neg (by omega)]

theorem size_eq1 {a : Nat} (h : sizeS a = 1) : a < 128 := by
  unfold sizeS at h; repeat' (split at h)
  all_goals omega
theorem size_eq2 {a : Nat} (h : sizeS a = 2) : 194 ≤ a ∧ a ≤ 223 := by
  unfold sizeS at h; repeat' (split at h)
  all_goals omega
theorem size_eq3 {a : Nat} (h : sizeS a = 3) : 224 ≤ a ∧ a ≤ 239 := by
  unfold sizeS at h; repeat' (split at h)
  all_goals omega
theorem size_eq4 {a : Nat} (h : sizeS a = 4) : 240 ≤ a ∧ a ≤ 244 := by
  unfold sizeS at h; repeat' (split at h)
  all_goals omega
theorem size_big {a : Nat} (h0 : sizeS a ≠ 0) (h1 : sizeS a ≠ 1) : 194 ≤ a ∧ a ≤ 244 := by
  unfold sizeS at h0 h1; repeat' (split at h0)
  all_goals first | omega | simp_all
theorem decode_1 {s : List Nat} (h : s.getD 0 0 < 128) : decodeL s = (s.getD 0 0, 1) := by
  unfold decodeL; simp only; rw [if_pos h]
theorem valid_of {c : Nat} (h : c < 55296 ∨ (57344 ≤ c ∧ c ≤ 1114111)) : Utf8.valid (c : Int) = true := by
  unfold Utf8.valid
  simp
  omega
theorem b2_t {p q : Bool} (h1 : p = true) (h2 : q = true) : (p && q) = true := by rw [h1, h2]; rfl
theorem b2_f {p q : Bool} (h1 : p ≠ true) : ¬ (p && q) = true := by intro h; exact h1 (Bool.and_eq_true _ _ ▸ h).1
theorem bq_f {a b : Nat} (h : a ≠ b) : ¬ (a == b) = true := fun e => h (eq_of_beq e)
theorem bq_t {a b : Nat} (h : a = b) : (a == b) = true := beq_iff_eq.2 h
theorem decode_2 {s : List Nat} (h1 : sizeS (s.getD 0 0) = 2) (hg : goodC s 1) : decodeL s = ((s.getD 0 0 % 32) * 64 + s.getD 1 0 % 64, 2) := by
  obtain ⟨a, _, c, d⟩ := hg
  have k := size_eq2 h1
  unfold decodeL
  simp only [lenL_eq]
  rw [if_neg (by omega), if_pos (b2_t (bq_t (by omega)) (b2_t (decide_eq_true a) (bq_t (by omega)))), if_pos (by omega)]
theorem sec_lo {a b : Nat} (h : secS a b = true) : (a = 224 → 160 ≤ b) ∧ (a = 237 → b ≤ 159) ∧ (a = 240 → 144 ≤ b) ∧ (a = 244 → b ≤ 143) := by
  refine ⟨?_, ?_, ?_, ?_⟩ <;> rintro rfl <;> simp [secS] at h <;> omega
theorem decode_3 {s : List Nat} (h1 : sizeS (s.getD 0 0) = 3) (hg : goodC s 1) (hg2 : goodC s 2) : decodeL s = (((s.getD 0 0 % 16) * 64 + s.getD 1 0 % 64) * 64 + s.getD 2 0 % 64, 3) := by
  obtain ⟨a, b, c, d⟩ := hg
  obtain ⟨a2, b2, c2, d2⟩ := hg2
  have k := size_eq3 h1
  have hlo := sec_lo (b rfl)
  have e : s.getD 0 0 % 16 * 4096 + s.getD 1 0 % 64 * 64 + s.getD 2 0 % 64 = (s.getD 0 0 % 16 * 64 + s.getD 1 0 % 64) * 64 + s.getD 2 0 % 64 := by omega
  unfold decodeL
  simp only [lenL_eq]
  rw [if_neg (by omega), if_neg (b2_f (bq_f (by omega))), if_pos (b2_t (b2_t (bq_t (by omega)) (b2_t (decide_eq_true a) (bq_t (by omega)))) (b2_t (decide_eq_true a2) (bq_t (by omega)))), e, if_pos (b2_t (decide_eq_true (by omega)) (valid_of (by omega)))]
theorem decode_4 {s : List Nat} (h1 : sizeS (s.getD 0 0) = 4) (hg : goodC s 1) (hg2 : goodC s 2) (hg3 : goodC s 3) : decodeL s = ((((s.getD 0 0 % 8) * 64 + s.getD 1 0 % 64) * 64 + s.getD 2 0 % 64) * 64 + s.getD 3 0 % 64, 4) := by
  obtain ⟨a, b, c, d⟩ := hg
  obtain ⟨a2, b2, c2, d2⟩ := hg2
  obtain ⟨a3, b3, c3, d3⟩ := hg3
  have k := size_eq4 h1
  have hlo := sec_lo (b rfl)
  have e : s.getD 0 0 % 8 * 262144 + s.getD 1 0 % 64 * 4096 + s.getD 2 0 % 64 * 64 + s.getD 3 0 % 64 = ((s.getD 0 0 % 8 * 64 + s.getD 1 0 % 64) * 64 + s.getD 2 0 % 64) * 64 + s.getD 3 0 % 64 := by omega
  unfold decodeL
  simp only [lenL_eq]
  rw [if_neg (by omega), if_neg (b2_f (bq_f (by omega))), if_neg (b2_f (b2_f (bq_f (by omega)))), if_pos (b2_t (b2_t (b2_t (bq_t (by omega)) (b2_t (decide_eq_true a) (bq_t (by omega)))) (b2_t (decide_eq_true a2) (bq_t (by omega)))) (b2_t (decide_eq_true a3) (bq_t (by omega)))), e, if_pos (b2_t (decide_eq_true (by omega)) (valid_of (by omega)))]

theorem cut_end {n : Nat} {env : Env} {σ : St} {r : Option (Out × Env × St)} (hr : Ew TS false (.loop L36_1) env σ = r) (h3 : V env 3 = .int .i64 (n : Int)) (h5 : V env 5 = .int .i64 (n : Int)) :
    ∃ e', r = some (.exit 0, e', σ) ∧ V e' 2 = V env 2 ∧ V e' 3 = V env 3 ∧ V e' 4 = V env 4 := by
  rw [Ew_loop] at hr
  simp only [L36_1, sA, reduceIte, Nat.reduceEqDiff, Int.reduceLT, Int.reduceLE, Int.reduceEq, Int.reduceNeg, reduceCtorEq, Nat.reduceAdd, h3, h5, Int.lt_irrefl] at hr
  exact ⟨_, hr.symm, by simp only [sV, Nat.reduceEqDiff, reduceIte, Nat.reduceAdd], by simp only [sV, Nat.reduceEqDiff, reduceIte, Nat.reduceAdd, h3], by simp only [sV, Nat.reduceEqDiff, reduceIte, Nat.reduceAdd]⟩

/-- What a run of the loop leaves. -/
theorem cut_run {s : List Nat} {b : Nat} {f : Bool} {ty : TypeId} {env : Env} {σ : St} {r : Option (Out × Env × St)} {x : Nat} (hs : ∀ c ∈ s, c < 256) (hr : Ew TS false (.loop L36_1) env σ = r) (hl : 0 < s.length) (ha : 194 ≤ s.getD 0 0) (hb : s.getD 0 0 ≤ 244)
    (hx : x = s.getD 0 0 % 2 ^ (7 - sizeS (s.getD 0 0)))
    (hg : σ.get b = some (.cells f ty [.int .i32 0, .int .i64 0, .bool false]))
    (h0 : V env 0 = .str s) (h2 : V env 2 = .ptr b 0) (h3 : V env 3 = .int .i64 (sizeS (s.getD 0 0) : Int)) (h4 : V env 4 = .int .i32 (x : Int)) (h5 : V env 5 = .int .i64 1) :
    ∃ e', (goodAll s ∧ r = some (.exit 0, e', σ) ∧ V e' 2 = .ptr b 0 ∧ V e' 3 = .int .i64 (sizeS (s.getD 0 0) : Int) ∧ V e' 4 = .int .i32 ((decodeL s).1 : Int) ∧ (decodeL s).2 = sizeS (s.getD 0 0)) ∨
      (¬ goodAll s ∧ V e' 2 = .ptr b 0 ∧ ∃ i : Nat, r = some (.ret, e', σ.put b (.cells f ty [.int .i32 65533, .int .i64 (i : Int), .bool false]))) := by
  have h5 : V env 5 = .int .i64 ((1 : Nat) : Int) := h5
  have z4 := size_le (s.getD 0 0)
  have z2 := size_2 ha hb
  have hx0 : x < 64 := by
    have : s.getD 0 0 % 2 ^ (7 - sizeS (s.getD 0 0)) < 2 ^ (7 - sizeS (s.getD 0 0)) := Nat.mod_lt _ (Nat.two_pow_pos _)
    have : 2 ^ (7 - sizeS (s.getD 0 0)) ≤ 2 ^ 6 := Nat.pow_le_pow_right (by omega) (by omega)
    omega
  obtain ⟨e1, ⟨g1, hr, a0, a2, a3, a4, a5⟩ | ⟨g1, hr, a2⟩⟩ := cut_it hs hr (by omega) (by omega) z4 hl (by omega) hg h0 h2 h3 h4 h5
  case inr => exact ⟨e1, .inr ⟨fun h => g1 h.1, a2, 1, hr⟩⟩
  by_cases k2 : sizeS (s.getD 0 0) = 2
  · rw [k2] at a3 hx
    obtain ⟨e', hr, b2, b3, b4⟩ := cut_end hr a3 a5
    have hd := decode_2 k2 g1
    refine ⟨e', .inl ⟨⟨g1, fun h => absurd h (by omega), fun h => absurd h (by omega)⟩, hr, by rw [b2, a2], by rw [b3, a3, k2], ?_, by rw [hd, k2]⟩⟩
    rw [b4, a4, hd, hx]
  obtain ⟨e2, ⟨g2, hr, c0, c2, c3, c4, c5⟩ | ⟨g2, hr, c2⟩⟩ := cut_it hs hr (by omega) (by omega) z4 hl (by omega) hg a0 a2 a3 a4 a5
  case inr => exact ⟨e2, .inr ⟨fun h => g2 (h.2.1 (by omega)), c2, 2, hr⟩⟩
  by_cases k3 : sizeS (s.getD 0 0) = 3
  · rw [k3] at c3 hx
    obtain ⟨e', hr, b2, b3, b4⟩ := cut_end hr c3 c5
    have hd := decode_3 k3 g1 g2
    refine ⟨e', .inl ⟨⟨g1, fun _ => g2, fun h => absurd h (by omega)⟩, hr, by rw [b2, c2], by rw [b3, c3, k3], ?_, by rw [hd, k3]⟩⟩
    rw [b4, c4, hd, hx]
  obtain ⟨e3, ⟨g3, hr, d0, d2, d3, d4, d5⟩ | ⟨g3, hr, d2⟩⟩ := cut_it hs hr (by omega) (by omega) z4 hl (by omega) hg c0 c2 c3 c4 c5
  case inr => exact ⟨e3, .inr ⟨fun h => g3 (h.2.2 (by omega)), d2, 3, hr⟩⟩
  have k4 : sizeS (s.getD 0 0) = 4 := by omega
  rw [k4] at d3 hx
  obtain ⟨e', hr, b2, b3, b4⟩ := cut_end hr d3 d5
  have hd := decode_4 k4 g1 g2 g3
  refine ⟨e', .inl ⟨⟨g1, fun _ => g2, fun _ => g3⟩, hr, by rw [b2, d2], by rw [b3, d3, k4], ?_, by rw [hd, k4]⟩⟩
  rw [b4, d4, hd, hx]

/-- The first part of a text. -/
theorem Cut_ok {s : List Nat} (σ : St) (hs : ∀ c ∈ s, c < 256) (hl : 0 < s.length) :
    ∃ σ', Fr σ σ' ∧ ((∃ n, cutS s = some n ∧ 0 < n ∧ n ≤ s.length ∧ (decodeL s).2 = n ∧ Cw TS false 36 [.str s] σ = some (.agg [.int .i32 ((decodeL s).1 : Int), .int .i64 (n : Int), .bool true], σ')) ∨
      (cutS s = none ∧ ∃ m : Nat, Cw TS false 36 [.str s] σ = some (.agg [.int .i32 65533, .int .i64 (m : Int), .bool false], σ'))) := by
  have c0 := ixC_at (s := s) (k := .i64) (n := 0) hl
  simp only [Int.natCast_zero] at c0
  have hb256 : s.getD 0 0 < 256 := by rw [List.getD_eq_getElem?_getD, List.getElem?_eq_getElem hl]; exact hs _ (List.getElem_mem _)
  obtain ⟨σ2, e2⟩ : ∃ x, x = σ.new (.cells true 58 [.int .i32 0, .int .i64 0, .bool false]) := ⟨_, rfl⟩
  have hf2 : Fr σ σ2 := by rw [e2]; exact Fr.new _ _
  have hg2 : σ2.get σ.next = some (.cells true 58 [.int .i32 0, .int .i64 0, .bool false]) := by rw [e2, St.get_new_same]
  have sz := size_ok (s.getD 0 0) σ2
  have hne : s ≠ [] := by intro h; subst h; exact absurd hl (by decide)
  have hsz := decodeL_size hne
  have hwr : wrapI .i32 ((s.getD 0 0 : Nat) : Int) = ((s.getD 0 0 : Nat) : Int) := wrap_i32 (by omega) (by omega)
  have fin3 : ∀ x, ∀ σ2 : St, Fr σ σ2 → Fr σ (σ2.put σ.next x) := fun x σ2 hf => hf.put (Nat.le_refl _) _
  rw [Cw_of fn36 false _ σ rfl]
  by_cases k0 : sizeS (s.getD 0 0) = 0
  · rw [k0] at sz
    simp only [Int.natCast_zero] at sz
    simp only [c36, sA, reduceIte, Nat.reduceEqDiff, Int.reduceLT, Int.reduceLE, Int.reduceEq, Int.reduceNeg, reduceCtorEq, Nat.reduceAdd, sM, opIxStr_s, c0, ← e2, opCall, argsOf, sz, opBuild, List.map_cons, List.map_nil, fill_pt, hg2]
    rw [resV_c3 (b := σ.next) (by simp only [sV, Nat.reduceEqDiff, reduceIte, Nat.reduceAdd]) (St.get_put_same _ _ _)]
    exact ⟨_, fin3 _ _ hf2, .inr ⟨cut_none k0, 1, rfl⟩⟩
  by_cases k1 : sizeS (s.getD 0 0) = 1
  · have h128 := size_eq1 k1
    have hd := decode_1 h128
    rw [k1] at sz
    simp only [Int.natCast_one] at sz
    simp only [c36, sA, reduceIte, Nat.reduceEqDiff, Int.reduceLT, Int.reduceLE, Int.reduceEq, Int.reduceNeg, reduceCtorEq, Nat.reduceAdd, sM, opIxStr_s, c0, ← e2, opCall, argsOf, sz, opBuild, List.map_cons, List.map_nil, hwr, fill_pt, hg2]
    rw [resV_c3 (b := σ.next) (by simp only [sV, Nat.reduceEqDiff, reduceIte, Nat.reduceAdd]) (St.get_put_same _ _ _)]
    exact ⟨_, fin3 _ _ hf2, .inl ⟨1, by unfold cutS; rw [if_pos h128], by omega, by omega, by rw [hd], by rw [hd]; rfl⟩⟩
  have ha := size_big k0 k1
  have z4 := size_le (s.getD 0 0)
  obtain ⟨w, han, hsh, hw⟩ : ∃ w, intArith .and .i32 ((s.getD 0 0 : Nat) : Int) w = some (.int .i32 ((s.getD 0 0 % 2 ^ (7 - sizeS (s.getD 0 0)) : Nat) : Int)) ∧ shiftI .shr .i32 255 ((sizeS (s.getD 0 0) + 1 : Nat) : Int) = some (.int .i32 w) ∧ wrapI .i64 ((sizeS (s.getD 0 0) : Int) + 1) = ((sizeS (s.getD 0 0) + 1 : Nat) : Int) := by
    refine ⟨((2 ^ (7 - sizeS (s.getD 0 0)) - 1 : Nat) : Int), and32 hb256 (by omega), ?_, by rw [wrap_i64 (by omega) (by omega)]; omega⟩
    obtain h | h | h : sizeS (s.getD 0 0) = 2 ∨ sizeS (s.getD 0 0) = 3 ∨ sizeS (s.getD 0 0) = 4 := by omega
    · rw [h]; kernel_rfl
    · rw [h]; kernel_rfl
    · rw [h]; kernel_rfl
  have n0 : ¬ (sizeS (s.getD 0 0) : Int) = 0 := by omega
  have n1 : ¬ (sizeS (s.getD 0 0) : Int) = 1 := by omega
  simp only [c36, sA, reduceIte, Nat.reduceEqDiff, Int.reduceLT, Int.reduceLE, Int.reduceEq, Int.reduceNeg, reduceCtorEq, Nat.reduceAdd, sD, sM, opIxStr_s, c0, ← e2, opCall, argsOf, sz, n0, n1, hwr, hw, hsh, han]
  generalize hr : Ew TS false (.loop L36_1) _ σ2 = r
  obtain ⟨e, ⟨g, rfl, a2, a3, a4, a5⟩ | ⟨g, a2, i, rfl⟩⟩ := cut_run hs hr hl ha.1 ha.2 rfl hg2 (by simp only [sV, Nat.reduceEqDiff, reduceIte, Nat.reduceAdd]) (by simp only [sV, Nat.reduceEqDiff, reduceIte, Nat.reduceAdd]) (by simp only [sV, Nat.reduceEqDiff, reduceIte, Nat.reduceAdd]) (by simp only [sV, Nat.reduceEqDiff, reduceIte, Nat.reduceAdd]) (by simp only [sV, Nat.reduceEqDiff, reduceIte, Nat.reduceAdd])
  · simp only [sA, reduceIte, Nat.reduceEqDiff, Int.reduceLT, Int.reduceLE, Int.reduceEq, Int.reduceNeg, reduceCtorEq, Nat.reduceAdd, sM, opBuild, List.map_cons, List.map_nil, a2, a3, a4, fill_pt, hg2]
    rw [resV_c3 (b := σ.next) (by simp only [sV, Nat.reduceEqDiff, reduceIte, Nat.reduceAdd, a2]) (St.get_put_same _ _ _)]
    exact ⟨_, fin3 _ _ hf2, .inl ⟨_, cut_good ha.1 ha.2 g, by omega, by omega, a5, rfl⟩⟩
  · simp only [sA, reduceIte, Nat.reduceEqDiff, Int.reduceLT, Int.reduceLE, Int.reduceEq, Int.reduceNeg, reduceCtorEq, Nat.reduceAdd]
    rw [resV_c3 (b := σ.next) a2 (St.get_put_same _ _ _)]
    exact ⟨_, fin3 _ _ hf2, .inr ⟨cut_bad ha.1 ha.2 g, i, rfl⟩⟩
end Go.Ab.Dirs
end

set_option maxRecDepth 10000
noncomputable section
namespace Go.Ab.Dirs
open Go Go.Ab

section
variable {σe : St} {bt bl bf bw : Nat} {tv : AVal}

theorem Sc.set {σ : St} {f1 : Bool} {e1 : TypeId} {f2 : Bool} {e2 : TypeId} {o : Option Nat} (h : Sc σe σ bt bl bf bw tv o) (w : Nat) :
    Sc σe ((σ.put bw (.cells f1 e1 [.int .u8 (w : Int)])).put bf (.cells f2 e2 [.bool true])) bt bl bf bw tv (some w) := by
  obtain ⟨fr, ⟨a, b', gt⟩, ⟨c, d, gl⟩, gf, gw, k1, k2, k3, k4, ⟨n1, n2, n3, n4, n5⟩⟩ := h
  refine ⟨(fr.put k4.1 _).put k3.1 _, ⟨a, b', ?_⟩, ⟨c, d, ?_⟩, ⟨f2, e2, ?_⟩, ⟨f1, e1, ?_⟩, k1, k2, k3, k4, ⟨n1, n2, n3, n4, n5⟩⟩
  · rw [St.get_put_other _ _ (Ne.symm n2), St.get_put_other _ _ (Ne.symm n4)]; exact gt
  · rw [St.get_put_other _ _ (Ne.symm n3), St.get_put_other _ _ (Ne.symm n5)]; exact gl
  · rw [St.get_put_same]; rfl
  · rw [St.get_put_other _ _ (Ne.symm n1), St.get_put_same]; rfl

set_option maxHeartbeats 4000000 in
theorem rune_loop {bi : Nat} (hbi : σe.next ≤ bi) (n1 : bi ≠ bt) (n2 : bi ≠ bl) (n3 : bi ≠ bf) (n4 : bi ≠ bw) : ∀ (m : Nat) (rest : List Nat) (pos : Nat) (σ : St) (e : Env) (r : Option (Out × Env × St)), rest.length ≤ m → Sc σe σ bt bl bf bw tv none → σ.get bi = some (.iter pos rest) → bi < σ.next →
    Ew TS false (.loop L46_1) e σ = r → V e 44 = .ptr bi 0 → V e 3 = .ptr bf 0 → V e 4 = .ptr bw 0 →
    ∃ e' σ', Sc σe σ' bt bl bf bw tv (firstS rest) ∧ σ.next ≤ σ'.next ∧ (∀ b, b < σ.next → b ≠ bf → b ≠ bw → b ≠ bi → σ'.get b = σ.get b) ∧ ((firstS rest = none ∧ r = some (.exit 2, e', σ') ∧ V e' 0 = V e 0 ∧ V e' 1 = V e 1 ∧ V e' 2 = V e 2 ∧ V e' 3 = V e 3 ∧ V e' 4 = V e 4 ∧ V e' 15 = V e 15 ∧ V e' 16 = V e 16 ∧ V e' 17 = V e 17) ∨ (∃ w, firstS rest = some w ∧ r = some (.ret, e', σ')))
  | m, rest, pos, σ, e, r, hm, hS, hg, hlt, hr, h44, h3, h4 => by
    by_cases hne : rest = []
    · subst hne
      have hx := opNext_0 (T := TS) (x := .t (path 44)) (env := e) h44 hg
      rw [Ew_loop] at hr
      simp only [L46_1, sA, reduceIte, Nat.reduceEqDiff, Int.reduceLT, Int.reduceLE, Int.reduceEq, Int.reduceNeg, reduceCtorEq, Nat.reduceAdd, hx, opExtract, dropX_zero] at hr
      rw [firstS_nil]
      exact ⟨_, _, hS, Nat.le_refl _, fun _ _ _ _ _ => rfl, .inl ⟨rfl, hr.symm, by simp only [sV, Nat.reduceEqDiff, reduceIte, Nat.reduceAdd], by simp only [sV, Nat.reduceEqDiff, reduceIte, Nat.reduceAdd], by simp only [sV, Nat.reduceEqDiff, reduceIte, Nat.reduceAdd], by simp only [sV, Nat.reduceEqDiff, reduceIte, Nat.reduceAdd], by simp only [sV, Nat.reduceEqDiff, reduceIte, Nat.reduceAdd], by simp only [sV, Nat.reduceEqDiff, reduceIte, Nat.reduceAdd], by simp only [sV, Nat.reduceEqDiff, reduceIte, Nat.reduceAdd], by simp only [sV, Nat.reduceEqDiff, reduceIte, Nat.reduceAdd]⟩⟩
    · cases m with
      | zero => exact absurd (List.eq_nil_of_length_eq_zero (by omega)) hne
      | succ m =>
        obtain ⟨p, hx⟩ := opNext_s (T := TS) (x := .t (path 44)) (env := e) h44 hg hne
        obtain ⟨d1, d2⟩ := decodeL_size hne
        have hS1 := hS.putO hbi n1 n2 n3 n4 (.iter p (rest.drop (decodeL rest).2))
        have hg1 : (σ.put bi (.iter p (rest.drop (decodeL rest).2))).get bi = some (.iter p (rest.drop (decodeL rest).2)) := St.get_put_same _ _ _
        have hn1 : (σ.put bi (.iter p (rest.drop (decodeL rest).2))).next = σ.next := rfl
        have hk1 : ∀ b, b ≠ bi → (σ.put bi (.iter p (rest.drop (decodeL rest).2))).get b = σ.get b := fun b hb => St.get_put_other _ _ hb
        generalize e1 : σ.put bi (.iter p (rest.drop (decodeL rest).2)) = σ1 at hS1 hg1 hx hn1 hk1
        obtain ⟨σ2, hf2, hC⟩ := Class_ok ((decodeL rest).1 : Int) σ1
        have hS2 := hS1.next hf2
        have hg2 : σ2.get bi = some (.iter p (rest.drop (decodeL rest).2)) := by rw [hf2.get _ (by omega)]; exact hg1
        have hn2 : σ.next ≤ σ2.next := by have := hf2.next; omega
        obtain ⟨fw, ew, gw⟩ := hS2.gw
        obtain ⟨ff, ef, gf⟩ := hS2.gf
        have nfw := hS2.ne.1
        have hk2 : ∀ b, b < σ.next → b ≠ bi → σ2.get b = σ.get b := fun b hb hne => by rw [hf2.get _ (by omega), hk1 b hne]
        have gf' : ∀ o, (σ2.put bw o).get bf = some (.cells ff ef [.bool (none : Option Nat).isSome]) := fun o => by rw [St.get_put_other _ _ nfw]; exact gf
        rw [Ew_loop] at hr
        by_cases c1 : classS ((decodeL rest).1 : Int) = 1
        · have hw : firstS rest = some 0 := firstS_some hne (by unfold clsW; rw [if_pos c1])
          have c1' := eq_true c1
          simp only [L46_1, sA, reduceIte, Nat.reduceEqDiff, Int.reduceLT, Int.reduceLE, Int.reduceEq, Int.reduceNeg, reduceCtorEq, Nat.reduceAdd, sM, hx, opExtract, opCall, argsOf, hC, c1', h3, h4, gw, gf'] at hr
          rw [hw]
          refine ⟨_, _, ?_, ?_, fun b g1 g2 g3 g4 => by rw [St.get_put_other _ _ g2, St.get_put_other _ _ g3]; exact hk2 b g1 g4, .inr ⟨0, rfl, hr.symm⟩⟩
          · exact hS2.set 0
          · exact hn2
        · by_cases c2 : classS ((decodeL rest).1 : Int) = 2
          · have hw : firstS rest = some 1 := firstS_some hne (by unfold clsW; rw [if_neg c1, if_pos c2])
            have c2' := eq_true c2
            simp only [L46_1, sA, reduceIte, Nat.reduceEqDiff, Int.reduceLT, Int.reduceLE, Int.reduceEq, Int.reduceNeg, reduceCtorEq, Nat.reduceAdd, sM, hx, opExtract, opCall, argsOf, hC, c1, c2', h3, h4, gw, gf'] at hr
            rw [hw]
            refine ⟨_, _, ?_, ?_, fun b g1 g2 g3 g4 => by rw [St.get_put_other _ _ g2, St.get_put_other _ _ g3]; exact hk2 b g1 g4, .inr ⟨1, rfl, hr.symm⟩⟩
            · exact hS2.set 1
            · exact hn2
          · by_cases c3 : classS ((decodeL rest).1 : Int) = 3
            · have hw : firstS rest = some 1 := firstS_some hne (by unfold clsW; rw [if_neg c1, if_neg c2, if_pos c3])
              have c3' := eq_true c3
              simp only [L46_1, sA, reduceIte, Nat.reduceEqDiff, Int.reduceLT, Int.reduceLE, Int.reduceEq, Int.reduceNeg, reduceCtorEq, Nat.reduceAdd, sM, hx, opExtract, opCall, argsOf, hC, c1, c2, c3', h3, h4, gw, gf'] at hr
              rw [hw]
              refine ⟨_, _, ?_, ?_, fun b g1 g2 g3 g4 => by rw [St.get_put_other _ _ g2, St.get_put_other _ _ g3]; exact hk2 b g1 g4, .inr ⟨1, rfl, hr.symm⟩⟩
              · exact hS2.set 1
              · exact hn2
            · have hw : firstS rest = firstS (rest.drop (decodeL rest).2) := firstS_none hne (by unfold clsW; rw [if_neg c1, if_neg c2, if_neg c3])
              simp only [L46_1, sA, reduceIte, Nat.reduceEqDiff, Int.reduceLT, Int.reduceLE, Int.reduceEq, Int.reduceNeg, reduceCtorEq, Nat.reduceAdd, sM, hx, opExtract, opCall, argsOf, hC, c1, c2, c3] at hr
              obtain ⟨e', σ', hS', hn', hk', hh⟩ := rune_loop hbi n1 n2 n3 n4 m (rest.drop (decodeL rest).2) p σ2 _ r (by rw [List.length_drop]; omega) hS2 hg2 (by omega) hr (by simp only [sV, Nat.reduceEqDiff, reduceIte, Nat.reduceAdd, h44]) (by simp only [sV, Nat.reduceEqDiff, reduceIte, Nat.reduceAdd, h3]) (by simp only [sV, Nat.reduceEqDiff, reduceIte, Nat.reduceAdd, h4])
              rw [hw]
              refine ⟨e', σ', hS', by omega, fun b g1 g2 g3 g4 => by rw [hk' b (by omega) g2 g3 g4]; exact hk2 b g1 g4, ?_⟩
              rcases hh with ⟨a, b, v0, v1, v2, v3, v4, v15, v16, v17⟩ | hh
              · simp only [sV, Nat.reduceEqDiff, reduceIte, Nat.reduceAdd] at v0 v1 v2 v3 v4 v15 v16 v17
                exact .inl ⟨a, b, v0, v1, v2, v3, v4, v15, v16, v17⟩
              · exact .inr hh
end
end Go.Ab.Dirs
end
