/- tree.fits: whole. -/
import Derived.Test.YthbanbnmomcohaaGreatDoorP11
set_option maxRecDepth 10000
noncomputable section
namespace Go.Ab.Dirs
open Go Go.Ab

theorem idxS_cases (x : Int) : ∀ (l : List Int) (i : Nat), idxS x l i = -1 ∨ ∃ j : Nat, i ≤ j ∧ idxS x l i = (j : Int)
  | [], i => .inl rfl
  | y :: l, i => by
    unfold idxS
    split
    · exact .inr ⟨i, Nat.le_refl _, rfl⟩
    · rcases idxS_cases x l (i + 1) with h | ⟨j, h1, h2⟩
      · exact .inl h
      · exact .inr ⟨j, by omega, h2⟩
theorem idxS_lt (x : Int) (l : List Int) : idxS x l 0 < 1 ∨ ∃ j : Nat, idxS x l 0 = ((j + 1 : Nat) : Int) := by
  rcases idxS_cases x l 0 with h | ⟨j, h1, h2⟩
  · left; rw [h]; decide
  · cases j with
    | zero => left; rw [h2]; decide
    | succ j => exact .inr ⟨j, h2⟩

theorem Copy.of {σ : St} {n : ND} {av kv p : AVal} {zs : List AVal} {f : Bool} {t : TypeId} (h : NodeAt σ p n av kv) : Copy ((σ.new (.cells f t zs)).put σ.next (.cells f t [.int .u8 (n.kind : Int), .str n.name, av, .str n.data, .int .i64 n.up, kv])) σ.next n av kv :=
  ⟨⟨f, t, St.get_put_same _ _ _⟩, Nat.lt_succ_self _, h.attrs.fr ((Fr.new _ _).put (Nat.le_refl _) _), h.kids.fr ((Fr.new _ _).put (Nat.le_refl _) _)⟩

set_option maxHeartbeats 2000000 in
theorem fits_ok {σ : St} {tv pv : AVal} {t : List ND} {path : List Nat} {i : Nat} (ht : TreeI σ tv t) (hpv : IntsI σ pv (path.map Int.ofNat)) (hi : i < t.length) (hwf : ∀ n ∈ t, NWF n) (hb : path.length < 9223372036854775808) (hpos : 0 < path.length) (hp : ∀ p ∈ path, p < t.length)
    (hv : i ≠ 0 → ∀ j : Nat, idxS (i : Int) (upOf t path).kids 0 = ((j + 1 : Nat) : Int) → ∃ z : Nat, ∃ (h : j < (upOf t path).kids.length), (upOf t path).kids[j] = (z : Int) ∧ z < t.length) :
    ∃ σ', Fr σ σ' ∧ Cw TS false 26 [tv, pv, .int .i64 (i : Int)] σ = some (.bool (fitsS t path i t[i]), σ') := by
  obtain ⟨av, kv, x1, x2⟩ := ht.get hi
  have x1 := x1 .i64
  have hn := hwf t[i] (List.getElem_mem _)
  have o1 := x2.attrs.one
  have o2 := x2.kids.one
  have hc := Copy.of (f := true) (t := 36) (zs := [.int .u8 0, .str [], .nils, .str [], .int .i64 0, .nils]) x2
  have hf2 : Fr σ ((σ.new (.cells true 36 [.int .u8 0, .str [], .nils, .str [], .int .i64 0, .nils])).put σ.next (.cells true 36 [.int .u8 (t[i].kind : Int), .str t[i].name, av, .str t[i].data, .int .i64 t[i].up, kv])) := (Fr.new _ _).put (Nat.le_refl _) _
  generalize e2 : (σ.new (.cells true 36 [.int .u8 0, .str [], .nils, .str [], .int .i64 0, .nils])).put σ.next (.cells true 36 [.int .u8 (t[i].kind : Int), .str t[i].name, av, .str t[i].data, .int .i64 t[i].up, kv]) = σ2 at hc hf2
  rw [Cw_of fn26 false _ σ rfl]
  simp only [c26, B26_1, sC, reduceIte, Nat.reduceEqDiff, stepOp, undefA, opMov, sO, reduceCtorEq, sF, Nat.reduceAdd, opAlloc, allOne, sM, x1, x2.ld, o1, o2, e2]
  generalize hr2 : Ew TS false B26_2 _ _ = r2
  obtain ⟨ea, rfl, q8, q0, q1, q2, q7⟩ := fits_2 hr2 hc (by simp only [V_U, Nat.reduceEqDiff, reduceIte])
  simp only [V_U, Nat.reduceEqDiff, reduceIte] at q0 q1 q2 q7
  by_cases h0 : i = 0
  · have h0' := eq_true (show (i : Int) = 0 by omega)
    obtain ⟨⟨f, ty, hg⟩, -⟩ := hc
    cases hpl : plainS t[i] with
    | false =>
      rw [hpl] at q8
      have hfs : fitsS t path i t[i] = false := by unfold fitsS; rw [if_pos h0, hpl]; rfl
      simp only [sC, reduceIte, Nat.reduceEqDiff, stepOp, undefA, opMov, opPick, opArith, arith, sO, sF, B26_4, B26_3, q8, q2, h0', hfs]
      exact ⟨_, hf2, rfl⟩
    | true =>
      rw [hpl] at q8
      have hfs : fitsS t path i t[i] = decide (t[i].data = []) := by unfold fitsS; rw [if_pos h0, hpl, Bool.true_and]
      simp only [sC, reduceIte, Nat.reduceEqDiff, stepOp, opMov, opPick, opArith, arith, opStrop, strop, sO, sF, sM, B26_4, B26_3, q8, q2, q7, h0', hg, hfs]
      exact ⟨_, hf2, rfl⟩
  · have h0' : ¬ (i : Int) = 0 := by omega
    have hl := SlI.len (hpv.fr hf2)
    rw [List.length_map] at hl
    have hw : wrapI .i64 ((path.length : Int) - 1) = ((path.length - 1 : Nat) : Int) := by rw [wrap_i64 (by omega) (by omega)]; omega
    have hil : path.length - 1 < path.length := by omega
    obtain ⟨g1, g2⟩ := (hpv.fr hf2).get (i := path.length - 1) (by simpa using hil) (k := .i64)
    have hpm : path[path.length - 1] < t.length := hp _ (List.getElem_mem _)
    simp only [List.getElem_map, Int.ofNat_eq_natCast] at g2
    obtain ⟨av2, kv2, y1, y2⟩ := (ht.fr hf2).get hpm
    have y1 := y1 .i64
    have hup : upOf t path = t[path[path.length - 1]] := by
      unfold upOf
      have : path.getD (path.length - 1) 0 = path[path.length - 1] := by rw [List.getD_eq_getElem?_getD, List.getElem?_eq_getElem hil, Option.getD_some]
      rw [this, List.getD_eq_getElem?_getD, List.getElem?_eq_getElem hpm, Option.getD_some]
    have hv := hv h0
    rw [hup] at hv
    generalize hu : t[path[path.length - 1]] = u at *
    have hun := hwf u (by rw [← hu]; exact List.getElem_mem _)
    have o3 := y2.attrs.one
    have o4 := y2.kids.one
    have hc2 := Copy.of (f := true) (t := 36) (zs := [.int .u8 0, .str [], .nils, .str [], .int .i64 0, .nils]) y2
    have hf3 : Fr σ2 ((σ2.new (.cells true 36 [.int .u8 0, .str [], .nils, .str [], .int .i64 0, .nils])).put σ2.next (.cells true 36 [.int .u8 (u.kind : Int), .str u.name, av2, .str u.data, .int .i64 u.up, kv2])) := (Fr.new _ _).put (Nat.le_refl _) _
    have y2l := y2.ld
    generalize e3 : (σ2.new (.cells true 36 [.int .u8 0, .str [], .nils, .str [], .int .i64 0, .nils])).put σ2.next (.cells true 36 [.int .u8 (u.kind : Int), .str u.name, av2, .str u.data, .int .i64 u.up, kv2]) = σ3 at hc2 hf3
    have hc' := hc.fr hf3
    have hf := hf2.trans hf3
    simp only [sC, reduceIte, Nat.reduceEqDiff, stepOp, undefA, opMov, opArith, arith, sO, reduceCtorEq, Nat.reduceAdd, opAlloc, allOne, sM, B26_4, B26_5, q0, q1, q2, h0', hl, hw, g1, g2, y1, y2l, o3, o4, e3]
    generalize hr6 : Ew TS false B26_6 _ _ = r6
    obtain ⟨eb, rfl, p54, p0, p1, p2, p7, p8, p9⟩ := fits_6 hr6 hc2 (by simp only [V_U, Nat.reduceEqDiff, reduceIte])
    simp only [V_U, Nat.reduceEqDiff, reduceIte, q0, q1, q2, q7, q8] at p0 p1 p2 p7 p8 p9
    cases hub : upBad u with
    | true =>
      rw [hub] at p54
      have hfs : fitsS t path i t[i] = false := by unfold fitsS; rw [if_neg h0, hup, hub, if_pos rfl]
      simp only [sC, reduceIte, sF, p54, hfs]
      exact ⟨_, hf, rfl⟩
    | false =>
      rw [hub] at p54
      obtain ⟨⟨f, ty, hg⟩, -⟩ := id hc'
      by_cases k2 : t[i].kind = 2
      · have k2' := eq_true (show (t[i].kind : Int) = 2 by omega)
        have hfs : fitsS t path i t[i] = (plainS t[i] && (decide (t[i].data ≠ []) && (wellS t[i].data && prevS t u i))) := by unfold fitsS; rw [if_neg h0, hup, hub, if_neg (by decide), if_pos k2]
        obtain ⟨⟨f2, ty2, hg2⟩, -, -, hk2⟩ := id hc2
        have hI := Index_ok false kv2 u.kids (i : Int) σ3 hk2 hun.klen
        simp only [sC, reduceIte, Nat.reduceEqDiff, stepOp, opMov, opArith, arith, sO, sM, p54, p7, p9, p2, B26_12, B26_11, B26_10, B26_7, hg, hg2, k2', opCall, argsOf, hI]
        generalize hr8 : Ew TS false B26_8 _ _ = r8
        obtain ⟨ec, σ4, hf4, rfl, z6⟩ := fits_8 hr8 hn hc' hc2 (ht.fr hf) hun.klen hv (idxS_lt _ _) (by simp only [V_U, Nat.reduceEqDiff, reduceIte, p0]) (by simp only [V_U, Nat.reduceEqDiff, reduceIte, p7]) (by simp only [V_U, Nat.reduceEqDiff, reduceIte, p8]) (by simp only [V_U, Nat.reduceEqDiff, reduceIte, p9]) (by simp only [V_U, Nat.reduceEqDiff, reduceIte])
        simp only [sF, z6, hfs]
        exact ⟨_, hf.trans hf4, rfl⟩
      · have k2' : ¬ (t[i].kind : Int) = 2 := by omega
        by_cases k1 : t[i].kind = 1
        · have k1' := eq_true (show (t[i].kind : Int) = 1 by omega)
          have hfs : fitsS t path i t[i] = (decide (t[i].data = []) && (decide (0 < kindS t[i].name) && (attrsS t[i].attrs && (decide (path.length ≤ 200) && nestedS t path t[i].name)))) := by unfold fitsS; rw [if_neg h0, hup, hub, if_neg (by decide), if_neg k2, if_pos k1]
          simp only [sC, reduceIte, Nat.reduceEqDiff, stepOp, opMov, opArith, arith, sO, sM, p54, p7, B26_12, B26_11, B26_10, hg, k2', k1']
          generalize hr9 : Ew TS false B26_9 _ _ = r9
          obtain ⟨ec, σ4, hf4, rfl, z6⟩ := fits_9 hr9 hn hc' (ht.fr hf) hb hpos hp (hpv.fr hf) (by simp only [V_U, Nat.reduceEqDiff, reduceIte, p0]) (by simp only [V_U, Nat.reduceEqDiff, reduceIte, p1]) (by simp only [V_U, Nat.reduceEqDiff, reduceIte, p7])
          simp only [sF, z6, hfs]
          exact ⟨_, hf.trans hf4, rfl⟩
        · have k1' : ¬ (t[i].kind : Int) = 1 := by omega
          have hfs : fitsS t path i t[i] = false := by unfold fitsS; rw [if_neg h0, hup, hub, if_neg (by decide), if_neg k2, if_neg k1]
          simp only [sC, reduceIte, Nat.reduceEqDiff, stepOp, opMov, opArith, arith, sO, sF, sM, p54, p7, B26_12, B26_11, B26_10, hg, k2', k1', hfs]
          exact ⟨_, hf, rfl⟩
end Go.Ab.Dirs
end
