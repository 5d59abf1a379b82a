/- dirs.scan: the runes of a text. -/
import Derived.Test.YthbanbnmomcohaaGreatDoorP17
set_option maxRecDepth 10000
noncomputable section
namespace Go.Ab.Dirs
open Go Go.Ab

section
variable {σe : St} {bt bl bf bw : Nat} {tv : AVal}

theorem Sc.set {σ : St} {f1 : Bool} {e1 : TypeId} {f2 : Bool} {e2 : TypeId} {o : Option Nat} (h : Sc σe σ bt bl bf bw tv o) (w : Nat) :
    Sc σe ((σ.put bw (.cells f1 e1 [.int .u8 (w : Int)])).put bf (.cells f2 e2 [.bool true])) bt bl bf bw tv (some w) := by
  obtain ⟨fr, ⟨a, b', gt⟩, ⟨c, d, gl⟩, gf, gw, k1, k2, k3, k4, ⟨n1, n2, n3, n4, n5⟩⟩ := h
  refine ⟨(fr.put k4.1 _).put k3.1 _, ⟨a, b', ?_⟩, ⟨c, d, ?_⟩, ⟨f2, e2, ?_⟩, ⟨f1, e1, ?_⟩, k1, k2, k3, k4, ⟨n1, n2, n3, n4, n5⟩⟩
  · rw [St.get_put_other _ _ (Ne.symm n2), St.get_put_other _ _ (Ne.symm n4)]; exact gt
  · rw [St.get_put_other _ _ (Ne.symm n3), St.get_put_other _ _ (Ne.symm n5)]; exact gl
  · rw [St.get_put_same]; rfl
  · rw [St.get_put_other _ _ (Ne.symm n1), St.get_put_same]; rfl

set_option maxHeartbeats 4000000 in
theorem rune_loop {bi : Nat} (hbi : σe.next ≤ bi) (n1 : bi ≠ bt) (n2 : bi ≠ bl) (n3 : bi ≠ bf) (n4 : bi ≠ bw) : ∀ (m : Nat) (rest : List Nat) (pos : Nat) (σ : St) (e : Env) (r : Option (Out × Env × St)), rest.length ≤ m → Sc σe σ bt bl bf bw tv none → σ.get bi = some (.iter pos rest) → bi < σ.next →
    Ew TS false (.loop L46_1) e σ = r → V e 44 = .ptr bi 0 → V e 3 = .ptr bf 0 → V e 4 = .ptr bw 0 →
    ∃ e' σ', Sc σe σ' bt bl bf bw tv (firstS rest) ∧ σ.next ≤ σ'.next ∧ (∀ b, b < σ.next → b ≠ bf → b ≠ bw → b ≠ bi → σ'.get b = σ.get b) ∧ ((firstS rest = none ∧ r = some (.exit 2, e', σ') ∧ V e' 0 = V e 0 ∧ V e' 1 = V e 1 ∧ V e' 2 = V e 2 ∧ V e' 3 = V e 3 ∧ V e' 4 = V e 4 ∧ V e' 15 = V e 15 ∧ V e' 16 = V e 16 ∧ V e' 17 = V e 17) ∨ (∃ w, firstS rest = some w ∧ r = some (.ret, e', σ')))
  | m, rest, pos, σ, e, r, hm, hS, hg, hlt, hr, h44, h3, h4 => by
    by_cases hne : rest = []
    · subst hne
      have hx := opNext_0 (T := TS) (x := .t (path 44)) (env := e) h44 hg
      rw [Ew_loop] at hr
      simp only [L46_1, sC, reduceIte, Nat.reduceEqDiff, stepOp, hx, opExtract, dropX_zero] at hr
      rw [firstS_nil]
      exact ⟨_, _, hS, Nat.le_refl _, fun _ _ _ _ _ => rfl, .inl ⟨rfl, hr.symm, by simp only [V_U, Nat.reduceEqDiff, reduceIte], by simp only [V_U, Nat.reduceEqDiff, reduceIte], by simp only [V_U, Nat.reduceEqDiff, reduceIte], by simp only [V_U, Nat.reduceEqDiff, reduceIte], by simp only [V_U, Nat.reduceEqDiff, reduceIte], by simp only [V_U, Nat.reduceEqDiff, reduceIte], by simp only [V_U, Nat.reduceEqDiff, reduceIte], by simp only [V_U, Nat.reduceEqDiff, reduceIte]⟩⟩
    · cases m with
      | zero => exact absurd (List.eq_nil_of_length_eq_zero (by omega)) hne
      | succ m =>
        obtain ⟨p, hx⟩ := opNext_s (T := TS) (x := .t (path 44)) (env := e) h44 hg hne
        obtain ⟨d1, d2⟩ := decodeL_size hne
        have hS1 := hS.putO hbi n1 n2 n3 n4 (.iter p (rest.drop (decodeL rest).2))
        have hg1 : (σ.put bi (.iter p (rest.drop (decodeL rest).2))).get bi = some (.iter p (rest.drop (decodeL rest).2)) := St.get_put_same _ _ _
        have hn1 : (σ.put bi (.iter p (rest.drop (decodeL rest).2))).next = σ.next := rfl
        have hk1 : ∀ b, b ≠ bi → (σ.put bi (.iter p (rest.drop (decodeL rest).2))).get b = σ.get b := fun b hb => St.get_put_other _ _ hb
        generalize e1 : σ.put bi (.iter p (rest.drop (decodeL rest).2)) = σ1 at hS1 hg1 hx hn1 hk1
        obtain ⟨σ2, hf2, hC⟩ := Class_ok ((decodeL rest).1 : Int) σ1
        have hS2 := hS1.next hf2
        have hg2 : σ2.get bi = some (.iter p (rest.drop (decodeL rest).2)) := by rw [hf2.get _ (by omega)]; exact hg1
        have hn2 : σ.next ≤ σ2.next := by have := hf2.next; omega
        obtain ⟨fw, ew, gw⟩ := hS2.gw
        obtain ⟨ff, ef, gf⟩ := hS2.gf
        have nfw := hS2.ne.1
        have hk2 : ∀ b, b < σ.next → b ≠ bi → σ2.get b = σ.get b := fun b hb hne => by rw [hf2.get _ (by omega), hk1 b hne]
        have gf' : ∀ o, (σ2.put bw o).get bf = some (.cells ff ef [.bool (none : Option Nat).isSome]) := fun o => by rw [St.get_put_other _ _ nfw]; exact gf
        rw [Ew_loop] at hr
        by_cases c1 : classS ((decodeL rest).1 : Int) = 1
        · have hw : firstS rest = some 0 := firstS_some hne (by unfold clsW; rw [if_pos c1])
          have c1' := eq_true c1
          simp only [L46_1, sC, reduceIte, Nat.reduceEqDiff, stepOp, undefA, opMov, opArith, arith, sO, allOne, sM, hx, opExtract, opCall, argsOf, hC, c1', h3, h4, gw, gf'] at hr
          rw [hw]
          refine ⟨_, _, ?_, ?_, fun b g1 g2 g3 g4 => by rw [St.get_put_other _ _ g2, St.get_put_other _ _ g3]; exact hk2 b g1 g4, .inr ⟨0, rfl, hr.symm⟩⟩
          · exact hS2.set 0
          · exact hn2
        · by_cases c2 : classS ((decodeL rest).1 : Int) = 2
          · have hw : firstS rest = some 1 := firstS_some hne (by unfold clsW; rw [if_neg c1, if_pos c2])
            have c2' := eq_true c2
            simp only [L46_1, sC, reduceIte, Nat.reduceEqDiff, stepOp, undefA, opMov, opArith, arith, sO, allOne, sM, hx, opExtract, opCall, argsOf, hC, c1, c2', h3, h4, gw, gf'] at hr
            rw [hw]
            refine ⟨_, _, ?_, ?_, fun b g1 g2 g3 g4 => by rw [St.get_put_other _ _ g2, St.get_put_other _ _ g3]; exact hk2 b g1 g4, .inr ⟨1, rfl, hr.symm⟩⟩
            · exact hS2.set 1
            · exact hn2
          · by_cases c3 : classS ((decodeL rest).1 : Int) = 3
            · have hw : firstS rest = some 1 := firstS_some hne (by unfold clsW; rw [if_neg c1, if_neg c2, if_pos c3])
              have c3' := eq_true c3
              simp only [L46_1, sC, reduceIte, Nat.reduceEqDiff, stepOp, undefA, opMov, opArith, arith, sO, allOne, sM, hx, opExtract, opCall, argsOf, hC, c1, c2, c3', h3, h4, gw, gf'] at hr
              rw [hw]
              refine ⟨_, _, ?_, ?_, fun b g1 g2 g3 g4 => by rw [St.get_put_other _ _ g2, St.get_put_other _ _ g3]; exact hk2 b g1 g4, .inr ⟨1, rfl, hr.symm⟩⟩
              · exact hS2.set 1
              · exact hn2
            · have hw : firstS rest = firstS (rest.drop (decodeL rest).2) := firstS_none hne (by unfold clsW; rw [if_neg c1, if_neg c2, if_neg c3])
              simp only [L46_1, sC, reduceIte, Nat.reduceEqDiff, stepOp, opMov, opArith, arith, sO, sM, hx, opExtract, opCall, argsOf, hC, c1, c2, c3] at hr
              obtain ⟨e', σ', hS', hn', hk', hh⟩ := rune_loop hbi n1 n2 n3 n4 m (rest.drop (decodeL rest).2) p σ2 _ r (by rw [List.length_drop]; omega) hS2 hg2 (by omega) hr (by simp only [V_U, Nat.reduceEqDiff, reduceIte, h44]) (by simp only [V_U, Nat.reduceEqDiff, reduceIte, h3]) (by simp only [V_U, Nat.reduceEqDiff, reduceIte, h4])
              rw [hw]
              refine ⟨e', σ', hS', by omega, fun b g1 g2 g3 g4 => by rw [hk' b (by omega) g2 g3 g4]; exact hk2 b g1 g4, ?_⟩
              rcases hh with ⟨a, b, v0, v1, v2, v3, v4, v15, v16, v17⟩ | hh
              · simp only [V_U, Nat.reduceEqDiff, reduceIte] at v0 v1 v2 v3 v4 v15 v16 v17
                exact .inl ⟨a, b, v0, v1, v2, v3, v4, v15, v16, v17⟩
              · exact .inr hh
end
end Go.Ab.Dirs
end
