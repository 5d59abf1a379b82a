/- dirs.scan: whole. -/
import Derived.Test.YthbanbnmomcohaaGreatDoorM25
import Derived.Test.YthbanbnmomcohaaGreatDoorM24
set_option linter.all false
set_option linter.unusedSimpArgs false
set_option maxRecDepth 10000
noncomputable section
namespace Go.Ab.Dirs
open Go Go.Ab

def half1 : ACode → ACode | .seq a _ => a | c => c
def half2 : ACode → ACode | .seq _ b => b | c => c
def inBlock : ACode → ACode | .block _ a => a | c => c
def body46 : ACode := inBlock (half1 (half2 (half2 L46_2)))
def q46 : ACode := half1 (half2 (half2 body46))
def rest46 : ACode := half2 (half2 (half2 body46))
theorem L46_2_eq : L46_2 = .seq (.region false [⟨(some (path 18)), .arith .lss (.t (path 17)) (.t (path 16)), none, .pure⟩]) (.seq (.cond (.t (path 18)) .skip (.exit 0)) (.seq (.block 1 (.seq (.region false [⟨(some (path 19)), .iaSl 1 (.t (path 15)) (.t (path 17)), none, .pure⟩, ⟨(some (path 20)), .load none (.t (path 19)), none, .pure⟩, ⟨(some (path 7)), .mov (.t (path 20)), none, .pure⟩]) (.seq (half1 (half2 body46)) (.seq q46 rest46)))) (half2 (half2 (half2 L46_2))))) := by kernel_rfl
theorem q46_eq : ∃ a, q46 = .seq a (.cond (.t (path 37)) (.region false [⟨(some (path 38)), .load none (.t (path 2)), none, .pure⟩, ⟨(some (path 39)), .mov (.t (path 7)), none, .pure⟩, ⟨(some (path 40)), .callV (.t (path 38)) [(.t (path 39))], none, .pure⟩]) .skip) := ⟨half1 q46, by kernel_rfl⟩

/-- What the children of a right tree's nodes are. -/
def KidsT (t : List ND) : Prop := ∀ i, i < t.length → ∀ z ∈ (t.getD i dN).kids, ∃ k : Nat, z = (k : Int) ∧ i < k ∧ k < t.length

section
variable {σe : St} {bt bl bf bw : Nat} {tv : AVal} {t : List ND}

/-- What a run of the closure leaves. -/
def Keep (σ σ' : St) (bf bw : Nat) : Prop := σ.next ≤ σ'.next ∧ ∀ b, b < σ.next → b ≠ bf → b ≠ bw → σ'.get b = σ.get b

/-- An element is scanned, if it is open. -/
theorem scan_q {f k : Nat} (hrec : ∀ σ, Sc σe σ bt bl bf bw tv none → ∃ σ', Sc σe σ' bt bl bf bw tv (scanF t f k) ∧ Keep σ σ' bf bw ∧ Cw TS false 46 [.int .i64 (k : Int), .ptr bt 0, .ptr bl 0, .ptr bf 0, .ptr bw 0] σ = some (.tuple [], σ'))
    {n : ND} {av kv : AVal} {b8 : Nat} {σ : St} {e : Env} {r : Option (Out × Env × St)} (hwf : NWF n) (hS : Sc σe σ bt bl bf bw tv none) (hc : Copy σ b8 n av kv) (hr : Ew TS false q46 e σ = r)
    (h2 : V e 2 = .ptr bl 0) (h7 : V e 7 = .int .i64 (k : Int)) (h8 : V e 8 = .ptr b8 0) :
    ∃ e' σ', Sc σe σ' bt bl bf bw tv (if openS n then scanF t f k else none) ∧ Keep σ σ' bf bw ∧ r = some (.normal, e', σ') ∧ V e' 0 = V e 0 ∧ V e' 1 = V e 1 ∧ V e' 2 = V e 2 ∧ V e' 3 = V e 3 ∧ V e' 4 = V e 4 ∧ V e' 8 = V e 8 ∧ V e' 15 = V e 15 ∧ V e' 16 = V e 16 ∧ V e' 17 = V e 17 := by
  obtain ⟨⟨f1, ty, hg⟩, hlt, ha, hk⟩ := hc
  have hq : q46 = half1 (half2 (half2 (inBlock (half1 (half2 (half2 L46_2)))))) := rfl
  have keep0 : Keep σ σ bf bw := ⟨Nat.le_refl _, fun _ _ _ _ => rfl⟩
  by_cases c1 : (n.kind : Int) = 1
  · have c1' := eq_true c1
    have d1 : decide (n.kind = 1) = true := by simp; omega
    by_cases c2 : n.name = [98, 100, 105]
    · have ho : openS n = false := by unfold openS; rw [d1]; simp [c2]
      have c2' := eq_true c2
      simp only [hq, half1, half2, inBlock, L46_2, sA, reduceIte, Nat.reduceEqDiff, Int.reduceLT, Int.reduceLE, Int.reduceEq, Int.reduceNeg, reduceCtorEq, Nat.reduceAdd, sM, h2, h7, h8, hg, c1', c2'] at hr
      rw [ho, if_neg (by decide)]
      exact ⟨_, _, hS, keep0, hr.symm, by simp only [sV, Nat.reduceEqDiff, reduceIte, Nat.reduceAdd], by simp only [sV, Nat.reduceEqDiff, reduceIte, Nat.reduceAdd], by simp only [sV, Nat.reduceEqDiff, reduceIte, Nat.reduceAdd, h2], by simp only [sV, Nat.reduceEqDiff, reduceIte, Nat.reduceAdd], by simp only [sV, Nat.reduceEqDiff, reduceIte, Nat.reduceAdd], by simp only [sV, Nat.reduceEqDiff, reduceIte, Nat.reduceAdd, h8], by simp only [sV, Nat.reduceEqDiff, reduceIte, Nat.reduceAdd], by simp only [sV, Nat.reduceEqDiff, reduceIte, Nat.reduceAdd], by simp only [sV, Nat.reduceEqDiff, reduceIte, Nat.reduceAdd]⟩
    · obtain ⟨σ1, hf1, hs⟩ := state_ok (a := .int .u8 (n.kind : Int)) (b := .str n.name) (c := .str n.data) (d := .int .i64 n.up) (f := kv) n.attrs σ hwf.alen hwf.attrs ha
      have hS1 := hS.next hf1
      have keep1 : Keep σ σ1 bf bw := ⟨hf1.next, fun b hb _ _ => hf1.get b hb⟩
      have d2 : decide (n.name ≠ [98, 100, 105]) = true := by simp [c2]
      by_cases c3 : (stateS n.attrs : Int) = 0
      · have c3' := eq_true c3
        have ho : openS n = true := by unfold openS; rw [d1, d2]; simp; omega
        obtain ⟨σ2, hS2, hk2, hC⟩ := hrec σ1 hS1
        obtain ⟨fl, el, gl⟩ := hS1.gl
        simp only [hq, half1, half2, inBlock, L46_2, sA, reduceIte, Nat.reduceEqDiff, Int.reduceLT, Int.reduceLE, Int.reduceEq, Int.reduceNeg, reduceCtorEq, Nat.reduceAdd, sM, h2, h7, h8, hg, c1', c2, opCall, opCallV, argsOf, hs, c3', gl, List.nil_append, List.cons_append, hC] at hr
        rw [ho, if_pos rfl]
        exact ⟨_, _, hS2, ⟨Nat.le_trans keep1.1 hk2.1, fun b hb x y => by rw [hk2.2 b (Nat.lt_of_lt_of_le hb keep1.1) x y, keep1.2 b hb x y]⟩, hr.symm, by simp only [sV, Nat.reduceEqDiff, reduceIte, Nat.reduceAdd], by simp only [sV, Nat.reduceEqDiff, reduceIte, Nat.reduceAdd], by simp only [sV, Nat.reduceEqDiff, reduceIte, Nat.reduceAdd, h2], by simp only [sV, Nat.reduceEqDiff, reduceIte, Nat.reduceAdd], by simp only [sV, Nat.reduceEqDiff, reduceIte, Nat.reduceAdd], by simp only [sV, Nat.reduceEqDiff, reduceIte, Nat.reduceAdd, h8], by simp only [sV, Nat.reduceEqDiff, reduceIte, Nat.reduceAdd], by simp only [sV, Nat.reduceEqDiff, reduceIte, Nat.reduceAdd], by simp only [sV, Nat.reduceEqDiff, reduceIte, Nat.reduceAdd]⟩
      · have ho : openS n = false := by unfold openS; rw [d1, d2]; simp; omega
        simp only [hq, half1, half2, inBlock, L46_2, sA, reduceIte, Nat.reduceEqDiff, Int.reduceLT, Int.reduceLE, Int.reduceEq, Int.reduceNeg, reduceCtorEq, Nat.reduceAdd, sM, h2, h7, h8, hg, c1', c2, opCall, argsOf, hs, c3] at hr
        rw [ho, if_neg (by decide)]
        exact ⟨_, _, hS1, keep1, hr.symm, by simp only [sV, Nat.reduceEqDiff, reduceIte, Nat.reduceAdd], by simp only [sV, Nat.reduceEqDiff, reduceIte, Nat.reduceAdd], by simp only [sV, Nat.reduceEqDiff, reduceIte, Nat.reduceAdd, h2], by simp only [sV, Nat.reduceEqDiff, reduceIte, Nat.reduceAdd], by simp only [sV, Nat.reduceEqDiff, reduceIte, Nat.reduceAdd], by simp only [sV, Nat.reduceEqDiff, reduceIte, Nat.reduceAdd, h8], by simp only [sV, Nat.reduceEqDiff, reduceIte, Nat.reduceAdd], by simp only [sV, Nat.reduceEqDiff, reduceIte, Nat.reduceAdd], by simp only [sV, Nat.reduceEqDiff, reduceIte, Nat.reduceAdd]⟩
  · have ho : openS n = false := by unfold openS; simp; intro h; omega
    simp only [hq, half1, half2, inBlock, L46_2, sA, reduceIte, Nat.reduceEqDiff, Int.reduceLT, Int.reduceLE, Int.reduceEq, Int.reduceNeg, reduceCtorEq, Nat.reduceAdd, sM, h2, h7, h8, hg, c1] at hr
    rw [ho, if_neg (by decide)]
    exact ⟨_, _, hS, keep0, hr.symm, by simp only [sV, Nat.reduceEqDiff, reduceIte, Nat.reduceAdd], by simp only [sV, Nat.reduceEqDiff, reduceIte, Nat.reduceAdd], by simp only [sV, Nat.reduceEqDiff, reduceIte, Nat.reduceAdd, h2], by simp only [sV, Nat.reduceEqDiff, reduceIte, Nat.reduceAdd], by simp only [sV, Nat.reduceEqDiff, reduceIte, Nat.reduceAdd], by simp only [sV, Nat.reduceEqDiff, reduceIte, Nat.reduceAdd, h8], by simp only [sV, Nat.reduceEqDiff, reduceIte, Nat.reduceAdd], by simp only [sV, Nat.reduceEqDiff, reduceIte, Nat.reduceAdd], by simp only [sV, Nat.reduceEqDiff, reduceIte, Nat.reduceAdd]⟩
end
end Go.Ab.Dirs
end

set_option maxRecDepth 10000
noncomputable section
namespace Go.Ab.Dirs
open Go Go.Ab

section
variable {σe : St} {bt bl bf bw : Nat} {tv : AVal} {t : List ND}

def scanK (t : List ND) (f k : Nat) : Option Nat := match (if openS (t.getD k dN) then scanF t f k else none) with
    | some w => some w
    | none => firstS (t.getD k dN).data

theorem q46_1 : half1 (half2 body46) = .region false [⟨(some (path 21)), .load none (.t (path 1)), none, .pure⟩, ⟨(some (path 22)), .mov (.t (path 7)), none, .pure⟩, ⟨(some (path 23)), .iaSl 6 (.t (path 21)) (.t (path 22)), none, .pure⟩, ⟨(some (path 24)), .load (some 6) (.t (path 23)), none, .pure⟩, ⟨(some (path 8)), .alloc 36 [.int .u8 0, .str [], .nils, .str [], .int .i64 0, .nils], none, .pure⟩, ⟨none, .store 6 (.t (path 8)) (.t (path 24)), none, .pure⟩] := by kernel_rfl
theorem rest46_eq : rest46 = .seq (.seq (.region false [⟨(some (path 41)), .load none (.t (path 3)), none, .pure⟩]) (.cond (.t (path 41)) .ret .skip)) (.seq (.region false [⟨(some (path 42)), .fieldAddr 3 (.t (path 8)), none, .pure⟩, ⟨(some (path 43)), .load none (.t (path 42)), none, .pure⟩, ⟨(some (path 44)), .range (.t (path 43)), none, .pure⟩]) (.block 2 (.loop L46_1))) := by kernel_rfl
theorem last46_eq : half2 (half2 (half2 L46_2)) = .region false [⟨(some (path 55)), .arith .add (.t (path 17)) (.c (.int .i64 1)), none, .pure⟩, ⟨(some (path 17)), .mov (.t (path 55)), none, .pure⟩] := by kernel_rfl

theorem opRange_s {T : Tab} {x : Opd} {env : Env} {σ : St} {s : List Nat} (hx : x.ev T env = .str s) : opRange T false x env σ = some (.ptr σ.next 0, σ.new (.iter 0 s)) := by
  unfold opRange
  simp only [hx, Bool.false_eq_true, if_false, St.newK_eq]

set_option maxHeartbeats 4000000 in
theorem kids_loop (ht : TreeI σe tv t) (hwf : ∀ n ∈ t, NWF n) {i f : Nat} (hi : i < t.length) (hk : KidsT t)
    (hrec : ∀ k, i < k → k < t.length → ∀ σ, Sc σe σ bt bl bf bw tv none → ∃ σ', Sc σe σ' bt bl bf bw tv (scanF t f k) ∧ Keep σ σ' bf bw ∧ Cw TS false 46 [.int .i64 (k : Int), .ptr bt 0, .ptr bl 0, .ptr bf 0, .ptr bw 0] σ = some (.tuple [], σ'))
    {kv : AVal} (hkv : ∀ σ, Fr σe σ → IntsI σ kv t[i].kids) :
    ∀ (m j : Nat) (σ : St) (e : Env) (r : Option (Out × Env × St)), j + m = t[i].kids.length → Sc σe σ bt bl bf bw tv none → Ew TS false (.loop L46_2) e σ = r →
    V e 1 = .ptr bt 0 → V e 2 = .ptr bl 0 → V e 3 = .ptr bf 0 → V e 4 = .ptr bw 0 → V e 15 = kv → V e 16 = .int .i64 (t[i].kids.length : Int) → V e 17 = .int .i64 (j : Int) →
    ∃ e' σ', Sc σe σ' bt bl bf bw tv (scanL (scanK t f) (t[i].kids.drop j)) ∧ Keep σ σ' bf bw ∧ (r = some (.exit 0, e', σ') ∨ r = some (.ret, e', σ'))
  | 0, j, σ, e, r, hj, hS, hr, h1, h2, h3, h4, h15, h16, h17 => by
    have hlt : ¬ ((j : Int) < (t[i].kids.length : Int)) := by omega
    rw [Ew_loop, L46_2_eq] at hr
    simp only [sA, reduceIte, Nat.reduceEqDiff, Int.reduceLT, Int.reduceLE, Int.reduceEq, Int.reduceNeg, reduceCtorEq, Nat.reduceAdd, h16, h17, hlt] at hr
    rw [List.drop_eq_nil_of_le (by omega)]
    exact ⟨_, _, hS, ⟨Nat.le_refl _, fun _ _ _ _ => rfl⟩, .inl hr.symm⟩
  | m + 1, j, σ, e, r, hj, hS, hr, h1, h2, h3, h4, h15, h16, h17 => by
    have hlt : ((j : Int) < (t[i].kids.length : Int)) := by omega
    have hjl : j < t[i].kids.length := by omega
    have hn := (hwf t[i] (List.getElem_mem _)).klen
    have hw : wrapI .i64 ((j : Int) + 1) = ((j + 1 : Nat) : Int) := by rw [wrap_i64 (by omega) (by omega)]; omega
    obtain ⟨k, hz, hik, hkt⟩ := hk i hi t[i].kids[j] (by rw [getD_at hi]; exact List.getElem_mem _)
    obtain ⟨g1, g2⟩ := (hkv σ hS.fr).get hjl (k := .i64)
    rw [hz] at g2
    obtain ⟨av, kv2, x1, x2⟩ := (ht.fr hS.fr).get hkt
    have x1 := x1 .i64
    have o1 := x2.attrs.one
    have o2 := x2.kids.one
    have hcp := Copy.of (z := .nils) (f := true) (t := 36) (zs := [.int .u8 0, .str [], .nils, .str [], .int .i64 0, .nils]) x2
    have hf2 : Fr σ ((σ.new (.cells true 36 [.int .u8 0, .str [], .nils, .str [], .int .i64 0, .nils])).put σ.next (.cells true 36 [.int .u8 (t[k].kind : Int), .str t[k].name, av, .str t[k].data, .int .i64 t[k].up, kv2])) := (Fr.new _ _).put (Nat.le_refl _) _
    have x2l := x2.ld
    have hn2 : ((σ.new (.cells true 36 [.int .u8 0, .str [], .nils, .str [], .int .i64 0, .nils])).put σ.next (.cells true 36 [.int .u8 (t[k].kind : Int), .str t[k].name, av, .str t[k].data, .int .i64 t[k].up, kv2])).next = σ.next + 1 := rfl
    generalize e2 : (σ.new (.cells true 36 [.int .u8 0, .str [], .nils, .str [], .int .i64 0, .nils])).put σ.next (.cells true 36 [.int .u8 (t[k].kind : Int), .str t[k].name, av, .str t[k].data, .int .i64 t[k].up, kv2]) = σ2 at hcp hf2 hn2
    obtain ⟨ft, et, gt⟩ := hS.gt
    have hd : scanL (scanK t f) (t[i].kids.drop j) = (match scanK t f k with | some w => some w | none => scanL (scanK t f) (t[i].kids.drop (j + 1))) := by
      rw [List.drop_eq_getElem_cons hjl, scanL, hz, Int.toNat_natCast]
      rfl
    have hK : scanK t f k = (match (if openS t[k] then scanF t f k else none) with | some w => some w | none => firstS t[k].data) := by unfold scanK; rw [getD_at hkt]
    have hwfk := hwf t[k] (List.getElem_mem _)
    have hS2 := hS.next hf2
    rw [hd, hK]
    rw [Ew_loop, L46_2_eq] at hr
    simp only [sA, reduceIte, Nat.reduceEqDiff, Int.reduceLT, Int.reduceLE, Int.reduceEq, Int.reduceNeg, reduceCtorEq, Nat.reduceAdd, opIaSl_s, opLoad_s, opAlloc, St.newK_eq, opStore_s, stS_ptr, ldA_ptr, St.get_new_same, loadL_none, dropX_zero, putX_all6, cells_agg, allOne, one_int, one_str, List.length_cons, List.length_nil, Bool.and_true, and_true, true_and, Bool.false_eq_true, q46_1, h1, h15, h16, h17, hlt, g1, g2, gt, x1, x2l, o1, o2, e2] at hr
    generalize hrq : Ew TS false q46 _ _ = rq at hr
    obtain ⟨ea, σ3, hS3, hk3, rfl, a0, a1, a2, a3, a4, a8, a15, a16, a17⟩ := scan_q (hrec k hik hkt) hwfk hS2 hcp hrq (by simp only [sV, Nat.reduceEqDiff, reduceIte, Nat.reduceAdd, h2]) (by simp only [sV, Nat.reduceEqDiff, reduceIte, Nat.reduceAdd]) (by simp only [sV, Nat.reduceEqDiff, reduceIte, Nat.reduceAdd])
    simp only [sV, Nat.reduceEqDiff, reduceIte, Nat.reduceAdd, h1, h2, h3, h4, h15, h16, h17] at a0 a1 a2 a3 a4 a8 a15 a16 a17
    have hb8 : σ3.get σ.next = σ2.get σ.next := hk3.2 _ (by omega) (by have := hS.ef.2; omega) (by have := hS.ew.2; omega)
    obtain ⟨⟨fc, ec, gc⟩, -⟩ := hcp
    rw [← hb8] at gc
    have keep3 : Keep σ σ3 bf bw := ⟨by have := hk3.1; omega, fun b hb x y => by rw [hk3.2 b (by omega) x y, hf2.get b hb]⟩
    cases ho : (if openS t[k] then scanF t f k else none) with
    | some w =>
      rw [ho] at hS3
      obtain ⟨ff, ef, gf⟩ := hS3.gf
      simp only [sA, reduceIte, Nat.reduceEqDiff, Int.reduceLT, Int.reduceLE, Int.reduceEq, Int.reduceNeg, reduceCtorEq, Nat.reduceAdd, rest46_eq, opLoad_s, ldA_ptr, loadL_none, dropX_zero, a3, gf, Option.isSome_some] at hr
      exact ⟨_, _, hS3, keep3, .inr hr.symm⟩
    | none =>
      rw [ho] at hS3
      obtain ⟨ff, ef, gf⟩ := hS3.gf
      have hR : ∀ env : Env, V env 43 = .str t[k].data → opRange TS false (.t (path 43)) env σ3 = some (.ptr σ3.next 0, σ3.new (.iter 0 t[k].data)) := fun env h => opRange_s h
      simp only [sA, reduceIte, Nat.reduceEqDiff, Int.reduceLT, Int.reduceLE, Int.reduceEq, Int.reduceNeg, reduceCtorEq, Nat.reduceAdd, rest46_eq, opLoad_s, opFieldAddr_s, fldA_ptr, ldA_ptr, loadL_none, dropX_zero, dropX_3, Nat.zero_add, a3, a8, gf, gc, Option.isSome_none, hR] at hr
      have hS4 := hS3.next (Fr.new σ3 (.iter 0 t[k].data))
      generalize hrr : Ew TS false (.loop L46_1) _ _ = rr at hr
      obtain ⟨eb, σ5, hS5, hn5, hk5, hh⟩ := rune_loop (bi := σ3.next) hS3.fr.next (by have := hS3.et.2; omega) (by have := hS3.el.2; omega) (by have := hS3.ef.2; omega) (by have := hS3.ew.2; omega) _ _ 0 _ _ rr (Nat.le_refl _) hS4 (St.get_new_same _ _) (Nat.lt_succ_self _) hrr (by simp only [sV, Nat.reduceEqDiff, reduceIte, Nat.reduceAdd]) (by simp only [sV, Nat.reduceEqDiff, reduceIte, Nat.reduceAdd, a3]) (by simp only [sV, Nat.reduceEqDiff, reduceIte, Nat.reduceAdd, a4])
      have hn3 : (σ3.new (.iter 0 t[k].data)).next = σ3.next + 1 := rfl
      have keep5 : Keep σ σ5 bf bw := ⟨by have := keep3.1; omega, fun b hb x y => by
        have h1 := keep3.1
        rw [hk5 b (by omega) x y (by omega), St.get_new_other _ _ (by omega), keep3.2 b hb x y]⟩
      rcases hh with ⟨hf, rfl, v0, v1, v2, v3, v4, v15, v16, v17⟩ | ⟨w, hf, rfl⟩
      · simp only [sV, Nat.reduceEqDiff, reduceIte, Nat.reduceAdd, a1, a2, a3, a4, a15, a16, a17] at v0 v1 v2 v3 v4 v15 v16 v17
        rw [hf] at hS5 ⊢
        simp only [sA, reduceIte, Nat.reduceEqDiff, Int.reduceLT, Int.reduceLE, Int.reduceEq, Int.reduceNeg, reduceCtorEq, Nat.reduceAdd, last46_eq, v17, hw] at hr
        obtain ⟨e', σ', hS', hk', hh⟩ := kids_loop ht hwf hi hk hrec hkv m (j + 1) σ5 _ r (by omega) hS5 (by rw [L46_2_eq]; simp only [last46_eq]; exact hr) (by simp only [sV, Nat.reduceEqDiff, reduceIte, Nat.reduceAdd, v1]) (by simp only [sV, Nat.reduceEqDiff, reduceIte, Nat.reduceAdd, v2]) (by simp only [sV, Nat.reduceEqDiff, reduceIte, Nat.reduceAdd, v3]) (by simp only [sV, Nat.reduceEqDiff, reduceIte, Nat.reduceAdd, v4]) (by simp only [sV, Nat.reduceEqDiff, reduceIte, Nat.reduceAdd, v15]) (by simp only [sV, Nat.reduceEqDiff, reduceIte, Nat.reduceAdd, v16]) (by simp only [sV, Nat.reduceEqDiff, reduceIte, Nat.reduceAdd])
        exact ⟨e', σ', hS', ⟨Nat.le_trans keep5.1 hk'.1, fun b hb x y => by rw [hk'.2 b (Nat.lt_of_lt_of_le hb keep5.1) x y, keep5.2 b hb x y]⟩, hh⟩
      · rw [hf] at hS5 ⊢
        simp only [sA, reduceIte, Nat.reduceEqDiff, Int.reduceLT, Int.reduceLE, Int.reduceEq, Int.reduceNeg, reduceCtorEq, Nat.reduceAdd] at hr
        exact ⟨_, _, hS5, keep5, .inr hr.symm⟩

theorem look_ok (ht : TreeI σe tv t) (hwf : ∀ n ∈ t, NWF n) (hk : KidsT t) : ∀ (f i : Nat), i < t.length → t.length - i ≤ f → ∀ σ, Sc σe σ bt bl bf bw tv none → ∃ σ', Sc σe σ' bt bl bf bw tv (scanF t f i) ∧ Keep σ σ' bf bw ∧ Cw TS false 46 [.int .i64 (i : Int), .ptr bt 0, .ptr bl 0, .ptr bf 0, .ptr bw 0] σ = some (.tuple [], σ')
  | 0, i, hi, hf, σ, hS => by omega
  | f + 1, i, hi, hf, σ, hS => by
    obtain ⟨av, kv, x1, x2⟩ := (ht.fr hS.fr).get hi
    obtain ⟨av', kv', y1, y2⟩ := ht.get hi
    have x1 := x1 .i64
    have hkv : ∀ σ', Fr σe σ' → IntsI σ' kv t[i].kids := by
      intro σ' hf'
      obtain ⟨av2, kv2, z1, z2⟩ := (ht.fr hf').get hi
      have e1 := x2.l5
      have e2 := y2.l5
      have hfr := (hS.fr)
      have : kv' = kv := by
        have h1 : ldA σ none (fp 5 (ixp 6 tv i)) = some kv' := by
          obtain ⟨cs, c1, c2⟩ := ht
          have c3 := (c1.fr hfr).ix hi (k := .i64)
          obtain ⟨a1, a2, ds, d1, d2, d3⟩ := c2.drop hi
          have c4 := c3.2
          have c5 := (c1.ix hi (k := .i64)).2
          rw [d2, d1.1] at c4 c5
          have q1 := ((c4.fld (off := 5) (by simp)).2).ld
          have q2 := ((c5.fld (off := 5) (by simp)).2).ld
          rw [q1]
          rw [e2] at q2
          exact q2.symm
        rw [e1] at h1
        exact (Option.some.inj h1).symm
      rw [← this]
      exact y2.kids.fr hf'
    have hl := SlI.len (hkv σ hS.fr)
    obtain ⟨ft, et, gt⟩ := hS.gt
    rw [Cw_of fn46 false _ σ rfl]
    simp only [c46, sA, reduceIte, Nat.reduceEqDiff, Int.reduceLT, Int.reduceLE, Int.reduceEq, Int.reduceNeg, reduceCtorEq, Nat.reduceAdd, opIaSl_s, opLoad_s, opFieldAddr_s, ldA_ptr, loadL_none, dropX_zero, gt, x1, x2.f5, x2.l5, hl]
    generalize hr : Ew TS false (.loop L46_2) _ _ = r
    have hsc : scanF t (f + 1) i = scanL (scanK t f) t[i].kids := by
      rw [scanF, getD_at hi]; rfl
    obtain ⟨e', σ', hS', hk', rfl | rfl⟩ := kids_loop ht hwf hi hk (fun k hik hkt σ hS => look_ok ht hwf hk f k hkt (by omega) σ hS) hkv t[i].kids.length 0 σ _ r (by omega) hS hr (by simp only [sV, Nat.reduceEqDiff, reduceIte, Nat.reduceAdd]) (by simp only [sV, Nat.reduceEqDiff, reduceIte, Nat.reduceAdd]) (by simp only [sV, Nat.reduceEqDiff, reduceIte, Nat.reduceAdd]) (by simp only [sV, Nat.reduceEqDiff, reduceIte, Nat.reduceAdd]) (by simp only [sV, Nat.reduceEqDiff, reduceIte, Nat.reduceAdd]) (by simp only [sV, Nat.reduceEqDiff, reduceIte, Nat.reduceAdd]) (by simp only [sV, Nat.reduceEqDiff, reduceIte, Nat.reduceAdd]; rfl)
    · refine ⟨σ', ?_, hk', by simp only [sA, reduceIte, Nat.reduceEqDiff, Int.reduceLT, Int.reduceLE, Int.reduceEq, Int.reduceNeg, reduceCtorEq, Nat.reduceAdd]⟩
      rw [hsc]; exact hS'
    · refine ⟨σ', ?_, hk', by simp only [sA, reduceIte, Nat.reduceEqDiff, Int.reduceLT, Int.reduceLE, Int.reduceEq, Int.reduceNeg, reduceCtorEq, Nat.reduceAdd]⟩
      rw [hsc]; exact hS'
end
end Go.Ab.Dirs
end

set_option maxRecDepth 10000
noncomputable section
namespace Go.Ab.Dirs
open Go Go.Ab

theorem flts_cons {T : Tab} {cf : CF} {k : Nat} {σ : St} {f : Flt} {l : List Flt} : fltsStay T cf k σ (f :: l) = ((decide (f.hi < k) || stays T cf f.op f.env f.v σ) && fltsStay T cf k σ l) := rfl
theorem stays_eq {T : Tab} {cf : CF} {op : AOp} {env : Env} {v : AVal} {σ : St} : stays T cf op env v σ = (match stepOp T cf true op env σ with | some r => eqA v r.1 | none => false) := rfl

def wayV (o : Option Nat) : AVal := .tuple [.int .u8 ((o.getD 0 : Nat) : Int), .bool o.isSome]
/-- What scanning tells. -/
def scanS (t : List ND) (i : Nat) : Option Nat := scanF t t.length i

set_option maxHeartbeats 4000000 in
theorem scan_ok {σ : St} {t : List ND} {tv : AVal} (ht : TreeI σ tv t) (hwf : ∀ n ∈ t, NWF n) (hk : KidsT t) {i : Nat} (hi : i < t.length) :
    ∃ σ', Fr σ σ' ∧ Cw TS false 29 [tv, .int .i64 (i : Int)] σ = some (wayV (scanS t i), σ') := by
  have o1 := cells_one ht.one
  have hS : Sc σ (((((σ.new (.cells true 23 [tv])).new (.cells true 5 [.int .u8 0])).new (.cells true 4 [.bool false])).new (.cells true 69 [.nilf])).put (((σ.new (.cells true 23 [tv])).new (.cells true 5 [.int .u8 0])).new (.cells true 4 [.bool false])).next (.cells true 69 [.func 46 [] [.ptr σ.next 0, .ptr (((σ.new (.cells true 23 [tv])).new (.cells true 5 [.int .u8 0])).new (.cells true 4 [.bool false])).next 0, .ptr ((σ.new (.cells true 23 [tv])).new (.cells true 5 [.int .u8 0])).next 0, .ptr (σ.new (.cells true 23 [tv])).next 0]])) σ.next (((σ.new (.cells true 23 [tv])).new (.cells true 5 [.int .u8 0])).new (.cells true 4 [.bool false])).next ((σ.new (.cells true 23 [tv])).new (.cells true 5 [.int .u8 0])).next (σ.new (.cells true 23 [tv])).next tv none := by
    simp only [St.new_next]
    refine ⟨?_, ⟨true, 23, ?_⟩, ⟨true, 69, ?_⟩, ⟨true, 4, ?_⟩, ⟨true, 5, ?_⟩, ?_, ?_, ?_, ?_, ?_⟩
    · refine Fr.put ?_ (by omega) _
      exact (((Fr.new _ _).trans (Fr.new _ _)).trans (Fr.new _ _)).trans (Fr.new _ _)
    · rw [St.get_put_other _ _ (by omega), St.get_new_other _ _ (by simp only [St.new_next]; omega), St.get_new_other _ _ (by simp only [St.new_next]; omega), St.get_new_other _ _ (by simp only [St.new_next]; omega), St.get_new_same]
    · rw [St.get_put_same]
    · rw [St.get_put_other _ _ (by omega), St.get_new_other _ _ (by simp only [St.new_next]; omega)]
      exact St.get_new_same _ _
    · rw [St.get_put_other _ _ (by omega), St.get_new_other _ _ (by simp only [St.new_next]; omega), St.get_new_other _ _ (by simp only [St.new_next]; omega)]
      exact St.get_new_same _ _
    all_goals (try simp only [St.put_next, St.new_next]) <;> omega
  generalize e5 : ((((σ.new (.cells true 23 [tv])).new (.cells true 5 [.int .u8 0])).new (.cells true 4 [.bool false])).new (.cells true 69 [.nilf])).put (((σ.new (.cells true 23 [tv])).new (.cells true 5 [.int .u8 0])).new (.cells true 4 [.bool false])).next (.cells true 69 [.func 46 [] [.ptr σ.next 0, .ptr (((σ.new (.cells true 23 [tv])).new (.cells true 5 [.int .u8 0])).new (.cells true 4 [.bool false])).next 0, .ptr ((σ.new (.cells true 23 [tv])).new (.cells true 5 [.int .u8 0])).next 0, .ptr (σ.new (.cells true 23 [tv])).next 0]]) = σ5 at hS
  obtain ⟨σ6, hS6, -, hC⟩ := look_ok ht hwf hk t.length i hi (by omega) σ5 hS
  obtain ⟨fl, el, gl⟩ := hS.gl
  obtain ⟨fw, ew, gw⟩ := hS6.gw
  obtain ⟨ff, ef, gf⟩ := hS6.gf
  have hne := hS6.ne.1
  have g1 : ∀ o, (σ6.put (σ.new (.cells true 23 [tv])).next o).get ((σ.new (.cells true 23 [tv])).new (.cells true 5 [.int .u8 0])).next = some (.cells ff ef [.bool (scanF t t.length i).isSome]) := fun o => by rw [St.get_put_other _ _ hne]; exact gf
  have g2 : ∀ o o', ((σ6.put (σ.new (.cells true 23 [tv])).next o).put ((σ.new (.cells true 23 [tv])).new (.cells true 5 [.int .u8 0])).next o').get (σ.new (.cells true 23 [tv])).next = some o := fun o o' => by rw [St.get_put_other _ _ (Ne.symm hne), St.get_put_same]
  refine ⟨(σ6.put (σ.new (.cells true 23 [tv])).next (.cells fw ew [.int .u8 (((scanF t t.length i).getD 0 : Nat) : Int)])).put ((σ.new (.cells true 23 [tv])).new (.cells true 5 [.int .u8 0])).next (.cells ff ef [.bool (scanF t t.length i).isSome]), (hS6.fr.put hS.ew.1 _).put hS.ef.1 _, ?_⟩
  rw [Cw_of fn29 false _ σ rfl]
  simp only [c29, sC, reduceIte, Nat.reduceEqDiff, sD, envOf_cons, envOf_nil, Nat.reduceAdd, fin_ret, opBox, opAlloc, St.newK_eq, o1, Bool.false_eq_true, opMkFunc, argsOf, opMov, opStore_s, stS_ptr, St.get_new_same, cells_func, allOne, one_func, lenL_eq, List.length_cons, List.length_nil, Nat.zero_add, Bool.and_true, and_true, true_and, putX_all1, e5, opLoad_s, ldA_ptr, gl, dropX_zero, loadL_none, opCallV, List.nil_append, List.cons_append, hC, gw, gf, Nat.lt_add_one, flts_cons, stays_eq, g1, eqA, beq_self_eq_true, cells_int, one_int, cells_bool, one_bool, Nat.lt_irrefl, decide_false, Bool.false_or, decide_true, Bool.true_or, resV, resAll, resOne, g2, St.get_put_same, Nat.zero_lt_one, Nat.reduceLT]
  rfl
end Go.Ab.Dirs
end

set_option maxRecDepth 100000
noncomputable section
namespace Go.Ab.Dirs
open Go Go.Ab

theorem take_mem {s : List Nat} {n c : Nat} (h : c ∈ s.take n) : ∃ i, i < n ∧ i < s.length ∧ c = s.getD i 0 := by
  obtain ⟨i, hi, rfl⟩ := List.mem_iff_getElem.1 h
  rw [List.length_take] at hi
  refine ⟨i, by omega, by omega, ?_⟩
  rw [List.getElem_take, getD_at (by omega)]
theorem cut_head {s : List Nat} {n : Nat} (h : cutS s = some n) : (s.getD 0 0 = 0 ∧ n = 1 ∧ (decodeL s).1 = 0) ∨ ((decodeL s).1 ≠ 0 ∧ ∀ c ∈ s.take n, c ≠ 0) := by
  by_cases h0 : s.getD 0 0 < 128
  · have hn : n = 1 := by unfold cutS at h; rw [if_pos h0] at h; simpa using h.symm
    rw [decode_1 h0]
    by_cases hz : s.getD 0 0 = 0
    · exact .inl ⟨hz, hn, hz⟩
    · refine .inr ⟨hz, fun c hc => ?_⟩
      obtain ⟨i, h1, _, rfl⟩ := take_mem hc
      obtain rfl : i = 0 := by omega
      exact hz
  right
  have k0 : sizeS (s.getD 0 0) ≠ 0 := fun e => by rw [cut_none e] at h; exact absurd h (by simp)
  have k1 : sizeS (s.getD 0 0) ≠ 1 := fun e => h0 (size_eq1 e)
  have hb := size_big k0 k1
  have hg : goodAll s := Classical.byContradiction fun hg => by rw [cut_bad hb.1 hb.2 hg] at h; exact absurd h (by simp)
  have hn : n = sizeS (s.getD 0 0) := by rw [cut_good hb.1 hb.2 hg] at h; simpa using h.symm
  obtain ⟨g1, g2, g3⟩ := hg
  have z4 := size_le (s.getD 0 0)
  have hlo := sec_lo (g1.2.1 rfl)
  have t1 := g1.2.2
  constructor
  · by_cases c2 : sizeS (s.getD 0 0) = 2
    · have := size_eq2 c2; rw [decode_2 c2 g1]; simp only; omega
    by_cases c3 : sizeS (s.getD 0 0) = 3
    · have := size_eq3 c3; rw [decode_3 c3 g1 (g2 (by omega))]; simp only; omega
    have c4 : sizeS (s.getD 0 0) = 4 := by omega
    have := size_eq4 c4; rw [decode_4 c4 g1 (g2 (by omega)) (g3 (by omega))]; simp only; omega
  · intro c hc
    obtain ⟨i, h1, _, rfl⟩ := take_mem hc
    obtain rfl | rfl | rfl | rfl : i = 0 ∨ i = 1 ∨ i = 2 ∨ i = 3 := by omega
    · omega
    · omega
    · have := (g2 (by omega)).2.2; omega
    · have := (g3 (by omega)).2.2; omega

theorem well_cut {s : List Nat} {n : Nat} (hl : 0 < s.length) (hn : 0 < n) (h : cutS s = some n) : wellS s = (decide ((decodeL s).1 ≠ 0) && wellS (s.drop n)) := by
  unfold wellS
  rw [validS_some hl hn h]
  have e : (s.all fun c => decide (c ≠ 0)) = ((s.take n).all (fun c => decide (c ≠ 0)) && (s.drop n).all fun c => decide (c ≠ 0)) := by
    rw [← List.all_append, List.take_append_drop]
  rw [e]
  rcases cut_head h with ⟨h0, h1, h2⟩ | ⟨h1, h2⟩
  · have : ((s.take n).all fun c => decide (c ≠ 0)) = false := by
      rw [h1]
      cases s with
      | nil => exact absurd hl (by decide)
      | cons a l => simp at h0; simp [h0]
    rw [this, h2]; simp
  · have : ((s.take n).all fun c => decide (c ≠ 0)) = true := by
      rw [List.all_eq_true]; intro c hc; exact decide_eq_true (h2 c hc)
    rw [this, decide_eq_true h1]; simp
theorem well_none {s : List Nat} (hl : 0 < s.length) (h : cutS s = none) : wellS s = false := by
  unfold wellS; rw [validS_none hl h]; rfl
theorem well_nil : wellS [] = true := by unfold wellS; rw [validS_nil]; rfl

theorem i32_zero {n : Nat} : ((n : Int) = 0) = (n = 0) := propext (by omega)

theorem rwell_loop {s : List Nat} (hs : ∀ c ∈ s, c < 256) (hb : s.length < 9223372036854775808) : ∀ (m i : Nat) (env : Env) (σ : St) (r : Option (Out × Env × St)), Ew TS false (.loop L22_1) env σ = r → s.length ≤ i + m → i ≤ s.length →
    V env 0 = .str s → V env 3 = .int .i64 i →
    ∃ e σ', Fr σ σ' ∧ ((wellS (s.drop i) = true ∧ r = some (.exit 0, e, σ')) ∨ (wellS (s.drop i) = false ∧ r = some (.ret, e, σ') ∧ V e 2 = .bool false))
  | m, i, env, σ, r, hr, hm, hi, h0, h3 => by
    by_cases hlt : ((i : Int) < (s.length : Int))
    · have hl : 0 < (s.drop i).length := by rw [List.length_drop]; omega
      have hsf := sfrom_nat (s := s) (k := .i64) (n := i) (by omega)
      obtain ⟨σ1, hf1, h⟩ := Cut_ok σ (drop_bytes hs i) hl
      rw [Ew_loop] at hr
      rcases h with ⟨n, hc, hn, hnl, hd, hC⟩ | ⟨hc, k, hC⟩
      · obtain ⟨σ3, e3⟩ : ∃ x, x = (σ1.new (.cells true 58 [.int .i32 0, .int .i64 0, .bool false])).put σ1.next (.cells true 58 [.int .i32 ((decodeL (s.drop i)).1 : Int), .int .i64 (n : Int), .bool true]) := ⟨_, rfl⟩
        have hf3 : Fr σ σ3 := by rw [e3]; exact hf1.trans ((Fr.new _ _).put (Nat.le_refl _) _)
        have hg3 : σ3.get σ1.next = some (.cells true 58 [.int .i32 ((decodeL (s.drop i)).1 : Int), .int .i64 (n : Int), .bool true]) := by rw [e3, St.get_put_same]
        by_cases hz : (decodeL (s.drop i)).1 = 0
        · have hz' : (((decodeL (s.drop i)).1 : Int) = 0) = True := eq_true (by omega)
          simp only [L22_1, sA, reduceIte, Nat.reduceEqDiff, Int.reduceLT, Int.reduceLE, Int.reduceEq, Int.reduceNeg, reduceCtorEq, Nat.reduceAdd, sM, h0, h3, hlt, opSlStr_from, hsf, opCall, argsOf, hC, ← e3, hg3, hz'] at hr
          refine ⟨_, _, hf3, .inr ⟨?_, hr.symm, by simp only [sV, Nat.reduceEqDiff, reduceIte, Nat.reduceAdd]⟩⟩
          rw [well_cut hl hn hc, hz]; rfl
        · have hz' : ¬ (((decodeL (s.drop i)).1 : Int) = 0) := by omega
          cases m with
          | zero => omega
          | succ m =>
            have hnl' : n ≤ s.length - i := by rw [← List.length_drop]; exact hnl
            have hw : wrapI .i64 ((i : Int) + (n : Int)) = ((i + n : Nat) : Int) := by rw [wrap_i64 (by omega) (by omega)]; omega
            simp only [L22_1, sA, reduceIte, Nat.reduceEqDiff, Int.reduceLT, Int.reduceLE, Int.reduceEq, Int.reduceNeg, reduceCtorEq, Nat.reduceAdd, sM, h0, h3, hlt, opSlStr_from, hsf, opCall, argsOf, hC, ← e3, hg3, hz', hw] at hr
            obtain ⟨e, σ4, hf4, h⟩ := rwell_loop hs hb m (i + n) _ σ3 r hr (by omega) (by omega) (by simp only [sV, Nat.reduceEqDiff, reduceIte, Nat.reduceAdd, h0]) (by simp only [sV, Nat.reduceEqDiff, reduceIte, Nat.reduceAdd])
            refine ⟨e, σ4, hf3.trans hf4, ?_⟩
            have hz2 : decide ((decodeL (s.drop i)).1 ≠ 0) = true := decide_eq_true hz
            rw [well_cut hl hn hc, hz2, List.drop_drop, Bool.true_and]
            exact h
      · obtain ⟨σ3, e3⟩ : ∃ x, x = (σ1.new (.cells true 58 [.int .i32 0, .int .i64 0, .bool false])).put σ1.next (.cells true 58 [.int .i32 65533, .int .i64 (k : Int), .bool false]) := ⟨_, rfl⟩
        have hf3 : Fr σ σ3 := by rw [e3]; exact hf1.trans ((Fr.new _ _).put (Nat.le_refl _) _)
        have hg3 : σ3.get σ1.next = some (.cells true 58 [.int .i32 65533, .int .i64 (k : Int), .bool false]) := by rw [e3, St.get_put_same]
        simp only [L22_1, sA, reduceIte, Nat.reduceEqDiff, Int.reduceLT, Int.reduceLE, Int.reduceEq, Int.reduceNeg, reduceCtorEq, Nat.reduceAdd, sM, h0, h3, hlt, opSlStr_from, hsf, opCall, argsOf, hC, ← e3, hg3] at hr
        exact ⟨_, _, hf3, .inr ⟨well_none hl hc, hr.symm, by simp only [sV, Nat.reduceEqDiff, reduceIte, Nat.reduceAdd]⟩⟩
    · rw [Ew_loop] at hr
      simp only [L22_1, sA, reduceIte, Nat.reduceEqDiff, Int.reduceLT, Int.reduceLE, Int.reduceEq, Int.reduceNeg, reduceCtorEq, Nat.reduceAdd, h0, h3, hlt] at hr
      refine ⟨_, _, Fr.refl _, .inl ⟨?_, hr.symm⟩⟩
      rw [List.drop_eq_nil_of_le (by omega)]; exact well_nil

theorem rwell_ok (s : List Nat) (σ : St) (h : SWF s) : ∃ σ', Fr σ σ' ∧ Cw TS false 22 [.str s] σ = some (.bool (wellS s), σ') := by
  rw [Cw_of fn22 false _ σ rfl]
  simp only [c22, sA, reduceIte, Nat.reduceEqDiff, Int.reduceLT, Int.reduceLE, Int.reduceEq, Int.reduceNeg, reduceCtorEq, Nat.reduceAdd]
  generalize hr : Ew TS false (.loop L22_1) _ σ = r
  obtain ⟨e, σ', hf, ⟨h1, rfl⟩ | ⟨h1, rfl, h3⟩⟩ := rwell_loop h.1 h.2 s.length 0 _ σ r hr (by omega) (by omega) (by simp only [sV, Nat.reduceEqDiff, reduceIte, Nat.reduceAdd]) (by simp only [sV, Nat.reduceEqDiff, reduceIte, Nat.reduceAdd]; rfl)
  · have h1 : wellS s = true := h1
    simp only [sA, reduceIte, Nat.reduceEqDiff, Int.reduceLT, Int.reduceLE, Int.reduceEq, Int.reduceNeg, reduceCtorEq, Nat.reduceAdd, h1]
    exact ⟨_, hf, rfl⟩
  · have h1 : wellS s = false := h1
    simp only [sA, reduceIte, Nat.reduceEqDiff, Int.reduceLT, Int.reduceLE, Int.reduceEq, Int.reduceNeg, reduceCtorEq, Nat.reduceAdd, h1, h3]
    exact ⟨_, hf, rfl⟩

/-! Slices that are built by append. -/
structure OwnV (σ : St) (ty : TypeId) (v : AVal) (l : List AVal) (lo : Nat) : Prop where
  le : lo ≤ σ.next
  at' : (l = [] ∧ v = .nils) ∨ (∃ b f, v = .slice b 0 l.length 1 ∧ lo ≤ b ∧ b < σ.next ∧ σ.get b = some (.cells f ty l))
theorem OwnV.fr {σ σ' : St} {ty : TypeId} {v : AVal} {l : List AVal} {lo : Nat} (h : OwnV σ ty v l lo) (hf : Fr σ σ') : OwnV σ' ty v l lo := by
  refine ⟨Nat.le_trans h.le hf.next, ?_⟩
  rcases h.at' with h | ⟨b, f, h1, h2, h3, h4⟩
  · exact .inl h
  · exact .inr ⟨b, f, h1, h2, Nat.lt_of_lt_of_le h3 hf.next, by rw [hf.get _ h3]; exact h4⟩
theorem OwnV.sl {σ : St} {ty : TypeId} {v : AVal} {l : List AVal} {lo : Nat} (h : OwnV σ ty v l lo) : SlI σ 1 v l.length l := by
  rcases h.at' with ⟨rfl, rfl⟩ | ⟨b, f, rfl, h2, h3, h4⟩
  · exact ⟨trivial, rfl⟩
  · refine ⟨h3, ?_⟩
    simp only [cellsIn, h4, if_true]
    rw [sub_eq.2 ⟨by omega, rfl⟩]
    simp
theorem ap_v {σ : St} {ty : TypeId} {v x : AVal} {l : List AVal} {lo c bytes : Nat} (h : OwnV σ ty v l lo) (hx : x.one = true) (hc : σ.get c = some (.cells true ty [x])) (hb : (l.length + 1) * bytes ≤ 1099511627776) :
    ∃ v' σ', apS σ ty 1 bytes v (.slice c 0 1 1) = some (v', σ') ∧ OwnV σ' ty v' (l ++ [x]) lo ∧ (∀ σ0, Fr σ0 σ → σ0.next ≤ lo → Fr σ0 σ') ∧ (∀ σe, OwnV σe ty v l lo → ∀ d, σe.next ≤ d → d < σ.next → σ'.get d = σ.get d) := by
  have hci : cellsIn σ 1 (.slice c 0 1 1) = some (0 + 1, [x]) := by
    simp only [cellsIn, hc, if_true]
    rw [sub_eq.2 ⟨by simp, rfl⟩]; rfl
  rcases h.at' with ⟨rfl, rfl⟩ | ⟨b, f, rfl, h2, h3, h4⟩
  · refine ⟨.slice σ.next 0 1 1, σ.new (.cells false ty [x]), ?_, ⟨Nat.le_succ_of_le h.le, .inr ⟨σ.next, false, rfl, h.le, Nat.lt_succ_self _, St.get_new_same _ _⟩⟩, fun σ0 hf _ => hf.trans (Fr.new _ _), fun σe _ d _ hd => (Fr.new _ _).get d hd⟩
    unfold apS
    simp only [hci, allOne, hx, Bool.and_true, and_true, Nat.zero_add]
    rw [if_pos (by simpa using hb)]
  · have hsub : sub l 0 (l.length * 1) = some l := by
      rw [sub_eq.2 ⟨by omega, rfl⟩]; simp
    refine ⟨.slice σ.next 0 (l.length + 1) 1, (σ.kill b).new (.cells false ty (l ++ [x])), ?_, ⟨Nat.le_succ_of_le h.le, .inr ⟨σ.next, false, by simp, h.le, Nat.lt_succ_self _, by rw [show σ.next = (σ.kill b).next from rfl, St.get_new_same]⟩⟩, fun σ0 hf hlo => (hf.kill (Nat.le_trans hlo h2)).trans (Fr.new _ _), fun σe he d h5 h6 => ?_⟩
    rotate_left
    · rcases he.at' with ⟨_, k⟩ | ⟨b', f', k1, k2, k3, k4⟩
      · exact absurd k (by simp)
      · have : b = b' := by simp at k1; exact k1
        rw [St.get_new_other _ _ (by rw [St.kill_next]; omega), St.get_kill_other _ (by omega)]
    unfold apS
    simp only [hci, h4, hsub, if_true, allOne, hx, Bool.and_true, and_true, true_and, Nat.zero_add]
    rw [if_pos hb]

/-- The characters of a text that is well-formed. -/
def runeL : Nat → List Nat → List Nat
  | 0, _ => []
  | m + 1, s => if s = [] then [] else (decodeL s).1 :: runeL m (s.drop (decodeL s).2)
def runeV (l : List Nat) : List AVal := l.map fun x : Nat => AVal.int .i32 (x : Int)
theorem runeL_le : ∀ (m : Nat) (s : List Nat), (runeL m s).length ≤ m
  | 0, _ => Nat.le_refl _
  | m + 1, s => by
    unfold runeL
    split
    · simp
    · have := runeL_le m (s.drop (decodeL s).2); simp; exact this

theorem runes_loop {s : List Nat} (hs : ∀ c ∈ s, c < 256) (hb : s.length < 1000000000) {lo : Nat} {σ0 : St} (h0' : σ0.next ≤ lo) : ∀ (m i : Nat) (pre : List Nat) (v : AVal) (env : Env) (σ : St) (r : Option (Out × Env × St)), Ew TS false (.loop L51_1) env σ = r → s.length ≤ i + m → i ≤ s.length → pre.length ≤ i → validS (s.drop i) = true → Fr σ0 σ →
    V env 0 = .str s → V env 4 = .int .i64 i → V env 3 = v → OwnV σ 21 v (runeV pre) lo →
    ∃ e σ' v', Fr σ0 σ' ∧ r = some (.exit 0, e, σ') ∧ V e 3 = v' ∧ OwnV σ' 21 v' (runeV (pre ++ runeL m (s.drop i))) lo
  | m, i, pre, v, env, σ, r, hr, hm, hi, hp, hv, hf0, h0, h4, h3, hO => by
    by_cases hlt : ((i : Int) < (s.length : Int))
    · have hl : 0 < (s.drop i).length := by rw [List.length_drop]; omega
      have hsf := sfrom_nat (s := s) (k := .i64) (n := i) (by omega)
      obtain ⟨σ1, hf1, h⟩ := Cut_ok σ (drop_bytes hs i) hl
      rw [Ew_loop] at hr
      rcases h with ⟨n, hc, hn, hnl, hd, hC⟩ | ⟨hc, k, hC⟩
      · have hnl' : n ≤ s.length - i := by rw [← List.length_drop]; exact hnl
        cases m with
        | zero => omega
        | succ m =>
          obtain ⟨σ3, e3⟩ : ∃ x, x = (σ1.new (.cells true 58 [.int .i32 0, .int .i64 0, .bool false])).put σ1.next (.cells true 58 [.int .i32 ((decodeL (s.drop i)).1 : Int), .int .i64 (n : Int), .bool true]) := ⟨_, rfl⟩
          have hf3 : Fr σ σ3 := by rw [e3]; exact hf1.trans ((Fr.new _ _).put (Nat.le_refl _) _)
          have hlt3 : σ1.next < σ3.next := by rw [e3]; exact Nat.lt_succ_self _
          have hg3 : σ3.get σ1.next = some (.cells true 58 [.int .i32 ((decodeL (s.drop i)).1 : Int), .int .i64 (n : Int), .bool true]) := by rw [e3, St.get_put_same]
          obtain ⟨σ4, e4⟩ : ∃ x, x = σ3.new (.cells true 21 [.int .i32 ((decodeL (s.drop i)).1 : Int)]) := ⟨_, rfl⟩
          have hf4 : Fr σ3 σ4 := by rw [e4]; exact Fr.new _ _
          have hg4 : σ4.get σ3.next = some (.cells true 21 [.int .i32 ((decodeL (s.drop i)).1 : Int)]) := by rw [e4, St.get_new_same]
          have hO4 := (hO.fr hf3).fr hf4
          obtain ⟨v', σ5, hap, hO5, hfr5, hk5⟩ := ap_v (bytes := 4) hO4 rfl hg4 (by rw [runeV, List.length_map]; omega)
          have hf05 : Fr σ0 σ5 := hfr5 σ0 ((hf0.trans hf3).trans hf4) h0'
          have hg5 : σ5.get σ1.next = some (.cells true 58 [.int .i32 ((decodeL (s.drop i)).1 : Int), .int .i64 (n : Int), .bool true]) := by
            rw [hk5 σ hO _ hf1.next (Nat.lt_of_lt_of_le hlt3 hf4.next), hf4.get _ hlt3]; exact hg3
          have hw : wrapI .i64 ((i : Int) + (n : Int)) = ((i + n : Nat) : Int) := by rw [wrap_i64 (by omega) (by omega)]; omega
          simp only [L51_1, sA, reduceIte, Nat.reduceEqDiff, Int.reduceLT, Int.reduceLE, Int.reduceEq, Int.reduceNeg, reduceCtorEq, Nat.reduceAdd, sM, h0, h3, h4, hlt, opSlStr_from, hsf, opCall, argsOf, hC, ← e3, hg3, opBuildSlice_s, List.map_cons, List.map_nil, bsS, fillL_int1, ← e4, opAppend_s, hap, hg5, hw] at hr
          have hv' : validS (s.drop (i + n)) = true := by rw [← List.drop_drop, ← validS_some hl hn hc]; exact hv
          have hO5' : OwnV σ5 21 v' (runeV (pre ++ [(decodeL (s.drop i)).1])) lo := by rw [runeV, List.map_append]; exact hO5
          obtain ⟨e, σ', v2, hf, hr, hv2, hO2⟩ := runes_loop hs hb h0' m (i + n) (pre ++ [(decodeL (s.drop i)).1]) v' _ σ5 r hr (by omega) (by omega) (by simp; omega) hv' hf05 (by simp only [sV, Nat.reduceEqDiff, reduceIte, Nat.reduceAdd, h0]) (by simp only [sV, Nat.reduceEqDiff, reduceIte, Nat.reduceAdd]) (by simp only [sV, Nat.reduceEqDiff, reduceIte, Nat.reduceAdd]) hO5'
          refine ⟨e, σ', v2, hf, hr, hv2, ?_⟩
          rw [runeL, if_neg (by intro h; rw [h] at hl; exact absurd hl (by decide)), hd, List.drop_drop]
          simpa using hO2
      · rw [validS_none hl hc] at hv; exact absurd hv (by decide)
    · rw [Ew_loop] at hr
      simp only [L51_1, sA, reduceIte, Nat.reduceEqDiff, Int.reduceLT, Int.reduceLE, Int.reduceEq, Int.reduceNeg, reduceCtorEq, Nat.reduceAdd, h0, h3, h4, hlt] at hr
      refine ⟨_, _, _, hf0, hr.symm, rfl, ?_⟩
      have : runeL m (s.drop i) = [] := by
        rw [List.drop_eq_nil_of_le (by omega)]; cases m <;> rfl
      rw [this, List.append_nil]
      simp only [sV, Nat.reduceEqDiff, reduceIte, Nat.reduceAdd, h3]
      exact hO
theorem Runes_ok {s : List Nat} (σ : St) (hs : ∀ c ∈ s, c < 256) (hb : s.length < 1000000000) (hv : validS s = true) :
    ∃ σ' v, Fr σ σ' ∧ Cw TS false 51 [.str s] σ = some (v, σ') ∧ SlI σ' 1 v (runeL s.length s).length (runeV (runeL s.length s)) := by
  rw [Cw_of fn51 false _ σ rfl]
  simp only [c51, sA, reduceIte, Nat.reduceEqDiff, Int.reduceLT, Int.reduceLE, Int.reduceEq, Int.reduceNeg, reduceCtorEq, Nat.reduceAdd]
  generalize hr : Ew TS false (.loop L51_1) _ σ = r
  obtain ⟨e, σ', v, hf, rfl, h3, hO⟩ := runes_loop hs hb (σ0 := σ) (lo := σ.next) (Nat.le_refl _) s.length 0 [] .nils _ σ r hr (by omega) (by omega) (by simp) hv (Fr.refl _) (by simp only [sV, Nat.reduceEqDiff, reduceIte, Nat.reduceAdd]) (by simp only [sV, Nat.reduceEqDiff, reduceIte, Nat.reduceAdd]; rfl) (by simp only [sV, Nat.reduceEqDiff, reduceIte, Nat.reduceAdd]) ⟨Nat.le_refl _, .inl ⟨rfl, rfl⟩⟩
  simp only [sA, reduceIte, Nat.reduceEqDiff, Int.reduceLT, Int.reduceLE, Int.reduceEq, Int.reduceNeg, reduceCtorEq, Nat.reduceAdd, h3]
  refine ⟨_, _, hf, rfl, ?_⟩
  have := hO.sl
  rw [runeV, List.length_map] at this
  exact this

def clsL : List Nat → Option Nat
  | [] => none
  | c :: l => match clsW (classS (c : Int)) with | some w => some w | none => clsL l
theorem clsL_rune : ∀ (m : Nat) (s : List Nat), s.length ≤ m → clsL (runeL m s) = firstS s
  | 0, s, h => by
    have : s = [] := List.eq_nil_of_length_eq_zero (by omega)
    subst this; rw [firstS_nil]; rfl
  | m + 1, s, h => by
    unfold runeL
    by_cases hs : s = []
    · rw [if_pos hs, hs, firstS_nil]; rfl
    · rw [if_neg hs, clsL]
      have := decodeL_size hs
      cases hw : clsW (classS ((decodeL s).1 : Int)) with
      | some w => rw [firstS_some hs hw]
      | none => rw [firstS_none hs hw]; exact clsL_rune m _ (by rw [List.length_drop]; omega)

theorem first_rloop {σ0 : St} {v : AVal} {l : List Nat} (hv : SlI σ0 1 v l.length (runeV l)) (hb : l.length < 9223372036854775800) : ∀ (m i : Nat) (env : Env) (σ : St) (r : Option (Out × Env × St)), Ew TS false (.loop L34_1) env σ = r → i + m = l.length → Fr σ0 σ →
    V env 4 = v → V env 5 = .int .i64 i →
    ∃ e σ', Fr σ0 σ' ∧ ((clsL (l.drop i) = none ∧ r = some (.exit 0, e, σ')) ∨ (∃ w, clsL (l.drop i) = some w ∧ r = some (.ret, e, σ') ∧ V e 2 = .int .u8 (w : Int) ∧ V e 3 = .bool true))
  | 0, i, env, σ, r, hr, hi, hf, h4, h5 => by
    have hlt : ¬ ((i : Int) < (l.length : Int)) := by omega
    have hlen := hv.len
    rw [Ew_loop] at hr
    simp only [L34_1, sA, reduceIte, Nat.reduceEqDiff, Int.reduceLT, Int.reduceLE, Int.reduceEq, Int.reduceNeg, reduceCtorEq, Nat.reduceAdd, h4, h5, hlen, hlt] at hr
    refine ⟨_, _, hf, .inl ⟨?_, hr.symm⟩⟩
    rw [List.drop_eq_nil_of_le (by omega)]; rfl
  | m + 1, i, env, σ, r, hr, hi, hf, h4, h5 => by
    have hil : i < l.length := by omega
    have hlt : ((i : Int) < (l.length : Int)) := by omega
    have hlen := hv.len
    have hw : wrapI .i64 ((i : Int) + 1) = ((i + 1 : Nat) : Int) := by rw [wrap_i64 (by omega) (by omega)]; omega
    obtain ⟨x1, x2⟩ := (hv.fr hf).ix hil (k := .i64)
    have hd : (runeV l).drop (i * 1) = .int .i32 (l[i] : Int) :: (runeV l).drop (i + 1) := by
      rw [Nat.mul_one, List.drop_eq_getElem_cons (by rw [runeV, List.length_map]; exact hil)]; simp [runeV]
    rw [hd] at x2
    have x2 := x2.ld
    obtain ⟨σ2, hf2, hC⟩ := RefClass_ok (l[i] : Int) σ
    rw [refClassS_eq] at hC
    rw [List.drop_eq_getElem_cons hil, clsL]
    rw [Ew_loop] at hr
    by_cases c1 : classS (l[i] : Int) = 1
    · have c1' := eq_true c1
      simp only [L34_1, sA, reduceIte, Nat.reduceEqDiff, Int.reduceLT, Int.reduceLE, Int.reduceEq, Int.reduceNeg, reduceCtorEq, Nat.reduceAdd, opIaSl_s, opLoad_s, h4, h5, hlen, hlt, x1, x2, opCall, argsOf, hC, c1'] at hr
      exact ⟨_, _, hf.trans hf2, .inr ⟨0, by unfold clsW; rw [if_pos c1], hr.symm, by simp only [sV, Nat.reduceEqDiff, reduceIte, Nat.reduceAdd]; rfl, by simp only [sV, Nat.reduceEqDiff, reduceIte, Nat.reduceAdd]⟩⟩
    by_cases c2 : classS (l[i] : Int) = 2
    · have c2' := eq_true c2
      simp only [L34_1, sA, reduceIte, Nat.reduceEqDiff, Int.reduceLT, Int.reduceLE, Int.reduceEq, Int.reduceNeg, reduceCtorEq, Nat.reduceAdd, opIaSl_s, opLoad_s, h4, h5, hlen, hlt, x1, x2, opCall, argsOf, hC, c1, c2'] at hr
      exact ⟨_, _, hf.trans hf2, .inr ⟨1, by unfold clsW; rw [if_neg c1, if_pos c2], hr.symm, by simp only [sV, Nat.reduceEqDiff, reduceIte, Nat.reduceAdd]; rfl, by simp only [sV, Nat.reduceEqDiff, reduceIte, Nat.reduceAdd]⟩⟩
    by_cases c3 : classS (l[i] : Int) = 3
    · have c3' := eq_true c3
      simp only [L34_1, sA, reduceIte, Nat.reduceEqDiff, Int.reduceLT, Int.reduceLE, Int.reduceEq, Int.reduceNeg, reduceCtorEq, Nat.reduceAdd, opIaSl_s, opLoad_s, h4, h5, hlen, hlt, x1, x2, opCall, argsOf, hC, c1, c2, c3'] at hr
      exact ⟨_, _, hf.trans hf2, .inr ⟨1, by unfold clsW; rw [if_neg c1, if_neg c2, if_pos c3], hr.symm, by simp only [sV, Nat.reduceEqDiff, reduceIte, Nat.reduceAdd]; rfl, by simp only [sV, Nat.reduceEqDiff, reduceIte, Nat.reduceAdd]⟩⟩
    · simp only [L34_1, sA, reduceIte, Nat.reduceEqDiff, Int.reduceLT, Int.reduceLE, Int.reduceEq, Int.reduceNeg, reduceCtorEq, Nat.reduceAdd, opIaSl_s, opLoad_s, h4, h5, hlen, hlt, x1, x2, opCall, argsOf, hC, c1, c2, c3, hw] at hr
      have : clsW (classS (l[i] : Int)) = none := by unfold clsW; rw [if_neg c1, if_neg c2, if_neg c3]
      rw [this]
      exact first_rloop hv hb m (i + 1) _ σ2 r hr (by omega) (hf.trans hf2) (by simp only [sV, Nat.reduceEqDiff, reduceIte, Nat.reduceAdd, h4]) (by simp only [sV, Nat.reduceEqDiff, reduceIte, Nat.reduceAdd])

theorem rfirst_ok {s : List Nat} (σ : St) (hs : ∀ c ∈ s, c < 256) (hb : s.length < 1000000000) (hv : validS s = true) :
    ∃ σ', Fr σ σ' ∧ Cw TS false 34 [.str s] σ = some (wayV (firstS s), σ') := by
  obtain ⟨σ1, v, hf1, hR, hv1⟩ := Runes_ok σ hs hb hv
  have hle := runeL_le s.length s
  have he := clsL_rune s.length s (Nat.le_refl _)
  rw [Cw_of fn34 false _ σ rfl]
  simp only [c34, sA, reduceIte, Nat.reduceEqDiff, Int.reduceLT, Int.reduceLE, Int.reduceEq, Int.reduceNeg, reduceCtorEq, Nat.reduceAdd, opCall, argsOf, hR]
  generalize hr : Ew TS false (.loop L34_1) _ σ1 = r
  obtain ⟨e, σ', hf, ⟨h1, rfl⟩ | ⟨w, h1, rfl, h2, h3⟩⟩ := first_rloop hv1 (by omega) (runeL s.length s).length 0 _ σ1 r hr (by omega) (Fr.refl _) (by simp only [sV, Nat.reduceEqDiff, reduceIte, Nat.reduceAdd]) (by simp only [sV, Nat.reduceEqDiff, reduceIte, Nat.reduceAdd]; rfl)
  · have h1 : clsL (runeL s.length s) = none := h1
    rw [← he, h1]
    simp only [sA, reduceIte, Nat.reduceEqDiff, Int.reduceLT, Int.reduceLE, Int.reduceEq, Int.reduceNeg, reduceCtorEq, Nat.reduceAdd]
    exact ⟨_, hf1.trans hf, rfl⟩
  · have h1 : clsL (runeL s.length s) = some w := h1
    rw [← he, h1]
    simp only [sA, reduceIte, Nat.reduceEqDiff, Int.reduceLT, Int.reduceLE, Int.reduceEq, Int.reduceNeg, reduceCtorEq, Nat.reduceAdd, h2, h3]
    exact ⟨_, hf1.trans hf, rfl⟩
end Go.Ab.Dirs
end
