/- dirs.scan, element, State, Scan. -/
import Derived.Test.YthbanbnmomcohaaGreatDoorP20
set_option maxRecDepth 10000
noncomputable section
namespace Go.Ab.Dirs
open Go Go.Ab

theorem flts_cons {T : Tab} {cf : CF} {k : Nat} {σ : St} {f : Flt} {l : List Flt} : fltsStay T cf k σ (f :: l) = ((decide (f.hi < k) || stays T cf f.op f.env f.v σ) && fltsStay T cf k σ l) := rfl
theorem stays_eq {T : Tab} {cf : CF} {op : AOp} {env : Env} {v : AVal} {σ : St} : stays T cf op env v σ = (match stepOp T cf true op env σ with | some r => eqA v r.1 | none => false) := rfl

def wayV (o : Option Nat) : AVal := .tuple [.int .u8 ((o.getD 0 : Nat) : Int), .bool o.isSome]
/-- What scanning tells. -/
def scanS (t : List ND) (i : Nat) : Option Nat := scanF t t.length i

set_option maxHeartbeats 4000000 in
theorem scan_ok {σ : St} {t : List ND} {tv : AVal} (ht : TreeI σ tv t) (hwf : ∀ n ∈ t, NWF n) (hk : KidsT t) {i : Nat} (hi : i < t.length) :
    ∃ σ', Fr σ σ' ∧ Cw TS false 29 [tv, .int .i64 (i : Int)] σ = some (wayV (scanS t i), σ') := by
  have o1 := cells_one ht.one
  have hS : Sc σ (((((σ.new (.cells true 23 [tv])).new (.cells true 5 [.int .u8 0])).new (.cells true 4 [.bool false])).new (.cells true 69 [.nilf])).put (((σ.new (.cells true 23 [tv])).new (.cells true 5 [.int .u8 0])).new (.cells true 4 [.bool false])).next (.cells true 69 [.func 46 [] [.ptr σ.next 0, .ptr (((σ.new (.cells true 23 [tv])).new (.cells true 5 [.int .u8 0])).new (.cells true 4 [.bool false])).next 0, .ptr ((σ.new (.cells true 23 [tv])).new (.cells true 5 [.int .u8 0])).next 0, .ptr (σ.new (.cells true 23 [tv])).next 0]])) σ.next (((σ.new (.cells true 23 [tv])).new (.cells true 5 [.int .u8 0])).new (.cells true 4 [.bool false])).next ((σ.new (.cells true 23 [tv])).new (.cells true 5 [.int .u8 0])).next (σ.new (.cells true 23 [tv])).next tv none := by
    simp only [St.new_next]
    refine ⟨?_, ⟨true, 23, ?_⟩, ⟨true, 69, ?_⟩, ⟨true, 4, ?_⟩, ⟨true, 5, ?_⟩, ?_, ?_, ?_, ?_, ?_⟩
    · refine Fr.put ?_ (by omega) _
      exact (((Fr.new _ _).trans (Fr.new _ _)).trans (Fr.new _ _)).trans (Fr.new _ _)
    · rw [St.get_put_other _ _ (by omega), St.get_new_other _ _ (by simp only [St.new_next]; omega), St.get_new_other _ _ (by simp only [St.new_next]; omega), St.get_new_other _ _ (by simp only [St.new_next]; omega), St.get_new_same]
    · rw [St.get_put_same]
    · rw [St.get_put_other _ _ (by omega), St.get_new_other _ _ (by simp only [St.new_next]; omega)]
      exact St.get_new_same _ _
    · rw [St.get_put_other _ _ (by omega), St.get_new_other _ _ (by simp only [St.new_next]; omega), St.get_new_other _ _ (by simp only [St.new_next]; omega)]
      exact St.get_new_same _ _
    all_goals (try simp only [St.put_next, St.new_next]) <;> omega
  generalize e5 : ((((σ.new (.cells true 23 [tv])).new (.cells true 5 [.int .u8 0])).new (.cells true 4 [.bool false])).new (.cells true 69 [.nilf])).put (((σ.new (.cells true 23 [tv])).new (.cells true 5 [.int .u8 0])).new (.cells true 4 [.bool false])).next (.cells true 69 [.func 46 [] [.ptr σ.next 0, .ptr (((σ.new (.cells true 23 [tv])).new (.cells true 5 [.int .u8 0])).new (.cells true 4 [.bool false])).next 0, .ptr ((σ.new (.cells true 23 [tv])).new (.cells true 5 [.int .u8 0])).next 0, .ptr (σ.new (.cells true 23 [tv])).next 0]]) = σ5 at hS
  obtain ⟨σ6, hS6, -, hC⟩ := look_ok ht hwf hk t.length i hi (by omega) σ5 hS
  obtain ⟨fl, el, gl⟩ := hS.gl
  obtain ⟨fw, ew, gw⟩ := hS6.gw
  obtain ⟨ff, ef, gf⟩ := hS6.gf
  have hne := hS6.ne.1
  have g1 : ∀ o, (σ6.put (σ.new (.cells true 23 [tv])).next o).get ((σ.new (.cells true 23 [tv])).new (.cells true 5 [.int .u8 0])).next = some (.cells ff ef [.bool (scanF t t.length i).isSome]) := fun o => by rw [St.get_put_other _ _ hne]; exact gf
  have g2 : ∀ o o', ((σ6.put (σ.new (.cells true 23 [tv])).next o).put ((σ.new (.cells true 23 [tv])).new (.cells true 5 [.int .u8 0])).next o').get (σ.new (.cells true 23 [tv])).next = some o := fun o o' => by rw [St.get_put_other _ _ (Ne.symm hne), St.get_put_same]
  refine ⟨(σ6.put (σ.new (.cells true 23 [tv])).next (.cells fw ew [.int .u8 (((scanF t t.length i).getD 0 : Nat) : Int)])).put ((σ.new (.cells true 23 [tv])).new (.cells true 5 [.int .u8 0])).next (.cells ff ef [.bool (scanF t t.length i).isSome]), (hS6.fr.put hS.ew.1 _).put hS.ef.1 _, ?_⟩
  rw [Cw_of fn29 false _ σ rfl]
  simp only [c29, sC, reduceIte, Nat.reduceEqDiff, stepOp, sD, envOf_cons, envOf_nil, Nat.reduceAdd, fin_ret, opBox, opAlloc, St.newK_eq, o1, Bool.false_eq_true, opMkFunc, argsOf, opMov, opStore_s, stS_ptr, St.get_new_same, cells_func, allOne, one_func, lenL_eq, List.length_cons, List.length_nil, Nat.zero_add, Bool.and_true, and_true, putX_all1, e5, opLoad_s, ldA_ptr, gl, dropX_zero, loadL_none, opCallV, List.nil_append, List.cons_append, hC, gw, gf, Nat.lt_add_one, flts_cons, stays_eq, g1, eqA, beq_self_eq_true, cells_int, one_int, cells_bool, one_bool, Nat.lt_irrefl, decide_false, Bool.false_or, decide_true, Bool.true_or, resV, resAll, resOne, g2, St.get_put_same]
  rfl
end Go.Ab.Dirs
end
