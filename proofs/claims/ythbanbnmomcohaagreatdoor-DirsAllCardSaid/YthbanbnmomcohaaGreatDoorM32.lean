/- selvedgekit.Size: what is small. -/
import Derived.Test.YthbanbnmomcohaaGreatDoorM31
import Derived.Test.YthbanbnmomcohaaGreatDoorM21
set_option linter.all false
set_option linter.unusedSimpArgs false
set_option maxRecDepth 100000
noncomputable section
namespace Go.Ab.Dirs
open Go Go.Ab

/-- What lies in a process's memory. -/
structure BN (m : Nat) (n : ND) : Prop where
  name : n.name.length ≤ m
  data : n.data.length ≤ m
  alen : n.attrs.length ≤ m
  klen : n.kids.length ≤ m
  a1 : ∀ a ∈ n.attrs, a.1.length ≤ m
  a2 : ∀ a ∈ n.attrs, a.2.length ≤ m
def BT (m : Nat) (t : List ND) : Prop := t.length ≤ m ∧ ∀ n ∈ t, BN m n
theorem BT.at' {m : Nat} {t : List ND} (h : BT m t) {i : Nat} (hi : i < t.length) : BN m (t.getD i nd0) := by rw [getD_lt hi]; exact h.2 _ (List.getElem_mem _)
theorem BT.short {t : List ND} (h : BT 10000 t) : Short t := fun n hn => ⟨by have := (h.2 n hn).data; omega, fun a ha => by have := (h.2 n hn).a2 a ha; omega⟩

set_option maxHeartbeats 8000000 in
theorem Size_sm {σ : St} {t : List ND} {tv : AVal} (ht : TreeI σ tv t) (hB : BT 140737488355328 t) {top : Nat} (htop : top ≤ 1000000) : CW TS false 9 [tv, .int .i64 (top : Int)] σ fun v s => ∃ r : Nat, v = .int .i64 (r : Int) ∧ s = σ ∧ (r ≤ top → BT top t) := by
  have hB0 := hB.1
  refine CW_of fn9 rfl ?_
  repeat' (first | ((first | apply RG_step | apply DG_step | apply DG_read); focus (intro hgd; have hgd2 := hgd; (try simp only [sB] at hgd); (try simp only [sP] at hgd2); simp (maxSteps := 1000000) (disch := (first | omega | assumption | exact Fr.refl _)) only [hgd, sR, reduceIte, Nat.reduceEqDiff, Int.reduceLT, Int.reduceLE, Int.reduceEq, Int.reduceNeg, reduceCtorEq, Nat.reduceAdd, Int.reduceToNat, c9, ht.len]; exact StepIs_refl)) | ((first | refine Br_intro ?_ ?_ | refine BrB_intro ?_ ?_) <;> intro hbr hbe <;> simp (maxSteps := 1000000) (disch := (first | omega | assumption | exact Fr.refl _)) only [hbe, sR, reduceIte, Nat.reduceEqDiff, Int.reduceLT, Int.reduceLE, Int.reduceEq, Int.reduceNeg, reduceCtorEq, Nat.reduceAdd, Int.reduceToNat, c9, ht.len] <;> clear hbe) | simp (maxSteps := 1000000) (disch := (first | omega | assumption | exact Fr.refl _)) only [sR, reduceIte, Nat.reduceEqDiff, Int.reduceLT, Int.reduceLE, Int.reduceEq, Int.reduceNeg, reduceCtorEq, Nat.reduceAdd, Int.reduceToNat, c9, ht.len])
  refine W_loop (fun m e s => ∃ (i n : Nat), i + m = t.length ∧ s = σ ∧ V e 0 = tv ∧ V e 1 = .int .i64 (top : Int) ∧ V e 5 = .int .i64 (n : Int) ∧ V e 6 = .int .i64 (i : Int) ∧ n ≤ top + 10 * 140737488355328 ∧ t.length ≤ n ∧ (n ≤ top → ∀ j, j < i → BN top (t.getD j nd0))) t.length ⟨0, t.length, by omega, rfl, by simp only [sV, Nat.reduceEqDiff, reduceIte, Nat.reduceAdd], by simp only [sV, Nat.reduceEqDiff, reduceIte, Nat.reduceAdd], by simp only [sV, Nat.reduceEqDiff, reduceIte, Nat.reduceAdd], by simp only [sV, Nat.reduceEqDiff, reduceIte, Nat.reduceAdd]; rfl, by omega, by omega, fun _ j h => by omega⟩ ?_
  rintro m e s ⟨i, n, him, rfl, v0, v1, v5, v6, hn, hnl, hI⟩
  repeat' (first | ((first | apply RG_step | apply DG_step | apply DG_read); focus (intro hgd; have hgd2 := hgd; (try simp only [sB] at hgd); (try simp only [sP] at hgd2); simp (maxSteps := 1000000) (disch := (first | omega | assumption | exact Fr.refl _)) only [hgd, sR, reduceIte, Nat.reduceEqDiff, Int.reduceLT, Int.reduceLE, Int.reduceEq, Int.reduceNeg, reduceCtorEq, Nat.reduceAdd, Int.reduceToNat, L9_2, v0, v1, v5, v6, ht.len]; exact StepIs_refl)) | ((first | refine Br_intro ?_ ?_ | refine BrB_intro ?_ ?_) <;> intro hbr hbe <;> simp (maxSteps := 1000000) (disch := (first | omega | assumption | exact Fr.refl _)) only [hbe, sR, reduceIte, Nat.reduceEqDiff, Int.reduceLT, Int.reduceLE, Int.reduceEq, Int.reduceNeg, reduceCtorEq, Nat.reduceAdd, Int.reduceToNat, L9_2, v0, v1, v5, v6, ht.len] <;> clear hbe) | simp (maxSteps := 1000000) (disch := (first | omega | assumption | exact Fr.refl _)) only [sR, reduceIte, Nat.reduceEqDiff, Int.reduceLT, Int.reduceLE, Int.reduceEq, Int.reduceNeg, reduceCtorEq, Nat.reduceAdd, Int.reduceToNat, L9_2, v0, v1, v5, v6, ht.len])
  · simp only [Bool.and_eq_true, decide_eq_true_eq] at hbr
    have hi : i < t.length := by omega
    have hI := hI (by omega)
    obtain ⟨b1, b2, b3, b4, b5, b6⟩ := hB.at' hi
    have hA := ht.as hi
    repeat' (first | ((first | apply RG_step | apply DG_step | apply DG_read); focus (intro hgd; have hgd2 := hgd; (try simp only [sB] at hgd); (try simp only [sP] at hgd2); simp (maxSteps := 1000000) (disch := (first | omega | assumption | exact Fr.refl _)) only [hgd, sR, reduceIte, Nat.reduceEqDiff, Int.reduceLT, Int.reduceLE, Int.reduceEq, Int.reduceNeg, reduceCtorEq, Nat.reduceAdd, Int.reduceToNat, v0, v1, v5, v6, ht.ixz, ht.a1, ht.n1, ht.a2, ht.n2, ht.a3, ht.n3, ht.a5, ht.n5, ht.kl, ht.al, w_add]; exact StepIs_refl)) | ((first | refine Br_intro ?_ ?_ | refine BrB_intro ?_ ?_) <;> intro hbr hbe <;> simp (maxSteps := 1000000) (disch := (first | omega | assumption | exact Fr.refl _)) only [hbe, sR, reduceIte, Nat.reduceEqDiff, Int.reduceLT, Int.reduceLE, Int.reduceEq, Int.reduceNeg, reduceCtorEq, Nat.reduceAdd, Int.reduceToNat, v0, v1, v5, v6, ht.ixz, ht.a1, ht.n1, ht.a2, ht.n2, ht.a3, ht.n3, ht.a5, ht.n5, ht.kl, ht.al, w_add] <;> clear hbe) | simp (maxSteps := 1000000) (disch := (first | omega | assumption | exact Fr.refl _)) only [sR, reduceIte, Nat.reduceEqDiff, Int.reduceLT, Int.reduceLE, Int.reduceEq, Int.reduceNeg, reduceCtorEq, Nat.reduceAdd, Int.reduceToNat, v0, v1, v5, v6, ht.ixz, ht.a1, ht.n1, ht.a2, ht.n2, ht.a3, ht.n3, ht.a5, ht.n5, ht.kl, ht.al, w_add])
    generalize hn0 : n + (t.getD i nd0).name.length + (t.getD i nd0).data.length + (t.getD i nd0).kids.length + (t.getD i nd0).attrs.length = n0
    refine W_loop (fun m' e s' => ∃ (k n' : Nat), k + m' = (t.getD i nd0).attrs.length ∧ s' = s ∧ V e 0 = tv ∧ V e 1 = .int .i64 (top : Int) ∧ V e 5 = .int .i64 (n' : Int) ∧ V e 6 = .int .i64 (i : Int) ∧ V e 7 = .int .i64 (k : Int) ∧ n' ≤ top + 10 * 140737488355328 ∧ n0 ≤ n' ∧ (n' ≤ top → ∀ j, j < k → ((t.getD i nd0).attrs.getD j at0).1.length ≤ top ∧ ((t.getD i nd0).attrs.getD j at0).2.length ≤ top)) (t.getD i nd0).attrs.length ⟨0, n0, by omega, rfl, by simp only [sV, Nat.reduceEqDiff, reduceIte, Nat.reduceAdd, v0], by simp only [sV, Nat.reduceEqDiff, reduceIte, Nat.reduceAdd, v1], by simp only [sV, Nat.reduceEqDiff, reduceIte, Nat.reduceAdd], by simp only [sV, Nat.reduceEqDiff, reduceIte, Nat.reduceAdd, v6], by simp only [sV, Nat.reduceEqDiff, reduceIte, Nat.reduceAdd]; rfl, by omega, by omega, fun _ j h => by omega⟩ ?_
    clear v0 v1 v5 v6
    rintro m' e s' ⟨k, n', hkm, rfl, v0, v1, v5, v6, v7, hn', hnn, hJ⟩
    repeat' (first | ((first | apply RG_step | apply DG_step | apply DG_read); focus (intro hgd; have hgd2 := hgd; (try simp only [sB] at hgd); (try simp only [sP] at hgd2); simp (maxSteps := 1000000) (disch := (first | omega | assumption | exact Fr.refl _)) only [hgd, sR, reduceIte, Nat.reduceEqDiff, Int.reduceLT, Int.reduceLE, Int.reduceEq, Int.reduceNeg, reduceCtorEq, Nat.reduceAdd, Int.reduceToNat, L9_1, v0, v1, v5, v6, v7, ht.ixz, ht.a2, ht.n2, ht.al]; exact StepIs_refl)) | ((first | refine Br_intro ?_ ?_ | refine BrB_intro ?_ ?_) <;> intro hbr hbe <;> simp (maxSteps := 1000000) (disch := (first | omega | assumption | exact Fr.refl _)) only [hbe, sR, reduceIte, Nat.reduceEqDiff, Int.reduceLT, Int.reduceLE, Int.reduceEq, Int.reduceNeg, reduceCtorEq, Nat.reduceAdd, Int.reduceToNat, L9_1, v0, v1, v5, v6, v7, ht.ixz, ht.a2, ht.n2, ht.al] <;> clear hbe) | simp (maxSteps := 1000000) (disch := (first | omega | assumption | exact Fr.refl _)) only [sR, reduceIte, Nat.reduceEqDiff, Int.reduceLT, Int.reduceLE, Int.reduceEq, Int.reduceNeg, reduceCtorEq, Nat.reduceAdd, Int.reduceToNat, L9_1, v0, v1, v5, v6, v7, ht.ixz, ht.a2, ht.n2, ht.al])
    · simp only [Bool.and_eq_true, decide_eq_true_eq] at hbr
      have hk : k < (t.getD i nd0).attrs.length := by omega
      have ha : (t.getD i nd0).attrs.getD k at0 ∈ (t.getD i nd0).attrs := by rw [getD_lt hk]; exact List.getElem_mem _
      have c1 := b5 _ ha
      have c2 := b6 _ ha
      have hJ := hJ (by omega)
      repeat' (first | ((first | apply RG_step | apply DG_step | apply DG_read); focus (intro hgd; have hgd2 := hgd; (try simp only [sB] at hgd); (try simp only [sP] at hgd2); simp (maxSteps := 1000000) (disch := (first | omega | assumption | exact Fr.refl _)) only [hgd, sR, reduceIte, Nat.reduceEqDiff, Int.reduceLT, Int.reduceLE, Int.reduceEq, Int.reduceNeg, reduceCtorEq, Nat.reduceAdd, Int.reduceToNat, v0, v1, v5, v6, v7, ht.ixz, ht.a2, ht.n2, hA.ixz, hA.f0, hA.f1, hA.l0, hA.l1, w_add, w_add1]; exact StepIs_refl)) | ((first | refine Br_intro ?_ ?_ | refine BrB_intro ?_ ?_) <;> intro hbr hbe <;> simp (maxSteps := 1000000) (disch := (first | omega | assumption | exact Fr.refl _)) only [hbe, sR, reduceIte, Nat.reduceEqDiff, Int.reduceLT, Int.reduceLE, Int.reduceEq, Int.reduceNeg, reduceCtorEq, Nat.reduceAdd, Int.reduceToNat, v0, v1, v5, v6, v7, ht.ixz, ht.a2, ht.n2, hA.ixz, hA.f0, hA.f1, hA.l0, hA.l1, w_add, w_add1] <;> clear hbe) | simp (maxSteps := 1000000) (disch := (first | omega | assumption | exact Fr.refl _)) only [sR, reduceIte, Nat.reduceEqDiff, Int.reduceLT, Int.reduceLE, Int.reduceEq, Int.reduceNeg, reduceCtorEq, Nat.reduceAdd, Int.reduceToNat, v0, v1, v5, v6, v7, ht.ixz, ht.a2, ht.n2, hA.ixz, hA.f0, hA.f1, hA.l0, hA.l1, w_add, w_add1])
      refine ⟨m' - 1, by omega, k + 1, n' + ((t.getD i nd0).attrs.getD k at0).1.length + ((t.getD i nd0).attrs.getD k at0).2.length, by omega, rfl, by simp only [sV, Nat.reduceEqDiff, reduceIte, Nat.reduceAdd, v0], by simp only [sV, Nat.reduceEqDiff, reduceIte, Nat.reduceAdd, v1], by simp only [sV, Nat.reduceEqDiff, reduceIte, Nat.reduceAdd], by simp only [sV, Nat.reduceEqDiff, reduceIte, Nat.reduceAdd, v6], by simp only [sV, Nat.reduceEqDiff, reduceIte, Nat.reduceAdd], by omega, by omega, fun h j hj => ?_⟩
      by_cases hjk : j = k
      · subst hjk; omega
      · exact hJ j (by omega)
    · simp only [Bool.and_eq_false_iff, decide_eq_false_iff_not] at hbr
      repeat' (first | ((first | apply RG_step | apply DG_step | apply DG_read); focus (intro hgd; have hgd2 := hgd; (try simp only [sB] at hgd); (try simp only [sP] at hgd2); simp (maxSteps := 1000000) (disch := (first | omega | assumption | exact Fr.refl _)) only [hgd, sR, reduceIte, Nat.reduceEqDiff, Int.reduceLT, Int.reduceLE, Int.reduceEq, Int.reduceNeg, reduceCtorEq, Nat.reduceAdd, Int.reduceToNat, v0, v1, v5, v6, v7, w_add1]; exact StepIs_refl)) | ((first | refine Br_intro ?_ ?_ | refine BrB_intro ?_ ?_) <;> intro hbr hbe <;> simp (maxSteps := 1000000) (disch := (first | omega | assumption | exact Fr.refl _)) only [hbe, sR, reduceIte, Nat.reduceEqDiff, Int.reduceLT, Int.reduceLE, Int.reduceEq, Int.reduceNeg, reduceCtorEq, Nat.reduceAdd, Int.reduceToNat, v0, v1, v5, v6, v7, w_add1] <;> clear hbe) | simp (maxSteps := 1000000) (disch := (first | omega | assumption | exact Fr.refl _)) only [sR, reduceIte, Nat.reduceEqDiff, Int.reduceLT, Int.reduceLE, Int.reduceEq, Int.reduceNeg, reduceCtorEq, Nat.reduceAdd, Int.reduceToNat, v0, v1, v5, v6, v7, w_add1])
      refine ⟨m - 1, by omega, i + 1, n', by omega, rfl, by simp only [sV, Nat.reduceEqDiff, reduceIte, Nat.reduceAdd, v0], by simp only [sV, Nat.reduceEqDiff, reduceIte, Nat.reduceAdd, v1], by simp only [sV, Nat.reduceEqDiff, reduceIte, Nat.reduceAdd, v5], by simp only [sV, Nat.reduceEqDiff, reduceIte, Nat.reduceAdd], by omega, by omega, fun h j hj => ?_⟩
      by_cases hji : j = i
      · subst hji
        have hJ := hJ h
        refine ⟨by omega, by omega, by omega, by omega, fun a ha => ?_, fun a ha => ?_⟩
        · obtain ⟨x, hx, rfl⟩ := List.mem_iff_getElem.1 ha
          rw [← getD_lt hx at0]; exact (hJ x (by omega)).1
        · obtain ⟨x, hx, rfl⟩ := List.mem_iff_getElem.1 ha
          rw [← getD_lt hx at0]; exact (hJ x (by omega)).2
      · exact hI j (by omega)
  · simp only [Bool.and_eq_false_iff, decide_eq_false_iff_not] at hbr
    have hw : wrapI .i64 ((top : Int) + 1) = ((top + 1 : Nat) : Int) := w_add1 (by omega)
    repeat' (first | ((first | apply RG_step | apply DG_step | apply DG_read); focus (intro hgd; have hgd2 := hgd; (try simp only [sB] at hgd); (try simp only [sP] at hgd2); simp (maxSteps := 1000000) (disch := (first | omega | assumption | exact Fr.refl _)) only [hgd, sR, reduceIte, Nat.reduceEqDiff, Int.reduceLT, Int.reduceLE, Int.reduceEq, Int.reduceNeg, reduceCtorEq, Nat.reduceAdd, Int.reduceToNat, opMn, v1, v5, hw]; exact StepIs_refl)) | ((first | refine Br_intro ?_ ?_ | refine BrB_intro ?_ ?_) <;> intro hbr hbe <;> simp (maxSteps := 1000000) (disch := (first | omega | assumption | exact Fr.refl _)) only [hbe, sR, reduceIte, Nat.reduceEqDiff, Int.reduceLT, Int.reduceLE, Int.reduceEq, Int.reduceNeg, reduceCtorEq, Nat.reduceAdd, Int.reduceToNat, opMn, v1, v5, hw] <;> clear hbe) | simp (maxSteps := 1000000) (disch := (first | omega | assumption | exact Fr.refl _)) only [sR, reduceIte, Nat.reduceEqDiff, Int.reduceLT, Int.reduceLE, Int.reduceEq, Int.reduceNeg, reduceCtorEq, Nat.reduceAdd, Int.reduceToNat, opMn, v1, v5, hw])
    refine ⟨if n ≤ top + 1 then n else top + 1, ?_, fun h => ?_⟩
    · split <;> split <;> first | rfl | omega
    · have hnt : n ≤ top := by split at h <;> omega
      refine ⟨by omega, fun x hx => ?_⟩
      obtain ⟨j, hj, rfl⟩ := List.mem_iff_getElem.1 hx
      rw [← getD_lt hj nd0]; exact hI hnt j (by omega)
end Go.Ab.Dirs
end

set_option maxRecDepth 100000
noncomputable section
namespace Go.Ab.Dirs
open Go Go.Ab Go.Proofs Go.RowKit

section
variable {H : Type}
theorem by9 : Tryz.prog.bytesOf 39 = 32 := by kernel_rfl
theorem by36 : Tryz.prog.bytesOf 36 = 96 := by kernel_rfl
theorem by3 : Tryz.prog.bytesOf 3 = 8 := by kernel_rfl
theorem all2_bound {α : Type} {f : DataW H → α → Prop} {e : TypeId} {R : Nat} {B : α → Prop} (hf : ∀ d a, f d a → (∀ w ∈ d.weights Tryz.prog e, w ≤ R) → B a) : ∀ {es : List (DataW H)} {l : List α}, All2 f es l → (∀ w ∈ DataW.weightsAll Tryz.prog e es, w ≤ R) → ∀ a ∈ l, B a
  | _, _, .nil, _ => fun a ha => by simp at ha
  | _, _, .cons hd ht, hw => by
    simp only [DataW.weightsAll, List.mem_append] at hw
    intro a ha
    rcases List.mem_cons.1 ha with rfl | ha
    · exact hf _ _ hd fun w h => hw w (.inl h)
    · exact all2_bound hf ht (fun w h => hw w (.inr h)) a ha
theorem row_bound {α : Type} {f : DataW H → α → Prop} {t e : TypeId} (hu : Tryz.prog.underlying t = some (.slice e)) {b R : Nat} (hb : Tryz.prog.bytesOf e = b) {B : α → Prop} (hf : ∀ d a, f d a → (∀ w ∈ d.weights Tryz.prog e, w ≤ R) → B a) {d : DataW H} {l : List α} (h : RowOf f d l) (hw : ∀ w ∈ d.weights Tryz.prog t, w ≤ R) : l.length * b ≤ R ∧ ∀ a ∈ l, B a := by
  cases h with
  | nil => exact ⟨by simp, fun a ha => by simp at ha⟩
  | slice hl hh =>
    rename_i es rest
    simp only [DataW.weights, hu, hb, List.mem_cons, List.mem_append] at hw
    refine ⟨?_, all2_bound hf hh fun w h => hw w (.inr (.inl h))⟩
    have := hw _ (.inl rfl)
    rw [← hh.len]
    exact Nat.le_trans (Nat.mul_le_mul_right b (Nat.le_add_right _ _)) this
theorem attr_bound {R : Nat} (d : DataW H) (a : AttrD) (h : AttrOf d a) (hw : ∀ w ∈ d.weights Tryz.prog 39, w ≤ R) : a.1.length ≤ R ∧ a.2.length ≤ R := by
  obtain ⟨b1, b2, rfl, rfl, _, _⟩ := h
  simp only [DataW.weights, Tryz.underlying39, DataW.weightsEach, List.map_cons, List.map_nil, List.mem_append, List.mem_singleton, List.not_mem_nil, or_false] at hw
  exact ⟨by simp only [bN, List.length_map]; exact hw _ (.inl rfl), by simp only [bN, List.length_map]; exact hw _ (.inr rfl)⟩
theorem int_bound {R : Nat} (d : DataW H) (n : Int) (_ : IntOf d n) (_ : ∀ w ∈ d.weights Tryz.prog 3, w ≤ R) : True := trivial
theorem node_bound {R : Nat} (d : DataW H) (n : ND) (h : NodeOf d n) (hw : ∀ w ∈ d.weights Tryz.prog 36, w ≤ R) : BN R n := by
  obtain ⟨k, nm, ad, dt, kd, rfl, rfl, h1, h2, h3, h4, h5, h6⟩ := h
  simp only [DataW.weights, Tryz.underlying36, DataW.weightsEach, List.map_cons, List.map_nil, List.mem_append, List.mem_singleton, List.not_mem_nil, or_false, false_or] at hw
  have ha := row_bound (R := R) Tryz.underlying33 by9 attr_bound h5 fun w h => hw w (.inr (.inl h))
  have hk := row_bound (R := R) Tryz.underlying34 by3 int_bound h6 fun w h => hw w (.inr (.inr (.inr h)))
  exact ⟨by rw [h1, bN, List.length_map]; exact hw _ (.inl rfl), by rw [h2, bN, List.length_map]; exact hw _ (.inr (.inr (.inl rfl))), by omega, by omega, fun a h => (ha.2 a h).1, fun a h => (ha.2 a h).2⟩
theorem tree_bound {R : Nat} {d : DataW H} {t : List ND} (h : RowOf NodeOf d t) (hw : ∀ w ∈ d.weights Tryz.prog 23, w ≤ R) : BT R t := by
  have := row_bound (R := R) Tryz.underlying23 by36 node_bound h hw
  exact ⟨by omega, this.2⟩

/-- What is handed to a law as its tree. -/
theorem tree_argW {enc : TypeId × Value → H} {sp : Nat → Bool} {held : Bool} {W : World} {base : Nat} {v : Value} {d : DataW H} {p : List MemPlace} (hv : Value.okWide Tryz.prog W .any base 23 v) (h : DataW.Trod enc Tryz.prog W 0 sp held 23 v d p) (hw : ∀ w ∈ d.weights Tryz.prog 23, w ≤ reachBytes) :
    ∃ a t, VR W [] a v ∧ (∀ σ, TreeI σ a t) ∧ (∀ x ∈ t, NWF x) ∧ t.length < 9223372036854775808 ∧ BT 140737488355328 t := by
  obtain ⟨x, len, cap, rfl⟩ := Go.WideShapes.okWide_slice Tryz.underlying23 hv
  obtain ⟨fuel, hf⟩ := h
  obtain ⟨t, ht⟩ := tree_of hf
  obtain ⟨a, h1, h2, h3, h4⟩ := tree_dav ht
  have hS := OKS.of (P := Tryz.prog) (S := SS) tt_ok
  obtain ⟨hvr, -⟩ := trod_VRs hS fuel 6 23 _ d p [a] hf h1
  refine ⟨a, t, ?_, h2, h3, h4, tree_bound ht fun w hm => Nat.le_trans (hw w hm) (by decide)⟩
  have hc : (Value.slice x len cap).cells.toList = [.slice x len cap] := rfl
  rw [hc] at hvr
  obtain ⟨y, ys, e, hy, -⟩ := hvr
  cases e
  exact hy
end
end Go.Ab.Dirs
end
